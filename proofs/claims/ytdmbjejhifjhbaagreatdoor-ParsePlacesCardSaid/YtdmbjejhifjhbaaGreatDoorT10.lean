/- The layer: Go code as conditions, and that they are sound. No condition. -/
import Derived.Test.YtdmbjejhifjhbaaGreatDoorT09
import Derived.Deep.LoopGhost
import Derived.Maps.RangeRun
set_option linter.unusedVariables false
set_option linter.unusedSimpArgs false
set_option linter.unnecessarySimpa false
set_option linter.deprecated false
set_option linter.unusedSectionVars false
set_option maxRecDepth 100000
section
namespace Go.AL
theorem nP {K V:Type} [DecidableEq K]:∀(m:List (K × V)) (k k':K) (v:V),fy (lY m k v) k'=if k'=k then some v else fy m k'
 | [],k,k',v=>by simp [lY,fy]
 | (a,u) ::r,k,k',v=>by
  simp only [lY]
  by_cases h:k=a
  ·subst h
   rw [if_pos rfl]
   by_cases h':k'=k <;> simp [fy,h']
  ·rw [if_neg h]
   simp only [fy,nP r k k' v]
   by_cases h1:k'=a
   ·subst h1
    simp [Ne.symm h]
   ·simp [h1]
variable [Tabs]
open Go.ChangeMaps (setBlock)
theorem Holds.aside {F:Fr} {s:AS} {a:Act} {Ω:Om} (h:Holds F s a Ω) {w':World} {r:Nat} (os:w'.os=Ω.w.os) (tape:w'.tape=Ω.w.tape) (output:w'.output=Ω.w.output) (size:Ω.w.heap.size<=w'.heap.size)
  (hb:∀b,b < Ω.w.heap.size→b≠r→w'.heap[b]?=Ω.w.heap[b]?) (hr:F.w0.heap.size<=r) (hnp:∀o,¬Ω.pub r o) (hno:∀id c o,Ω.e id=some c→¬occ c r o):Holds F s a ⟨Ω.e,w',Ω.pub⟩:=by
 have pne:∀b o,Ω.pub b o→b < Ω.w.heap.size/\b≠r:=fun b o hp=>⟨let ⟨_,hv⟩:=h.pubok b o hp;bd hv,fun e=>hnp o (e ▸ hp)⟩
 have hx:Ext Ω ⟨Ω.e,w',Ω.pub⟩:=⟨fun _ c hc=>⟨c,hc,CLe.refl c⟩,fun _ _ p=>p,fun b o p=>ay (hb b (pne b o p).1 (pne b o p).2) o⟩
 have old:∀b,b < F.w0.heap.size→w'.heap[b]?=Ω.w.heap[b]?:=fun b hlt=>hb b (Nat.lt_of_lt_of_le hlt h.frame.size) (by omega)
 refine ⟨fun i=>(h.tmps i).ext hx,h.size,h.defers,fun id o ho=>(h.slots id o ho).keep hx rfl (fun c hc=>mL.of_blocks fun b o hbo=>⟨hb b (h.blk hc hbo) (fun e=>hno id c o hc (e ▸ hbo)),fun _ p=>p⟩),h.dom,h.inj,
  fun b o p=>let ⟨v,hv⟩:=h.pubok b o p;⟨v,by rw [←hv];exact hx.cell b o p⟩,h.keep,?_⟩
 refine ⟨os.trans h.frame.os,tape.trans h.frame.tape,output.trans h.frame.output,Nat.le_trans h.frame.size size,fun b hlt hn=>(old b hlt).trans (h.frame.block b hlt hn),fun b o hlt hn=>(ay (old b hlt) o).trans (h.frame.cell b o hlt hn),
  fun b hlt hn=>⟨(bA (old b hlt)).trans (h.frame.kind b hlt hn).1,fun o=>(ba (old b hlt) o).trans ((h.frame.kind b hlt hn).2 o)⟩,h.frame.pub,h.frame.old,fun b o p=>(hx.cell b o (h.frame.old b o p)).trans (h.frame.pcell b o p)⟩
theorem Holds.weak {F:Fr} {s s':AS} {a:Act} {Ω:Om} (h:Holds F s a Ω) (hT:∀i,s'.T i=.undef∨s'.T i=s.T i) (hB:s'.B=s.B):Holds F s' a Ω:=
 ⟨fun i=>by
  rcases hT i with e | e
  ·rw [e];exact .undef _
  ·rw [e];exact h.tmps i,h.size,h.defers,by rw [hB];exact h.slots,by rw [hB];exact h.dom,h.inj,h.pubok,h.keep,h.frame⟩
theorem oC {K V:Type} [DecidableEq K]:∀(m:List (K × V)) (k:K),(fy m k).isSome=true↔∃x∈m,x.1=k
 | [],k=>by simp [fy]
 | (a,u) ::r,k=>by
  simp only [fy]
  by_cases h:k=a
  ·subst h;simp
  ·rw [if_neg h,oC r k]
   constructor
   ·rintro ⟨x,hx,e⟩;exact ⟨x,by simp [hx],e⟩
   ·rintro ⟨x,hx,e⟩
    rcases List.mem_cons.1 hx with rfl | hx
    ·exact absurd e.symm h
    ·exact ⟨x,hx,e⟩
section
variable {P:Program} {C:Cfg} {F:Fr}
theorem dz {ops:Array Oper} {Q:Exit→Act→World→Prop} {i:Nat} {rest:List Nat} {o:Oper} {a:Act} {w:World} (hi:ops[i]?=some o) (hg:o.guard=none)
  (h:o.wp P a w (wpOps P ops Q rest) Q):wpOps P ops Q (i ::rest) a w:=by
 unfold wpOps
 rw [hi]
 have:Region.wanted o (yielded ops a.tmps)=true:=by unfold Region.wanted;rw [hg]
 simp only [this,if_true]
 exact .inl h
structure KLcode (L:KL) (a b:Code):Prop where
 code:∃i1 i2 i3 i4 x y ty1 ps1 af1 ty2 ps2 af2 ty3 ps3 af3 ty4 ps4 af4 ty5 ps5 af5 ty6 ps6 af6 ty7 ps7 af7 ty8 ps8 af8 ty9 ps9 af9 ty10 ps10 af10,
  a=.region i1 #[⟨some L.m1,.move L.src,ty1,ps1,af1,none⟩,⟨some L.it,.range L.t (.tmp L.m1),ty2,ps2,af2,none⟩] false/\
  b=.block x (.loop (.seq (.region i2 #[⟨some L.nx,.next (.tmp L.it) false,ty3,ps3,af3,none⟩,⟨some L.c,.extract (.tmp L.nx) 0,ty4,ps4,af4,none⟩] false) (.seq (.cond (.tmp L.c) .skip (.exit x)) (.block y (.seq
   (.region i3 #[⟨some L.en,.entry (.tmp L.it),ty5,ps5,af5,none⟩,⟨some L.k1,.extract (.tmp L.en) 0,ty6,ps6,af6,none⟩,⟨some L.kv,.assign (.tmp L.k1),ty7,ps7,af7,none⟩] false)
   (.region i4 #[⟨some L.d1,.move (.tmp L.dst),ty8,ps8,af8,none⟩,⟨some L.k2,.move (.tmp L.kv),ty9,ps9,af9,none⟩,⟨none,.mapUpdate L.t2 (.tmp L.d1) (.tmp L.k2) (.const (.int .i64 L.n)),ty10,ps10,af10,none⟩] false))))))
 rng:okC .i64 L.n=true
 dis:bX [L.m1,L.it,L.nx,L.c,L.en,L.k1,L.kv,L.d1,L.k2,L.dst]=true
theorem AK {a b:Code} {L:KL} (h:pI a b=some L):KLcode L a b:=by
 unfold pI at h
 split at h
 ·rename_i i1 r1 x i2 r2 c x2 y i3 r3 i4 r4
  split at h
  ·rename_i h1 h2 h3 h4
   split at h
   ·rename_i hc
    simp only [Bool.and_eq_true,beq_iff_eq] at hc
    obtain ⟨⟨⟨⟨⟨⟨⟨⟨⟨⟨⟨⟨rfl,rfl⟩,rfl⟩,rfl⟩,rfl⟩,rfl⟩,rfl⟩,rfl⟩,rfl⟩,rfl⟩,rfl⟩,hr⟩,hd⟩:=hc
    simp only [Xs] at h
    subst h
    have e1:=congrArg List.toArray h1
    have e2:=congrArg List.toArray h2
    have e3:=congrArg List.toArray h3
    have e4:=congrArg List.toArray h4
    simp only [Array.toArray_toList] at e1 e2 e3 e4
    subst e1 e2 e3 e4
    exact ⟨⟨_,_,_,_,_,_,_,_,_,_,_,_,_,_,_,_,_,_,_,_,_,_,_,_,_,_,_,_,_,_,_,_,_,_,_,_,rfl,rfl⟩,hr,hd⟩
   ·cases h
  ·cases h
 ·cases h
theorem cZ {a:Act} {n d i:Nat} {v:Value} (hs:a.tmps.size=n) (hd:d < n):(a.put (some d) v).tmps.getD i undef=if d=i then v else a.tmps.getD i undef:=by
 simp only [Act.put]
 by_cases h:d=i
 ·subst h;rw [if_pos rfl];simp [Array.getD_eq_getD_getElem?,hs,hd]
 ·rw [if_neg h];simp [Array.getD_eq_getD_getElem?,h]
structure KInv (F:Fr) (L:KL) (s:St) (i j bm r:Nat) (es:Array MapEntry) (clock:Nat) (md:List (Str × Int)) (seen:Array Nat) (a:Act) (Ω:Om) (d:List (Str × Int)):Prop where
 hh:Holds F ⟨fun k=>if L.wr.contains k then .undef else bD s.t k,fun k=>if j=k then some (.map .str (.int .i64) d) else ax s.b k⟩ a Ω
 it:a.tmps.getD L.it undef=.pointer (some ⟨r,0,none⟩)
 iter:∃c0,clock<=c0/\Ω.w.heap[r]?=some (.mapIter (some bm) clock seen c0)
 map:Ω.w.heap[bm]?=some (.map es clock)
 own:F.w0.heap.size<=r
 np:∀o,¬Ω.pub r o
 no:∀id c o,Ω.e id=some c→¬occ c r o
 ei:Ω.e i=some (.obj bm)
 ne:i≠j
 yes:∀k,(∃e∈es.toList,e.key=.string ⟨k.toArray⟩/\seen.contains e.born=true)→fy d k=some L.n
 not:∀k,(¬∃e∈es.toList,e.key=.string ⟨k.toArray⟩/\seen.contains e.born=true)→fy d k=fy md k
theorem AM {es:Array MapEntry} {seen:Array Nat} {e:MapEntry} (he:e∈(leftOf es seen).toList):(leftOf es (seen.push e.born)).size < (leftOf es seen).size:=by
 unfold leftOf at he ⊢
 have key:∀p:MapEntry→Bool,(es.filter p).size=(es.toList.filter p).length:=fun p=>congrArg List.length Array.toList_filter
 rw [key,key]
 simp only [Array.toList_filter,List.mem_filter,Bool.not_eq_true'] at he
 exact filter_lt (fun x=>!seen.contains x.born) (fun x=>!(seen.push e.born).contains x.born) (fun x hx=>by
  simp only [Bool.not_eq_true'] at hx ⊢
  rw [Array.contains_push,Bool.or_eq_false_iff] at hx
  first | exact hx.1 | exact hx.2) e (by simpa using he.2) (by simp) es.toList he.1
theorem KInv.done {L:KL} {s:St} {i j bm r:Nat} {es:Array MapEntry} {clock:Nat} {md:List (Str × Int)} {seen:Array Nat} {a:Act} {Ω:Om} {d:List (Str × Int)} {τ:Ty} {m:List (Str × den τ)}
  (hK:KInv F L s i j bm r es clock md seen a Ω d) (hm:ax s.b i=some (.map .str τ m)) (h0:(leftOf es seen).size=0)
  {a':Act} (h':Holds F ⟨fun k=>if L.wr.contains k then .undef else bD s.t k,fun k=>if j=k then some (.map .str (.int .i64) d) else ax s.b k⟩ a' Ω) :
  Holds F (St.abs ⟨s.t.filter fun x=>!L.wr.contains x.1,nB s.b j (.map .str (.int .i64) d)⟩) a' Ω/\(d.map (·.1)).Nodup/\(∀k,fy d k=if (fy m k).isSome=true then some L.n else fy md k):=by
 refine ⟨?_,?_,fun k=>?_⟩
 ·have e1:(fun k=>if L.wr.contains k then AV.undef else bD s.t k)=bD (s.t.filter fun x=>!L.wr.contains x.1):=by
   funext k
   rw [kE s.t (fun i=>!L.wr.contains i) k]
   cases L.wr.contains k <;> simp
  have e2:(fun k=>if j=k then some (SObj.map .str (.int .i64) d) else ax s.b k)=ax (nB s.b j (.map .str (.int .i64) d)):=by
   funext k
   rw [ic]
  have h2:=h'
  rw [e1,e2] at h2
  exact h2
 ·obtain ⟨_,_,_,_,_,_,hm⟩:=h'.slots j (.map .str (.int .i64) d) (by simp)
  exact hm.keys
 ·obtain ⟨r',k1,_,es',clock',k3,k4⟩:=hK.hh.slots i (.map .str τ m) (by simp only [if_neg (Ne.symm hK.ne)];exact hm)
  rw [hK.ei] at k1
  cases k1
  rw [hK.map] at k3
  cases k3
  have all:∀e∈es.toList,seen.contains e.born=true:=by
   intro e he
   rcases Bool.eq_false_or_eq_true (seen.contains e.born) with h | h
   ·exact h
   ·have:e∈(leftOf es seen).toList:=by unfold leftOf;simp only [Array.toList_filter,List.mem_filter];exact ⟨he,by rw [h];rfl⟩
    rw [←Array.length_toList] at h0
    rw [List.length_eq_zero_iff.1 h0] at this
    cases this
  have key:(fy m k).isSome=true↔∃e∈es.toList,e.key=.string ⟨k.toArray⟩/\seen.contains e.born=true:=by
   rw [oC]
   constructor
   ·rintro ⟨x,hx,rfl⟩
    obtain ⟨q,hq⟩:=List.getElem?_of_mem hx
    have hl:q < es.size:=by
     rw [k4.size]
     rcases Nat.lt_or_ge q m.length with h | h
     ·exact h
     ·rw [List.getElem?_eq_none h] at hq;cases hq
    have hv:=(k4.ent q es[q] x (Array.getElem?_eq_getElem hl) hq).1
    have hmem:es[q]∈es.toList:=by simp
    exact ⟨es[q],hmem,V.str_inv hv |>.1,all _ hmem⟩
   ·rintro ⟨e,he,hk,_⟩
    obtain ⟨q,hq⟩:=List.getElem?_of_mem he
    rw [Array.getElem?_toList] at hq
    have hl:q < m.length:=by
     rw [←k4.size]
     rcases Nat.lt_or_ge q es.size with h | h
     ·exact h
     ·rw [Array.getElem?_eq_none h] at hq;cases hq
    have hv:=(k4.ent q e m[q] hq (List.getElem?_eq_getElem hl)).1
    refine ⟨m[q],List.getElem_mem hl,?_⟩
    have:=(V.str_inv hv).1
    rw [hk] at this
    simp at this
    exact this.symm
  by_cases h:(fy m k).isSome=true
  ·rw [if_pos h];exact hK.yes k (key.1 h)
  ·rw [if_neg h];exact hK.not k (fun e=>h (key.2 e))
theorem xM (hT:bH P C.tbl) {x y:Code} {L:KL} (hL:pI x y=some L) {s:St} {Q:SX→St→Prop} {a:Act} {Ω:Om} (h:CK C L s Q) (hds:cY F.n (.seq x y)=true) (hh:Holds F s.abs a Ω) :
  (Code.seq x y).wp P (fun e a' w'=>e=.normal/\∃s' Ω',Ω'.w=w'/\Holds F s'.abs a' Ω'/\Q .normal s') a Ω.w:=by
 obtain ⟨⟨i1,i2,i3,i4,bx,by_,ty1,ps1,af1,ty2,ps2,af2,ty3,ps3,af3,ty4,ps4,af4,ty5,ps5,af5,ty6,ps6,af6,ty7,ps7,af7,ty8,ps8,af8,ty9,ps9,af9,ty10,ps10,af10,rfl,rfl⟩,hrng,hdis⟩:=AK hL
 have hnd:¬L.wr.contains L.dst=true:=by
  intro hc
  simp only [KL.wr,List.contains_eq_mem,List.mem_cons,List.not_mem_nil,or_false,decide_eq_true_eq] at hc
  clear hL hh h hds
  rcases hc with e | e | e | e | e | e | e | e | e <;> rw [e] at hdis <;> simp [bX] at hdis
 have hne:L.nx≠L.it/\L.c≠L.it/\L.en≠L.it/\L.k1≠L.it/\L.kv≠L.it/\L.d1≠L.it/\L.k2≠L.it/\L.d1≠L.kv/\L.d1≠L.k2:=by
  clear hL hh h hds
  simp [bX] at hdis
  refine ⟨?_,?_,?_,?_,?_,?_,?_,?_,?_⟩ <;> (intro e;simp_all)
 simp [cY] at hds
 obtain ⟨⟨d1,d2⟩,⟨d3,d4⟩,⟨d5,d6,d7⟩,d8,d9⟩:=hds
 unfold CK at h
 split at h
 ·rename_i i j hsrc hdst
  split at h
  ·rename_i τ m d0 kt0 e0 _ _ _ _ kt e1 _ _ _ _ hbi hbj ht1 ht2
   split at h
   ·rename_i rk hrk
    split at h
    ·rename_i hc
     simp only [Bool.and_eq_true,Bool.not_eq_true',beq_eq_false_iff_ne,ne_eq] at hc
     obtain ⟨hko,hij⟩:=hc
     have hv:=bC hh L.src
     rw [show opd s.abs.T L.src=.map i from hsrc] at hv
     generalize hsv:a.eval L.src=sv at hv
     cases hv with
     | map _ bm hei=>
      obtain ⟨r',g1,g2,es,clock,g3,g4⟩:=hh.slots i _ hbi
      rw [hei] at g1
      cases g1
      obtain ⟨dd,u1,u2⟩:=aS hT ht1 rfl
      cases dd <;> simp [aZ] at u2
      obtain ⟨rfl,rfl⟩:=u2
      refine wp_seq (wp_region ?_)
      show wpOps P _ _ [0,1] a Ω.w
      refine dz (o:=⟨some L.m1,.move L.src,ty1,ps1,af1,none⟩) rfl rfl (aH (v:=.map (some bm)) (w':=Ω.w) (by simp [execOp,hsv]) ?_)
      have hsz:=hh.size
      have hm1:(a.put (some L.m1) (.map (some bm))).eval (.tmp L.m1)=.map (some bm):=by
       show (a.put (some L.m1) (.map (some bm))).tmps.getD L.m1 undef=_
       rw [cZ hsz d1,if_pos rfl]
      refine dz (o:=⟨some L.it,.range L.t (.tmp L.m1),ty2,ps2,af2,none⟩) rfl rfl (aH (v:=.pointer (some ⟨Ω.w.heap.size,0,none⟩)) (w':=Ω.w.alloc (.mapIter (some bm) clock #[] clock)) (by simp [execOp,hm1,run_range_map Ω.w _ _ _ bm es clock u1 g3]) ?_)
      show (Code.block bx _).wp P _ _ _
      refine wp_block ?_
      have hT0:∀k,(if L.wr.contains k=true then AV.undef else bD s.t k)=.undef∨(if L.wr.contains k=true then AV.undef else bD s.t k)=cE (cE s.abs.T (some L.m1) .undef) (some L.it) .undef k:=by
       intro k
       by_cases hk:L.wr.contains k=true
       ·left;rw [if_pos hk]
       ·right
        simp only [KL.wr,List.contains_eq_mem,List.mem_cons,List.not_mem_nil,or_false,decide_eq_true_eq,not_or] at hk
        rw [if_neg (by simp [KL.wr];exact hk)]
        simp only [cE]
        rw [if_neg (Ne.symm hk.2.1),if_neg (Ne.symm hk.1)]
        rfl
      have hB0:(fun k=>if j=k then some (SObj.map .str (.int .i64) d0) else ax s.b k)=s.abs.B:=by
       funext k
       by_cases hjk:j=k
       ·subst hjk;rw [if_pos rfl];exact hbj.symm
       ·rw [if_neg hjk];rfl
      have hK0:KInv F L s i j bm Ω.w.heap.size es clock d0 #[] ((a.put (some L.m1) (.map (some bm))).put (some L.it) (.pointer (some ⟨Ω.w.heap.size,0,none⟩))) ⟨Ω.e,Ω.w.alloc (.mapIter (some bm) clock #[] clock),Ω.pub⟩ d0:=by
       have hp1:=hh.pure (dst:=some L.m1) (val:=.undef) (v:=.map (some bm)) (.undef _) (fun d e=>by cases e;exact d1)
       have hp2:=hp1.pure (dst:=some L.it) (val:=.undef) (v:=.pointer (some ⟨Ω.w.heap.size,0,none⟩)) (.undef _) (fun d e=>by cases e;exact d2)
       have nopub:∀o,¬Ω.pub Ω.w.heap.size o:=fun o hp=>by
        obtain ⟨v,hv⟩:=hh.pubok _ o hp
        have:=bd hv
        omega
       have noocc:∀id c o,Ω.e id=some c→¬occ c Ω.w.heap.size o:=fun id c o hc ho=>by
        have:=hh.blk hc ho
        omega
       have hbm:=de g3
       refine ⟨?_,?_,⟨clock,Nat.le_refl _,heap_alloc_new _ _⟩,by rw [←g3];exact heap_alloc_old _ _ hbm,hh.frame.size,nopub,noocc,hei,hij,fun k ⟨e,_,_,he⟩=>by simp at he,fun k _=>rfl⟩
       ·rw [hB0]
        exact (hp2.weak (s':=⟨fun k=>if L.wr.contains k then .undef else bD s.t k,s.abs.B⟩) hT0 rfl).aside (r:=Ω.w.heap.size) rfl rfl rfl (by show _<=(Ω.w.heap.push _).size;simp) (fun b hb _=>heap_alloc_old _ _ hb) hh.frame.size nopub noocc
       ·rw [cZ (by simp [Act.put,hsz]) d2,if_pos rfl]
      generalize Ω.w.heap.size=r at hK0 ⊢
      refine wp_loop_ghost (fun n a w=>∃seen d Ω,Ω.w=w/\KInv F L s i j bm r es clock d0 seen a Ω d/\(leftOf es seen).size=n) _ ⟨_,_,_,rfl,hK0,rfl⟩ ?_
      intro n a1 w1 hI
      obtain ⟨seen,d,Ω1,rfl,hK,rfl⟩:=hI
      obtain ⟨c0,hc0,hit⟩:=hK.iter
      have hz1:=hK.hh.size
      obtain ⟨rb,k1,_,es',clock',k3,k4⟩:=hK.hh.slots i (.map .str τ m) (by simp only [if_neg (Ne.symm hij)];exact hbi)
      rw [hK.ei] at k1
      cases k1
      rw [hK.map] at k3
      cases k3
      have hold:∀e∈es.toList,e.born < clock:=fun e he=>by
       obtain ⟨q,hq⟩:=List.getElem?_of_mem he
       exact k4.born q e (by rw [←Array.getElem?_toList];exact hq)
      have weakT:∀{a':Act} {Ω':Om} {T:Nat→AV} {dst:Option Nat},(∀d,dst=some d→L.wr.contains d=true)→Holds F ⟨cE (fun k=>if L.wr.contains k then .undef else bD s.t k) dst .undef,fun k=>if j=k then some (.map .str (.int .i64) d) else ax s.b k⟩ a' Ω'→
        Holds F ⟨fun k=>if L.wr.contains k then .undef else bD s.t k,fun k=>if j=k then some (.map .str (.int .i64) d) else ax s.b k⟩ a' Ω':=by
       intro a' Ω' T dst hd hh'
       refine hh'.weak (fun k=>?_) rfl
       cases dst with
       | none=>exact .inr rfl
       | some d'=>
        by_cases hk:d'=k
        ·subst hk;left;show (if _ then _ else _)=_;rw [if_pos (hd d' rfl)]
        ·right;simp only [cE,if_neg hk]
      have w_nx:L.wr.contains L.nx=true:=by simp [KL.wr]
      have w_c:L.wr.contains L.c=true:=by simp [KL.wr]
      have w_en:L.wr.contains L.en=true:=by simp [KL.wr]
      have w_k1:L.wr.contains L.k1=true:=by simp [KL.wr]
      have w_kv:L.wr.contains L.kv=true:=by simp [KL.wr]
      have putU:∀{a':Act} {Ω':Om} {t:Nat} (v:Value),L.wr.contains t=true→t < F.n→Holds F ⟨fun k=>if L.wr.contains k then .undef else bD s.t k,fun k=>if j=k then some (.map .str (.int .i64) d) else ax s.b k⟩ a' Ω'→
        Holds F ⟨fun k=>if L.wr.contains k then .undef else bD s.t k,fun k=>if j=k then some (.map .str (.int .i64) d) else ax s.b k⟩ (a'.put (some t) v) Ω':=
       fun v ht hl hh'=>weakT (T:=fun _=>.undef) (fun d e=>by cases e;exact ht) (hh'.pure (dst:=some _) (val:=.undef) (v:=v) (.undef _) (fun d e=>by cases e;exact hl))
      have hit':a1.eval (.tmp L.it)=.pointer (some ⟨r,0,none⟩):=hK.it
      rcases run_next_at (P:=P) Ω1.w ty3 r bm clock c0 seen es clock hit hK.map hold hc0 with ⟨h0,hrun⟩ | ⟨e,he,w2,hw2,hrun⟩
      ·refine wp_seq (wp_region ?_)
       show wpOps P _ _ [0,1] a1 Ω1.w
       refine dz (o:=⟨some L.nx,.next (.tmp L.it) false,ty3,ps3,af3,none⟩) rfl rfl (aH (v:=.tuple #[.bool false]) (w':=Ω1.w) (by simp [execOp,hit',hrun]) ?_)
       have hnx:(a1.put (some L.nx) (.tuple #[.bool false])).eval (.tmp L.nx)=.tuple #[.bool false]:=by
        show (a1.put (some L.nx) _).tmps.getD L.nx undef=_
        rw [cZ hz1 d3,if_pos rfl]
       refine dz (o:=⟨some L.c,.extract (.tmp L.nx) 0,ty4,ps4,af4,none⟩) rfl rfl (aH (v:=.bool false) (w':=Ω1.w) (by simp [execOp,hnx,Instr.extract]) ?_)
       have h1:=putU (.tuple #[.bool false]) w_nx d3 hK.hh
       have h2:=putU (.bool false) w_c d4 h1
       refine wp_seq (wp_cond (t:=false) (by show (Act.put _ (some L.c) _).tmps.getD L.c undef=_;rw [cZ h1.size d4,if_pos rfl]) (wp_exit ?_))
       simp only [Exit.then,Exit.inBlock,if_true]
       obtain ⟨q1,q2,q3⟩:=hK.done hbi h0 h2
       exact ⟨trivial,_,Ω1,rfl,q1,h d q2 q3⟩
      ·refine wp_seq (wp_region ?_)
       show wpOps P _ _ [0,1] a1 Ω1.w
       refine dz (o:=⟨some L.nx,.next (.tmp L.it) false,ty3,ps3,af3,none⟩) rfl rfl (aH (v:=.tuple #[.bool true,e.key,e.val]) (w':=setBlock w2 r (.mapIter (some bm) clock (seen.push e.born) clock)) (by simp [execOp,hit',hrun]) ?_)
       have hnx:(a1.put (some L.nx) (.tuple #[.bool true,e.key,e.val])).eval (.tmp L.nx)=.tuple #[.bool true,e.key,e.val]:=by
        show (a1.put (some L.nx) _).tmps.getD L.nx undef=_
        rw [cZ hz1 d3,if_pos rfl]
       refine dz (o:=⟨some L.c,.extract (.tmp L.nx) 0,ty4,ps4,af4,none⟩) rfl rfl (aH (v:=.bool true) (w':=setBlock w2 r (.mapIter (some bm) clock (seen.push e.born) clock)) (by simp [execOp,hnx,Instr.extract]) ?_)
       have hlt1:r < Ω1.w.heap.size:=de hit
       have hwh:w2.heap=Ω1.w.heap:=by rcases hw2 with rfl | rfl <;> rfl
       have hoth:∀b,b≠r→(setBlock w2 r (.mapIter (some bm) clock (seen.push e.born) clock)).heap[b]?=Ω1.w.heap[b]?:=by
        intro b hb
        show (w2.heap.setIfInBounds r _)[b]?=_
        rw [hwh,Array.getElem?_setIfInBounds_ne (Ne.symm hb)]
       have hrr:(setBlock w2 r (.mapIter (some bm) clock (seen.push e.born) clock)).heap[r]?=some (.mapIter (some bm) clock (seen.push e.born) clock):=by
        show (w2.heap.setIfInBounds r _)[r]?=_
        rw [hwh]
        simp [hlt1]
       have hA:=hK.hh.aside (r:=r) (w':=setBlock w2 r (.mapIter (some bm) clock (seen.push e.born) clock)) (by rcases hw2 with rfl | rfl <;> rfl) (by rcases hw2 with rfl | rfl <;> rfl) (by rcases hw2 with rfl | rfl <;> rfl)
        (by show _<=(w2.heap.setIfInBounds r _).size;rw [hwh];simp) (fun b _ hb=>hoth b hb) hK.own hK.np hK.no
       have h1:=putU (.tuple #[.bool true,e.key,e.val]) w_nx d3 hA
       have h2:=putU (.bool true) w_c d4 h1
       refine wp_seq (wp_cond (t:=true) (by show (Act.put _ (some L.c) _).tmps.getD L.c undef=_;rw [cZ h1.size d4,if_pos rfl]) (wp_skip ?_))
       refine wp_block (wp_seq (wp_region ?_))
       have hes:e∈es.toList:=by
        unfold leftOf at he
        simp only [Array.toList_filter,List.mem_filter] at he
        exact he.1
       obtain ⟨q,hq⟩:=List.getElem?_of_mem hes
       rw [Array.getElem?_toList] at hq
       have hql:q < m.length:=by
        rw [←k4.size]
        exact (Array.getElem?_eq_some_iff.1 hq).1
       have hkv:V Ω1 (.str m[q].1) e.key:=(k4.ent q e m[q] hq (List.getElem?_eq_getElem hql)).1
       have hks:=(V.str_inv hkv).1
       have hbn:(es.toList.map (·.born)).Nodup:=by
        rw [List.nodup_iff_pairwise_ne,List.pairwise_map,List.pairwise_iff_getElem]
        intro u v hu hv huv
        have:=k4.rise u v es.toList[u] es.toList[v] (by rw [←Array.getElem?_toList];exact List.getElem?_eq_getElem hu) (by rw [←Array.getElem?_toList];exact List.getElem?_eq_getElem hv) huv
        omega
       have hbm3:=hoth bm (fun e=>by subst e;exact hK.no i _ 0 hK.ei rfl)
       have hen:=run_entry_at (P:=P) _ r bm clock seen es clock e hrr (hbm3.trans hK.map) hes hbn
       show wpOps P _ _ [0,1,2] _ _
       have hit2:((a1.put (some L.nx) (.tuple #[.bool true,e.key,e.val])).put (some L.c) (.bool true)).eval (.tmp L.it)=.pointer (some ⟨r,0,none⟩):=by
        show (Act.put _ (some L.c) _).tmps.getD L.it undef=_
        rw [cZ h1.size d4,if_neg hne.2.1,cZ hz1 d3,if_neg hne.1]
        exact hK.it
       refine dz (o:=⟨some L.en,.entry (.tmp L.it),ty5,ps5,af5,none⟩) rfl rfl (aH (v:=.tuple #[e.key,e.val]) (w':=setBlock w2 r (.mapIter (some bm) clock (seen.push e.born) clock)) (by simp [execOp,hit2,hen]) ?_)
       have h3:=putU (.tuple #[e.key,e.val]) w_en d5 h2
       refine dz (o:=⟨some L.k1,.extract (.tmp L.en) 0,ty6,ps6,af6,none⟩) rfl rfl (aH (v:=e.key) (w':=setBlock w2 r (.mapIter (some bm) clock (seen.push e.born) clock)) ?_ ?_)
       ·have:(Act.put ((a1.put (some L.nx) (.tuple #[.bool true,e.key,e.val])).put (some L.c) (.bool true)) (some L.en) (.tuple #[e.key,e.val])).eval (.tmp L.en)=.tuple #[e.key,e.val]:=by
         show (Act.put _ (some L.en) _).tmps.getD L.en undef=_
         rw [cZ h2.size d5,if_pos rfl]
        simp [execOp,this,Instr.extract]
       have h4:=putU e.key w_k1 d6 h3
       refine dz (o:=⟨some L.kv,.assign (.tmp L.k1),ty7,ps7,af7,none⟩) rfl rfl (aH (v:=e.key) (w':=setBlock w2 r (.mapIter (some bm) clock (seen.push e.born) clock)) ?_ ?_)
       ·have:(Act.put (Act.put ((a1.put (some L.nx) (.tuple #[.bool true,e.key,e.val])).put (some L.c) (.bool true)) (some L.en) (.tuple #[e.key,e.val])) (some L.k1) e.key).eval (.tmp L.k1)=e.key:=by
         show (Act.put _ (some L.k1) _).tmps.getD L.k1 undef=_
         rw [cZ h3.size d6,if_pos rfl]
        simp [execOp,this]
       have h5:=putU e.key w_kv d7 h4
       generalize ha5:Act.put (Act.put (Act.put ((a1.put (some L.nx) (.tuple #[.bool true,e.key,e.val])).put (some L.c) (.bool true)) (some L.en) (.tuple #[e.key,e.val])) (some L.k1) e.key) (some L.kv) e.key=a5 at h5
       have hkv5:a5.tmps.getD L.kv undef=e.key:=by
        rw [←ha5,cZ h4.size d7,if_pos rfl]
       have hit5:a5.tmps.getD L.it undef=.pointer (some ⟨r,0,none⟩):=by
        rw [←ha5,cZ h4.size d7,if_neg hne.2.2.2.2.1,cZ h3.size d6,if_neg hne.2.2.2.1,cZ h2.size d5,if_neg hne.2.2.1]
        exact hit2
       have hdst5:=h5.tmps L.dst
       simp only [if_neg hnd,hdst] at hdst5
       show Code.wp P (.region i4 _ false) _ a5 _
       refine wp_region ?_
       show wpOps P _ _ [0,1,2] a5 _
       generalize hdv:a5.tmps.getD L.dst undef=dv at hdst5
       have hdv':a5.eval (.tmp L.dst)=dv:=hdv
       refine dz (o:=⟨some L.d1,.move (.tmp L.dst),ty8,ps8,af8,none⟩) rfl rfl (aH (v:=dv) (w':=setBlock w2 r (.mapIter (some bm) clock (seen.push e.born) clock)) (by simp [execOp,hdv']) ?_)
       have hk2:(a5.put (some L.d1) dv).eval (.tmp L.kv)=e.key:=by
        show (a5.put (some L.d1) dv).tmps.getD L.kv undef=_
        rw [cZ h5.size d8,if_neg hne.2.2.2.2.2.2.2.1]
        exact hkv5
       refine dz (o:=⟨some L.k2,.move (.tmp L.kv),ty9,ps9,af9,none⟩) rfl rfl (aH (v:=e.key) (w':=setBlock w2 r (.mapIter (some bm) clock (seen.push e.born) clock)) (by simp [execOp,hk2]) ?_)
       have hkv3:V ⟨Ω1.e,setBlock w2 r (.mapIter (some bm) clock (seen.push e.born) clock),Ω1.pub⟩ (.str m[q].1) e.key:=by
        rw [hks]
        exact .str _ (V.str_inv hkv).2
       have h6a:=h5.pure (dst:=some L.d1) (val:=.map j) (v:=dv) hdst5 (fun d e=>by cases e;exact d8)
       have h6:=h6a.pure (dst:=some L.k2) (val:=.str m[q].1) (v:=e.key) hkv3 (fun d e=>by cases e;exact d9)
       have hTd1:cE (cE (fun k=>if L.wr.contains k then AV.undef else bD s.t k) (some L.d1) (.map j)) (some L.k2) (.str m[q].1) L.d1=.map j:=by
        simp only [cE]
        rw [if_neg (Ne.symm hne.2.2.2.2.2.2.2.2),if_pos trivial]
       refine dz (o:=⟨none,.mapUpdate L.t2 (.tmp L.d1) (.tmp L.k2) (.const (.int .i64 L.n)),ty10,ps10,af10,none⟩) rfl rfl ?_
       refine pW hT (.inl rfl) h6 (fun d e=>by cases e) (eff:=⟨none,.undef,[(j,.map .str (.int .i64) (lY d m[q].1 L.n))]⟩) ?_ (fun a' Ω' hh' ha' hheap he' hpub'=>?_)
       ·simp only [aG,jA,opd,hTd1,ht2,hrk,if_true]
        have:cE (cE (fun k=>if L.wr.contains k then AV.undef else bD s.t k) (some L.d1) (.map j)) (some L.k2) (.str m[q].1) L.k2=.str m[q].1:=by simp only [cE,if_true]
        rw [this]
        simp [mG,ct,hrng,arg,sS,asInt,kj,hko]
       ·cases hdst5 with
        | map _ rj hej=>
         have hej1:Ω1.e j=some (.obj rj):=hej
         have hhp:=hheap j hTd1 rj hej
         have hrj:r≠rj:=fun e=>hK.no j _ 0 hej1 e
         have hbj':bm≠rj:=fun e=>hij (hK.hh.inj i j _ _ bm 0 hK.ei hej1 rfl e)
         refine ⟨_,AM he,seen.push e.born,lY d m[q].1 L.n,Ω',rfl,⟨?_,?_,⟨clock,Nat.le_refl _,(hhp r hrj).trans hrr⟩,(hhp bm hbj').trans (hbm3.trans hK.map),hK.own,fun o hp=>hK.np o ((hpub' r o).1 hp),
          fun id c o hc=>hK.no id c o (by rw [←he' id];exact hc),by rw [he' i];exact hK.ei,hij,fun k' hex=>?_,fun k' hex=>?_⟩,rfl⟩
         ·refine hh'.weak (fun k'=>?_) ?_
          ·by_cases hk:L.wr.contains k'=true
           ·left;exact if_pos hk
           ·right
            have n1:L.d1≠k':=fun e=>hk (by rw [←e];simp [KL.wr])
            have n2:L.k2≠k':=fun e=>hk (by rw [←e];simp [KL.wr])
            show _=cE (cE (fun k=>if L.wr.contains k then AV.undef else bD s.t k) (some L.d1) (.map j)) (some L.k2) (.str m[q].1) k'
            simp only [cE,if_neg n1,if_neg n2]
          ·funext k'
           show (if j=k' then _ else _)=(if j=k' then _ else (if j=k' then _ else _))
           by_cases hk:j=k'
           ·rw [if_pos hk,if_pos hk]
           ·rw [if_neg hk,if_neg hk,if_neg hk]
         ·rw [ha']
          show (Act.put _ (some L.k2) _).tmps.getD L.it undef=_
          rw [cZ h6a.size d9,if_neg hne.2.2.2.2.2.2.1,cZ h5.size d8,if_neg hne.2.2.2.2.2.1]
          exact hit5
         ·rw [nP]
          by_cases hkk:k'=m[q].1
          ·rw [if_pos hkk]
          ·rw [if_neg hkk]
           obtain ⟨f,hf1,hf2,hf3⟩:=hex
           rw [Array.contains_push,Bool.or_eq_true] at hf3
           have nb:f.born≠e.born:=by
            intro hb
            have q1:=find_born f es.toList hbn hf1
            have q2:=find_born e es.toList hbn hes
            rw [hb,q2] at q1
            cases q1
            rw [hks] at hf2
            simp at hf2
            exact hkk hf2.symm
           refine hK.yes k' ⟨f,hf1,hf2,?_⟩
           rcases hf3 with h | h
           ·first | exact h | exact absurd (by simpa using h) nb
           ·first | exact h | exact absurd (by simpa using h) nb
         ·rw [nP]
          have hkk:k'≠m[q].1:=by
           intro hkk
           exact hex ⟨e,hes,by rw [hkk];exact hks,by simp⟩
          rw [if_neg hkk]
          refine hK.not k' (fun ⟨f,hf1,hf2,hf3⟩=>hex ⟨f,hf1,hf2,?_⟩)
          rw [Array.contains_push,Bool.or_eq_true]
          first | exact .inl hf3 | exact .inr hf3
    ·exact h.elim
   ·exact h.elim
  ·exact h.elim
 ·exact h.elim
end
end Go.AL
end
section
namespace Go.AL
variable [Tabs]
section
variable {k:Nat} {τ:Ty} {x:den τ}
theorem nQ:∀(l:List AV) (j:Nat),(finVs k τ x l)[j]?=(l[j]?).map (finV k τ x)
 | [],j=>by simp [finVs]
 | a ::r,0=>by simp [finVs]
 | a ::r,j+1=>by simp only [finVs,List.getElem?_cons_succ];exact nQ r j
theorem jM:∀l:List AV,(finVs k τ x l).length=l.length
 | []=>rfl
 | a ::r=>by simp [finVs,jM r]
theorem qh (σ:Ty) (y:den σ):∀d∈cells σ y,finV k τ x d=d:=by
 cases σ with
 | st n=>cases n <;> simp [cells,dS,gX,fg,fS,fT,fU,du,fV,j6,gZ,hD,hU,j7,j8,io,hX,l4,fW,j9,l5,ja,jb,hZ,finV]
 | _=>simp [cells,finV]
theorem oD (σ:Ty) (y:den σ):∀d∈cells σ y,lensV k d=[]:=by
 cases σ with
 | st n=>cases n <;> simp [cells,dS,gX,fg,fS,fT,fU,du,fV,j6,gZ,hD,hU,j7,j8,io,hX,l4,fW,j9,l5,ja,jb,hZ,lensV]
 | _=>simp [cells,lensV]
theorem AN (σ:Ty) (ys:List (den σ)):∀d∈bg σ ys,finV k τ x d=d:=by
 intro d hd
 simp only [bg,List.mem_flatMap] at hd
 obtain ⟨y,_,hy⟩:=hd
 exact qh σ y d hy
theorem xN (σ:Ty) (ys:List (den σ)):∀d∈bg σ ys,lensV k d=[]:=by
 intro d hd
 simp only [bg,List.mem_flatMap] at hd
 obtain ⟨y,_,hy⟩:=hd
 exact oD σ y d hy
theorem qi (d:AV):(aa (finV k τ x d)).length=(aa d).length/\∀(j:Nat) (a:AV),(aa d)[j]?=some a→(aa (finV k τ x d))[j]?=some (finV k τ x a):=by
 have one:∀{d:AV},aa d=[d]→aa (finV k τ x d)=[finV k τ x d]→(aa (finV k τ x d)).length=(aa d).length/\
   ∀(j:Nat) (a:AV),(aa d)[j]?=some a→(aa (finV k τ x d))[j]?=some (finV k τ x a):=by
  intro d h1 h2
  rw [h1,h2]
  refine ⟨rfl,fun j a ha=>?_⟩
  cases j with
  | zero=>simp at ha;subst ha;rfl
  | succ j=>simp at ha
 cases d with
 | agg cs=>exact ⟨jM cs,fun j a ha=>by show (finVs k τ x cs)[j]?=_;rw [nQ];have:cs[j]?=some a:=ha;rw [this];rfl⟩
 | st n y=>exact ⟨rfl,fun j a ha=>by show (cells (.st n) y)[j]?=_;rw [qh (.st n) y a (List.mem_of_getElem? ha)];exact ha⟩
 | row σ ys=>exact ⟨rfl,fun j a ha=>by show (bg σ ys)[j]?=_;rw [AN σ ys a (List.mem_of_getElem? ha)];exact ha⟩
 | lstp σ xs j=>
  refine one rfl ?_
  simp only [finV]
  split
  ·split <;> rfl
  ·rfl
 | tptr σ n j=>
  refine one rfl ?_
  simp only [finV]
  split <;> rfl
 | _=>exact one rfl rfl
theorem mc:∀{l:List AV} {j:Nat} {c:AV},l[j]?=some c→∀m∈lensV k c,m∈lensVs k l
 | a ::r,0,c,h,m,hm=>by
  simp at h
  subst h
  simp [lensVs,hm]
 | a ::r,j+1,c,h,m,hm=>by
  simp only [lensVs,List.mem_append]
  exact Or.inr (mc (by simpa using h) m hm)
theorem qj {d c:AV} {j:Nat} (h:(aa d)[j]?=some c):∀m∈lensV k c,m∈lensV k d:=by
 intro m hm
 cases d with
 | agg cs=>exact mc h m hm
 | st n y=>rw [oD (.st n) y c (List.mem_of_getElem? h)] at hm;cases hm
 | row σ ys=>rw [xN σ ys c (List.mem_of_getElem? h)] at hm;cases hm
 | _=>
  cases j with
  | zero=>simp only [aa,List.getElem?_cons_zero,Xs] at h;subst h;exact hm
  | succ j=>simp [aa] at h
structure Told (Ω:Om) (k:Nat) (τ:Ty) (n:Nat) (x:den τ) (b cap:Nat) (vals:Nat→Value):Prop where
 e:Ω.e k=some (.tail (n+1) (some b) cap)
 c1:n+1<=cap
 c2:cap<=ck
 at_:∀(j:Nat) (c:AV),(cells τ x)[j]?=some c→Ω.pub b (n *ac τ+j)/\Ω.w.cell? ⟨b,n *ac τ+j,none⟩=some (vals j)/\V Ω c (vals j)
theorem V.finV {Ω:Om} {n b cap:Nat} {vals:Nat→Value} (ht:Told Ω k τ n x b cap vals) {a:AV} {v:Value} (h:V Ω a v):(∀m∈lensV k a,m=n)→V Ω (AL.finV k τ x a) v:=by
 have many:∀{cs:List AV} {vs:List Value},cs.length=vs.length→(∀m∈lensVs k cs,m=n)→(∀(j:Nat) (d:AV) (v:Value),cs[j]?=some d→vs[j]?=some v→(∀m∈lensV k d,m=n)→V Ω (AL.finV k τ x d) v)→
   (finVs k τ x cs).length=vs.length/\∀(j:Nat) (d:AV) (v:Value),(finVs k τ x cs)[j]?=some d→vs[j]?=some v→V Ω d v:=by
  intro cs vs hl hm ih
  refine ⟨by rw [jM,hl],fun j d v hd hv=>?_⟩
  rw [nQ] at hd
  simp only [Option.map_eq_some_iff] at hd
  obtain ⟨d0,hd0,rfl⟩:=hd
  exact ih j d0 v hd0 hv (fun m hmm=>hm m (mc hd0 m hmm))
 induction h with
 | lstp σ xs j b' off cap' vals' h1 h2 h3 h4 h5 _=>
  intro hm
  simp only [AL.finV]
  split
  ·rename_i hjk
   have hjk:=Nat.eq_of_beq_eq_true hjk
   subst hjk
   split
   ·rename_i l hl
    obtain ⟨e,hl⟩:=jd hl
    subst e
    simp only at hl
    subst hl
    have hlen:xs.length=n:=hm xs.length (by simp [lensV])
    obtain ⟨m,base,cap2,r1,r2,r3⟩:=h3 _ rfl
    rw [ht.e] at r1
    simp only [Xs,CObj.tail.injEq] at r1
    obtain ⟨rfl,rfl,rfl⟩:=r1
    have r3:=r3 (by omega)
    simp only [eK,Value.slice.injEq,Xs,Addr.mk.injEq,true_and,and_true] at r3
    obtain ⟨⟨rfl,rfl⟩,rfl⟩:=r3
    have hlx:(xs++[x]).length=xs.length+1:=by simp
    have hcase:∀(i:Nat) (y:den τ),(xs++[x])[i]?=some y→(i < xs.length/\xs[i]?=some y)∨(i=xs.length/\y=x):=by
     intro i y hy
     by_cases hi:i < xs.length
     ·rw [List.getElem?_append_left hi] at hy;exact Or.inl ⟨hi,hy⟩
     ·rw [List.getElem?_append_right (by omega)] at hy
      have:i - xs.length=0:=by
       rcases Nat.eq_zero_or_pos (i - xs.length) with q | q
       ·exact q
       ·rw [List.getElem?_eq_none (by simp;omega)] at hy;cases hy
      rw [this] at hy
      simp at hy
      exact Or.inr ⟨by omega,hy.symm⟩
    have:=V.lst (Ω:=Ω) τ (xs++[x]) (some j) b' 0 cap' (fun i q=>if i < xs.length then vals' i q else vals q) (by rw [hlx];exact h1) h2 (by
      rw [hlx]
      intro id hid
      cases hid
      exact ⟨n+1,some b',cap',ht.e,by omega,fun e=>by simp [eK]⟩)
     (fun i y hy q c hc=>by
      rcases hcase i y hy with ⟨hi,hy'⟩ | ⟨rfl,rfl⟩
      ·simp only [if_pos hi];exact h4 i y hy' q c hc
      ·simp only [Nat.lt_irrefl,if_false,Nat.zero_add]
       have:=ht.at_ q c hc
       rw [←hlen] at this
       exact ⟨this.1,this.2.1⟩)
     (fun i y hy q c hc=>by
      rcases hcase i y hy with ⟨hi,hy'⟩ | ⟨rfl,rfl⟩
      ·simp only [if_pos hi];exact h5 i y hy' q c hc
      ·simp only [Nat.lt_irrefl,if_false]
       exact (ht.at_ q c hc).2.2)
    rw [hlx] at this
    exact this
   ·exact .undef _
  ·exact .lstp σ xs j b' off cap' vals' h1 h2 h3 h4 h5
 | tptr σ m j p hp=>
  intro _
  simp only [AL.finV]
  split
  ·exact .undef _
  ·exact .tptr σ m j p hp
 | cptr d b' o vs h1 h2 ih=>
  intro hm
  obtain ⟨p1,p2⟩:=qi (k:=k) (τ:=τ) (x:=x) d
  have back:∀(j:Nat) (d':AV),(aa (AL.finV k τ x d))[j]?=some d'→∃d0,(aa d)[j]?=some d0/\d'=AL.finV k τ x d0:=by
   intro j d' hd'
   have hj:j < (aa d).length:=by
    rw [←p1]
    rcases Nat.lt_or_ge j (aa (AL.finV k τ x d)).length with q | q
    ·exact q
    ·rw [List.getElem?_eq_none q] at hd';cases hd'
   have:=p2 j _ (List.getElem?_eq_getElem hj)
   rw [hd'] at this
   exact ⟨_,List.getElem?_eq_getElem hj,Option.some.inj this⟩
  refine .cptr _ b' o vs (fun j d' hd'=>?_) (fun j d' hd'=>?_)
  ·obtain ⟨d0,q1,_⟩:=back j d' hd'
   exact h1 j d0 q1
  ·obtain ⟨d0,q1,rfl⟩:=back j d' hd'
   exact ih j d0 q1 (fun m hmm=>hm m (by simp only [lensV];exact qj q1 m hmm))
 | agg cs vs hl _ ih=>
  intro hm
  obtain ⟨q1,q2⟩:=many hl (by simpa [lensV] using hm) ih
  exact .agg _ vs q1 q2
 | tup cs vs hl _ ih=>
  intro hm
  obtain ⟨q1,q2⟩:=many hl (by simpa [lensV] using hm) ih
  exact .tup _ vs q1 q2
 | fn f cs vs hl _ ih=>
  intro hm
  obtain ⟨q1,q2⟩:=many hl (by simpa [lensV] using hm) ih
  exact .fn f _ vs q1 q2
 | iface t a v _ ih=>intro hm;exact .iface t _ v (ih (by simpa [lensV] using hm))
 | undef v=>exact fun _=>.undef v
 | int k n h1 h2=>exact fun _=>.int k n h1 h2
 | bool b=>exact fun _=>.bool b
 | str s h=>exact fun _=>.str s h
 | lstNil τ o ht=>exact fun _=>.lstNil τ o ht
 | lstVoid τ a=>exact fun _=>.lstVoid τ a
 | lst τ xs o b' off' cap vals' h1 h2 h3 h4 h5 _=>exact fun _=>.lst τ xs o b' off' cap vals' h1 h2 h3 h4 h5
 | nils=>exact fun _=>.nils
 | nilp=>exact fun _=>.nilp
 | ptr i o b' p len he=>exact fun _=>.ptr i o b' p len he
 | ptNone n=>exact fun _=>.ptNone n
 | ptSome n x v hv _=>exact fun _=>.ptSome n x v hv
 | arr i n w b' len cap a he h1 h2 h3 h4=>exact fun _=>.arr i n w b' len cap a he h1 h2 h3 h4
 | aptr i n w o b' p len he=>exact fun _=>.aptr i n w o b' p len he
 | map i r he=>exact fun _=>.map i r he
 | bptr i b g he=>exact fun _=>.bptr i b g he
 | nilif=>exact fun _=>.nilif
 | st n x v hv _=>exact fun _=>.st n x v hv
end
theorem kH {n:Nat}:∀{l:List Nat} {q:Prop},xn n l q→(∀m∈l,m=n)/\q
 | [],q,h=>⟨fun _ hm=>absurd hm List.not_mem_nil,h⟩
 | m ::r,q,h=>by
  obtain ⟨h1,h2⟩:=h
  obtain ⟨h3,h4⟩:=kH h2
  exact ⟨fun i hi=>(List.mem_cons.1 hi).elim (fun e=>e ▸ h1) (h3 i),h4⟩
theorem xO {F:Fr} {s:St} {a:Act} {Ω:Om} {k:Nat} {Q:St→Prop} (h:Holds F s.abs a Ω) (hf:CH k s Q):∃s' Ω',Ω'.w=Ω.w/\Holds F s'.abs a Ω'/\Q s':=by
 unfold CH at hf
 split at hf
 ·rename_i τ n x hb
  obtain ⟨hlens,hq⟩:=kH hf
  refine ⟨⟨s.t.map fun y=>(y.1,finV k τ x y.2),(nB s.b k (.tail τ (n+1))).map fun y=>(y.1,CG k τ x y.2)⟩,?_⟩
  obtain ⟨b,cap,e1,e2,e3,e4,⟨vs,ty,fz,e5,e6,e7⟩,e8,e9⟩:=h.slots k _ hb
  let Ω1:Om:=⟨Ω.e,Ω.w,fun b' o=>Ω.pub b' o∨(b'=b/\n *ac τ<=o/\o < n *ac τ+ac τ)⟩
  have hx1:Ext Ω Ω1:=⟨fun i c hc=>⟨c,hc,CLe.refl c⟩,fun _ _ p=>Or.inl p,fun _ _ _=>rfl⟩
  have htold:Told Ω1 k τ n x b cap (fun j=>(Ω.w.cell? ⟨b,n *ac τ+j,none⟩).getD undef):=by
   refine ⟨e1,e2,e3,fun j c hc=>?_⟩
   obtain ⟨v,k1,k2⟩:=e9 j c hc
   have hj:j < ac τ:=by
    rw [←bn τ x]
    rcases Nat.lt_or_ge j (cells τ x).length with q | q
    ·exact q
    ·rw [List.getElem?_eq_none q] at hc;cases hc
   refine ⟨Or.inr ⟨rfl,by omega,by omega⟩,?_,?_⟩
   ·show Ω.w.cell? _=_
    rw [k1];rfl
   ·simp only [k1,Option.getD_some]
    exact k2.ext hx1
  have hcell:∀o,n *ac τ<=o→o < n *ac τ+ac τ→∃v,Ω.w.cell? ⟨b,o,none⟩=some v:=by
   intro o h1 h2
   have hj:o - n *ac τ < (cells τ x).length:=by rw [bn];omega
   obtain ⟨v,k1,_⟩:=e9 (o - n *ac τ) _ (List.getElem?_eq_getElem hj)
   exact ⟨v,by rw [show n *ac τ+(o - n *ac τ)=o by omega] at k1;exact k1⟩
  refine ⟨Ω1,rfl,⟨fun i=>?_,h.size,h.defers,fun id o ho=>?_,fun id hid=>?_,h.inj,fun b' o hp=>?_,h.keep,?_⟩,hq⟩
  ·simp only [St.abs]
   rw [mV (finV k τ x) rfl s.t i]
   refine V.finV htold ((h.tmps i).ext hx1) (fun m hm=>?_)
   rcases mT s.t i with hu | hm'
   ·rw [hu] at hm;cases hm
   ·exact hlens m (List.mem_append_left _ (List.mem_flatMap.2 ⟨_,hm',hm⟩))
  ·simp only [St.abs] at ho
   rw [kG (CG k τ x) _ id,ic] at ho
   by_cases hid:k=id
   ·subst hid
    rw [if_pos rfl] at ho
    simp only [Option.map_some,Xs,CG] at ho
    subst ho
    refine ⟨some b,cap,e1,e2,e3,by simp,fun b2 hb2=>?_⟩
    simp only [Xs] at hb2
    subst hb2
    refine ⟨e4,vs,ty,fz,e5,by rw [Nat.add_mul];omega,e7,fun o ho hp=>?_⟩
    rw [Nat.add_mul,Nat.one_mul] at ho
    rcases hp with hp | ⟨_,hp1,hp2⟩
    ·exact e8 o (by omega) hp
    ·omega
   ·rw [if_neg hid] at ho
    simp only [Option.map_eq_some_iff] at ho
    obtain ⟨o0,ho0,rfl⟩:=ho
    have hs:=h.slots id o0 ho0
    have apart:∀c0,Ω.e id=some c0→∀b' o,occ c0 b' o→b'≠b:=by
     intro c0 hc0 b' o hoc hk
     subst hk
     exact hid (h.inj k id _ c0 b' o e1 hc0 rfl hoc)
    cases o0 with
    | box d=>
     obtain ⟨b2,off2,g1,g2⟩:=hs
     obtain ⟨p1,p2⟩:=qi (k:=k) (τ:=τ) (x:=x) d
     refine ⟨b2,off2,by show Ω.e id=_;rw [g1,p1],fun j d' hd'=>?_⟩
     have hj:j < (aa d).length:=by
      rw [←p1]
      rcases Nat.lt_or_ge j (aa (finV k τ x d)).length with q | q
      ·exact q
      ·rw [List.getElem?_eq_none q] at hd';cases hd'
     have hd2:=p2 j _ (List.getElem?_eq_getElem hj)
     rw [hd'] at hd2
     obtain ⟨m1,m2,m3,v,m4,m5⟩:=g2 j _ (List.getElem?_eq_getElem hj)
     refine ⟨m1,fun hp=>?_,m3,v,m4,?_⟩
     ·rcases hp with hp | hp
      ·exact m2 hp
      ·exact apart _ g1 b2 (off2+j) ⟨rfl,by omega,by omega⟩ hp.1
     ·rw [Option.some.inj hd2]
      refine V.finV htold (m5.ext hx1) (fun m hm=>hlens m (List.mem_append_right _ (List.mem_flatMap.2 ⟨(id,.box d),dN _ _ _ ho0,?_⟩)))
      exact qj (List.getElem?_eq_getElem hj) m hm
    | tail σ m=>
     obtain ⟨base,cap2,g1,g2,g3,g4,g5⟩:=hs
     refine ⟨base,cap2,g1,g2,g3,g4,fun b2 hb2=>?_⟩
     obtain ⟨m1,vs',ty',fz',m2,m3,m4,m5⟩:=g5 b2 hb2
     refine ⟨m1,vs',ty',fz',m2,m3,m4,fun o ho hp=>?_⟩
     rcases hp with hp | hp
     ·exact m5 o ho hp
     ·exact apart _ g1 b2 o hb2 hp.1
    | map κ σ m=>
     obtain ⟨r,g1,g2,es,clock,g3,g4⟩:=hs
     exact ⟨r,g1,g2,es,clock,g3,g4.ext hx1⟩
    | bld t u l=>
     obtain ⟨b2,g,g1,g2,g3⟩:=hs
     refine ⟨b2,g,g1,fun b3 hb3 o=>⟨(g2 b3 hb3 o).1,fun hp=>?_⟩,g3⟩
     rcases hp with hp | hp
     ·exact (g2 b3 hb3 o).2 hp
     ·exact apart _ g1 b3 o hb3 hp.1
    | tailp σ m y=>
     obtain ⟨b2,cap2,g1,g2,g3,g4,g5,g6,g7⟩:=hs
     refine ⟨b2,cap2,g1,g2,g3,g4,g5,fun o ho hp=>?_,fun j c hc=>?_⟩
     ·rcases hp with hp | hp
      ·exact g6 o ho hp
      ·exact apart _ g1 b2 o rfl hp.1
     ·obtain ⟨v,k1,k2⟩:=g7 j c hc
      exact ⟨v,k1,k2.ext hx1⟩
  ·simp only [St.abs] at hid
   rw [kG (CG k τ x) _ id,ic] at hid
   by_cases hk:k=id
   ·subst hk;simp at hid
   ·rw [if_neg hk] at hid
    exact h.dom id (by show ax s.b id=none;simpa using hid)
  ·rcases hp with hp | ⟨rfl,hp1,hp2⟩
   ·exact h.pubok b' o hp
   ·exact hcell o hp1 hp2
  ·refine ⟨h.frame.os,h.frame.tape,h.frame.output,h.frame.size,h.frame.block,h.frame.cell,h.frame.kind,fun b' o hp=>?_,fun b' o hp=>Or.inl (h.frame.old b' o hp),h.frame.pcell⟩
   rcases hp with hp | ⟨rfl,hp1,hp2⟩
   ·exact h.frame.pub b' o hp
   ·exact Or.inr (e4 o)
 ·exact ⟨s,Ω,rfl,h,hf⟩
theorem qk {F:Fr} {a:Act} {Q:St→Prop}:∀(l:List Nat) {s:St} {Ω:Om},Holds F s.abs a Ω→Ap l s Q→∃s' Ω',Ω'.w=Ω.w/\Holds F s'.abs a Ω'/\Q s'
 | [],s,Ω,h,hf=>⟨s,Ω,rfl,h,hf⟩
 | k ::r,s,Ω,h,hf=>by
  obtain ⟨s1,Ω1,g1,g2,g3⟩:=xO (Q:=fun s=>Ap r s Q) h hf
  obtain ⟨s2,Ω2,k1,k2,k3⟩:=qk r g2 g3
  exact ⟨s2,Ω2,k1.trans g1,k2,k3⟩
theorem xP {F:Fr} {a:Act} {Q:St→Prop} {s:St} {Ω:Om} (h:Holds F s.abs a Ω) (hf:finA s Q):∃s' Ω',Ω'.w=Ω.w/\Holds F s'.abs a Ω'/\Q s':=qk _ h hf
theorem AO {k:Nat} {s:St} {Q:St→Prop} (hf:CH k s Q):∃s',Q s':=by
 unfold CH at hf
 split at hf
 ·exact ⟨_,(kH hf).2⟩
 ·exact ⟨s,hf⟩
theorem sf {Q:St→Prop}:∀(l:List Nat) {s:St},Ap l s Q→∃s',Q s'
 | [],s,hf=>⟨s,hf⟩
 | k ::r,s,hf=>by
  obtain ⟨s1,h1⟩:=AO (Q:=fun s=>Ap r s Q) hf
  exact sf r h1
end Go.AL
end
