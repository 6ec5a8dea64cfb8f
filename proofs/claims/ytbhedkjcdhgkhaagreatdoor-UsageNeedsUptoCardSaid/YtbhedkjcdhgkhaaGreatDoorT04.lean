/- The layer: Go code as conditions, and that they are sound. Plain facts. No condition. -/
import Derived.Test.YtbhedkjcdhgkhaaGreatDoorT03
import Derived.ChangeMaps
import Derived.Deep.DeepWitnessRowRef
import Derived.Deep.LoopGhost
import Derived.JoinedCond
import Derived.KernelRfl
import Derived.Lib.AtoiErrMem
import Derived.Lib.DecodeN
import Derived.Lib.LaidIn
import Derived.Lib.LaidU8T
import Derived.LoopIn
import Derived.LoopN
import Derived.LoopNIn
import Derived.OpenShut
import Derived.OwnWalkIn
import Derived.PinnedBridge
import Derived.ProofKit
import Derived.RangeFuncBox
import Derived.RangeFuncLeaves
import Derived.Recover
import Derived.Scope
import Derived.Shelf.SlIter.Sorted
import Derived.Shelf.SlSortCmp.Whole1
import Derived.Shelf.Slices.CompactS
import Derived.Shelf.Slices.In.SortNone
import Derived.Shelf.Small.Strs
import Derived.Shelf.Sort.Plain
import Derived.Shelf.Strconv.Atoi
import Derived.Shelf.Strings.BuilderF
import Derived.Shelf.Strings.Cut
import Derived.Shelf.Strings.Search3
import Derived.Shelf.Strings.SlTrimAscii
import Derived.Shelf.Strings.Split
import Derived.Shelf.Unicode.DecodeAny
import Derived.Shelf.Unicode.ValidAny
import Derived.Shelf.Vars
import Derived.Sort.Walk0
import Derived.TacticsInMore
import Derived.Test.YtbhedkjcdhgkhaaGreatDoorCards
import Derived.Test.YtbhedkjcdhgkhaaGreatDoorProg
import Derived.Test.YtbhedkjcdhgkhaaGreatDoorTie
import Derived.WalkKit
import Derived.WideKeyArgs
set_option linter.all false
set_option maxRecDepth 100000
noncomputable section
namespace Go.AL
variable [Tabs]
theorem bM {s n:Nat}:∀{l m:List (Nat × Nat)},bW s n (l++m)→bW s n l/\bW s n m
 | [],m,h=>⟨trivial,h⟩
 | (a,b) ::r,m,h=>by
  obtain ⟨h1,h2⟩:=h
  obtain ⟨h3,h4⟩:=bM h2
  exact ⟨⟨h1,h3⟩,h4⟩
section
variable {k:Nat} {τ:Ty} {xs:List (den τ)}
theorem kj:∀(l:List AV) (j:Nat),(frzVs k τ xs l)[j]?=(l[j]?).map (frzV k τ xs)
 | [],j=>by simp [frzVs]
 | a ::r,0=>by simp [frzVs]
 | a ::r,j+1=>by simp only [frzVs,List.getElem?_cons_succ];exact kj r j
theorem gC:∀l:List AV,(frzVs k τ xs l).length=l.length
 | []=>rfl
 | a ::r=>by simp [frzVs,gC r]
theorem nc (σ:Ty) (x:den σ):∀d∈cells σ x,frzV k τ xs d=d:=by
 cases σ with
 | st n=>cases n <;> simp [cells,bE,da,bQ,cm,cn,cE,bn,cq,dX,db,dc,de,dY,dZ,dr,df,fq,cr,ea,dt,ec,ed,dh,bU,di,ct,eh,frzV]
 | _=>simp [cells,frzV]
theorem uU (σ:Ty) (ys:List (den σ)):∀d∈flat σ ys,frzV k τ xs d=d:=by
 intro d hd
 simp only [flat,List.mem_flatMap] at hd
 obtain ⟨x,_,hx⟩:=hd
 exact nc σ x d hx
theorem nd (d:AV):(a8 (frzV k τ xs d)).length=(a8 d).length/\∀(j:Nat) (a:AV),(a8 d)[j]?=some a→(a8 (frzV k τ xs d))[j]?=some (frzV k τ xs a):=by
 have one:∀{d:AV},a8 d=[d]→a8 (frzV k τ xs d)=[frzV k τ xs d]→(a8 (frzV k τ xs d)).length=(a8 d).length/\
   ∀(j:Nat) (a:AV),(a8 d)[j]?=some a→(a8 (frzV k τ xs d))[j]?=some (frzV k τ xs a):=by
  intro d h1 h2
  rw [h1,h2]
  refine ⟨rfl,fun j a ha=>?_⟩
  cases j with
  | zero=>simp at ha;subst ha;rfl
  | succ j=>simp at ha
 cases d with
 | agg cs=>exact ⟨gC cs,fun j a ha=>by show (frzVs k τ xs cs)[j]?=_;rw [kj];have:cs[j]?=some a:=ha;rw [this];rfl⟩
 | st n x=>exact ⟨rfl,fun j a ha=>by show (cells (.st n) x)[j]?=_;rw [nc (.st n) x a (List.mem_of_getElem? ha)];exact ha⟩
 | row σ ys=>exact ⟨rfl,fun j a ha=>by show (flat σ ys)[j]?=_;rw [uU σ ys a (List.mem_of_getElem? ha)];exact ha⟩
 | glst s n j=>
  refine one rfl ?_
  simp only [frzV]
  split <;> rfl
 | _=>exact one rfl rfl
theorem km {s n:Nat}:∀{cs:List AV} {j:Nat} {d:AV},bW s n (stpVs k cs)→cs[j]?=some d→bW s n (stpV k d)
 | a ::r,0,d,h,hd=>by
  simp at hd;subst hd
  unfold stpVs at h
  exact (bM h).1
 | a ::r,j+1,d,h,hd=>by
  unfold stpVs at h
  exact km (bM h).2 (by simpa using hd)
 | [],j,d,h,hd=>by simp at hd
theorem nf (σ:Ty) (x:den σ):∀d∈cells σ x,stpV k d=[]:=by
 cases σ with
 | st n=>cases n <;> simp [cells,bE,da,bQ,cm,cn,cE,bn,cq,dX,db,dc,de,dY,dZ,dr,df,fq,cr,ea,dt,ec,ed,dh,bU,di,ct,eh,stpV]
 | _=>simp [cells,stpV]
theorem ng {s n:Nat} {c d:AV} {j:Nat} (h:bW s n (stpV k c)) (hd:(a8 c)[j]?=some d):bW s n (stpV k d):=by
 have one:a8 c=[c]→bW s n (stpV k d):=fun e=>by
  rw [e] at hd
  cases j with
  | zero=>simp at hd;subst hd;exact h
  | succ j=>simp at hd
 cases c with
 | agg cs=>unfold stpV at h;exact km h hd
 | st m x=>rw [nf (.st m) x d (List.mem_of_getElem? hd)];trivial
 | row σ ys=>
  have hm:d∈flat σ ys:=List.mem_of_getElem? hd
  simp only [flat,List.mem_flatMap] at hm
  obtain ⟨x,_,hx⟩:=hm
  rw [nf σ x d hx];trivial
 | _=>exact one rfl
structure Froz (Ω:Om) (k s:Nat) (τ:Ty) (xs:List (den τ)) (base:Option Nat) (cap:Nat) (vals:Nat→Value):Prop where
 e:Ω.e k=some (.tail s base cap)
 le:xs.length<=cap
 mx:cap<=aM
 z:base=none→cap=0
 at_:∀b,base=some b→∀(j:Nat) (c:AV),(flat τ xs)[j]?=some c→Ω.pub b j/\Ω.w.cell? ⟨b,j,none⟩=some (vals j)/\V Ω c (vals j)
theorem V.frzV {Ω:Om} {s cap:Nat} {base:Option Nat} {vals:Nat→Value} (hf:Froz Ω k s τ xs base cap vals) {a:AV} {v:Value} (h:V Ω a v):bW s xs.length (stpV k a)→V Ω (AL.frzV k τ xs a) v:=by
 have many:∀{cs:List AV} {vs:List Value},bW s xs.length (stpVs k cs)→cs.length=vs.length→(∀(j:Nat) (d:AV) (v:Value),cs[j]?=some d→vs[j]?=some v→bW s xs.length (stpV k d)→V Ω (AL.frzV k τ xs d) v)→
   (frzVs k τ xs cs).length=vs.length/\∀(j:Nat) (d:AV) (v:Value),(frzVs k τ xs cs)[j]?=some d→vs[j]?=some v→V Ω d v:=by
  intro cs vs hst hl ih
  refine ⟨by rw [gC,hl],fun j d v hd hv=>?_⟩
  rw [kj] at hd
  simp only [Option.map_eq_some_iff] at hd
  obtain ⟨d0,hd0,rfl⟩:=hd
  exact ih j d0 v hd0 hv (km hst hd0)
 induction h with
 | glst s1 n j cap0 a0 h1 h2 h3 h4=>
  intro hs
  simp only [AL.frzV]
  cases hj:Nat.beq j k with
  | false=>exact .glst s1 n j cap0 a0 h1 h2 h3 h4
  | true=>
   have ej:=Nat.eq_of_beq_eq_true hj
   subst ej
   unfold stpV at hs
   rw [hj] at hs
   obtain ⟨⟨rfl,rfl⟩,_⟩:=hs
   obtain ⟨m,b2,c2,q1,q2,q3⟩:=h4
   rw [hf.e] at q1
   simp only [Xs,CObj.tail.injEq] at q1
   obtain ⟨rfl,rfl,rfl⟩:=q1
   obtain ⟨e1,e2⟩:=q3 rfl
   subst e1 e2
   cases base with
   | none=>
    have hc:=hf.z rfl
    have hx:xs=[]:=List.eq_nil_of_length_eq_zero (by have:=hf.le;omega)
    subst hc hx
    exact .lstNil τ none (fun id hid=>by cases hid)
   | some b=>
    have fl:∀{i:Nat} {x:den τ} {j:Nat} {c:AV},xs[i]?=some x→(cells τ x)[j]?=some c→(AL.flat τ xs)[i *a7 τ+j]?=some c:=fun hx hc=>dD τ xs _ _ _ _ hx hc
    exact V.lst (Ω:=Ω) τ xs none b 0 _ (fun i j=>vals (i *a7 τ+j)) hf.le hf.mx (fun id hid=>by cases hid)
     (fun i x hx j c' hc=>by have:=hf.at_ b rfl _ c' (fl hx hc);rw [Nat.zero_add];exact ⟨this.1,this.2.1⟩) (fun i x hx j c' hc=>(hf.at_ b rfl _ c' (fl hx hc)).2.2)
 | cptr d b' o vs h1 h2 ih=>
  intro hs
  obtain ⟨p1,p2⟩:=nd (k:=k) (xs:=xs) d
  have back:∀(j:Nat) (d':AV),(a8 (AL.frzV k τ xs d))[j]?=some d'→∃d0,(a8 d)[j]?=some d0/\d'=AL.frzV k τ xs d0:=by
   intro j d' hd'
   have hj:j < (a8 d).length:=by
    rw [←p1]
    rcases Nat.lt_or_ge j (a8 (AL.frzV k τ xs d)).length with q | q
    ·exact q
    ·rw [List.getElem?_eq_none q] at hd';cases hd'
   have:=p2 j _ (List.getElem?_eq_getElem hj)
   rw [hd'] at this
   exact ⟨_,List.getElem?_eq_getElem hj,Option.some.inj this⟩
  have hs':bW s xs.length (stpV k d):=by unfold stpV at hs;exact hs
  refine .cptr _ b' o vs (fun j d' hd'=>?_) (fun j d' hd'=>?_)
  ·obtain ⟨d0,q1,_⟩:=back j d' hd'
   exact h1 j d0 q1
  ·obtain ⟨d0,q1,rfl⟩:=back j d' hd'
   exact ih j d0 q1 (ng hs' q1)
 | agg cs vs hl _ ih=>
  intro hs
  unfold stpV at hs
  obtain ⟨q1,q2⟩:=many hs hl ih
  exact .agg _ vs q1 q2
 | tup cs vs hl _ ih=>
  intro hs
  unfold stpV at hs
  obtain ⟨q1,q2⟩:=many hs hl ih
  exact .tup _ vs q1 q2
 | fn f cs vs hl _ ih=>
  intro hs
  unfold stpV at hs
  obtain ⟨q1,q2⟩:=many hs hl ih
  exact .fn f _ vs q1 q2
 | iface t a v _ ih=>intro hs;unfold stpV at hs;exact .iface t _ v (ih hs)
 | undef v=>intro _;exact .undef v
 | int k n h1 h2=>intro _;exact .int k n h1 h2
 | bool b=>intro _;exact .bool b
 | str s h=>intro _;exact .str s h
 | lstNil τ o ht=>intro _;exact .lstNil τ o ht
 | lstVoid τ a=>intro _;exact .lstVoid τ a
 | lst τ xs o b' off' cap vals' h1 h2 h3 h4 h5 _=>intro _;exact .lst τ xs o b' off' cap vals' h1 h2 h3 h4 h5
 | nils=>intro _;exact .nils
 | nilp=>intro _;exact .nilp
 | ptNone n=>intro _;exact .ptNone n
 | ptSome n x v hv _=>intro _;exact .ptSome n x v hv
 | ptr i o b' p len he=>intro _;exact .ptr i o b' p len he
 | arr i n w b' len cap a he h1 h2 h3 h4=>intro _;exact .arr i n w b' len cap a he h1 h2 h3 h4
 | aptr i n w o b' p len he=>intro _;exact .aptr i n w o b' p len he
 | map i r he=>intro _;exact .map i r he
 | bptr i b g he=>intro _;exact .bptr i b g he
 | nilif=>intro _;exact .nilif
 | nilm=>intro _;exact .nilm
 | lstp τ xs k b' off' cap vals' h1 h2 h3 h4 h5 _=>intro _;exact .lstp τ xs k b' off' cap vals' h1 h2 h3 h4 h5
 | tptr τ n k p hp=>intro _;exact .tptr τ n k p hp
 | gptr k s i w off b h1=>intro _;exact .gptr k s i w off b h1
 | st n x v hv _=>intro _;exact .st n x v hv
end
theorem qP (k:Nat) (τ:Ty) (xs:List (den τ)) (ts:List Nat):∀(l:List (Nat × AV)) (i:Nat),
  aJ (pc k τ xs ts l) i=.undef∨(aJ (pc k τ xs ts l) i=aJ l i/\(∀j∈ids (aJ l i),j≠k))∨(aJ (pc k τ xs ts l) i=frzV k τ xs (aJ l i)/\∀s n,bW s n (vP k ts l)→bW s n (stpV k (aJ l i)))
 | [],i=>.inl rfl
 | (m,a) ::r,i=>by
  simp only [pc,bC]
  by_cases h:(m ==i)=true
  ·rw [if_pos h,if_pos h]
   cases hd:mb (ids a) [k] with
   | true=>
    right;left
    refine ⟨rfl,fun j hj=>?_⟩
    have:=bK hd j hj
    simpa using this
   | false=>
    cases ht:ts.contains m with
    | false=>exact .inl rfl
    | true=>
     right;right
     refine ⟨rfl,fun s n hs=>?_⟩
     simp only [vP,ht] at hs
     exact (bM hs).1
  ·rw [if_neg h,if_neg h]
   rcases qP k τ xs ts r i with q | q | ⟨q1,q2⟩
   ·exact .inl q
   ·exact .inr (.inl q)
   ·exact .inr (.inr ⟨q1,fun s n hs=>q2 s n (by simp only [vP] at hs;exact (bM hs).2)⟩)
theorem sF {F:Fr} {s s':St} {q:Prop} {a:Act} {Ω:Om} {k:Nat} {ts:List Nat} (h:Holds F s.abs a Ω) (hp:yI k ts s=some (q,s')) (hq:q):∃Ω',Ω'.w=Ω.w/\Holds F s'.abs a Ω':=by
 unfold yI at hp
 split at hp
 ·rename_i τ s0 xs hb
  simp only at hp
  split at hp
  ·rename_i hck
   simp only [Bool.and_eq_true,Bool.not_eq_true'] at hck
   obtain ⟨hnn,hnl⟩:=hck
   simp only [Xs,Prod.mk.injEq] at hp
   obtain ⟨rfl,rfl⟩:=hp
   obtain ⟨qT,qB⟩:=bM hq
   simp only [bp,Bool.and_eq_true,List.all_eq_true] at hnn
   obtain ⟨base,cap,e1,e2,e3,e4,e5⟩:=h.slots k _ hb
   let Ω1:Om:=⟨Ω.e,Ω.w,fun b' o=>Ω.pub b' o∨(base=some b'/\o < (flat τ xs).length)⟩
   have hx1:Ext Ω Ω1:=⟨fun i c hc=>⟨c,hc,CLe.refl c⟩,fun _ _ p=>Or.inl p,fun _ _ _=>rfl⟩
   have hfast:Froz Ω1 k s0 τ xs base cap (fun j=>match base with | some b=>(Ω.w.cell? ⟨b,j,none⟩).getD undef | none=>undef):=by
    refine ⟨e1,e2,e3,e4,fun b hbb j c' hc=>?_⟩
    subst hbb
    obtain ⟨k1,k2,k3,k4⟩:=e5 b rfl
    obtain ⟨v,v1,v2⟩:=k4 j c' hc
    have hj:j < (flat τ xs).length:=by
     rcases Nat.lt_or_ge j (flat τ xs).length with g | g
     ·exact g
     ·rw [List.getElem?_eq_none g] at hc;cases hc
    refine ⟨Or.inr ⟨rfl,hj⟩,?_,?_⟩
    ·show Ω.w.cell? _=_
     simp only [v1];rfl
    ·simp only [v1,Option.getD_some]
     exact v2.ext hx1
   have hag:∀{x:AV} {v:Value},V Ω1 x v→(∀i∈ids x,i≠k)→V ⟨fun i=>if i=k then none else Ω.e i,Ω1.w,Ω1.pub⟩ x v:=
    fun hv hi=>V.agree hv (fun i him=>by simp [hi i him,Ω1])
   have apart:∀id' c0,id'≠k→Ω.e id'=some c0→∀b' o,occ c0 b' o→¬(base=some b'/\o < (flat τ xs).length):=by
    intro id' c0 hid hc0 b' o hoc hk
    exact hid (h.inj id' k c0 _ b' o hc0 e1 hoc (by simpa [occ] using hk.1))
   refine ⟨⟨fun i=>if i=k then none else Ω.e i,Ω.w,Ω1.pub⟩,rfl,⟨fun i=>?_,h.size,h.defers,fun id' o ho=>?_,fun id' hid=>?_,fun i j ci cj b' o hi hj=>?_,fun b' o hp=>?_,fun i x hx=>?_,?_⟩⟩
   ·show V _ (aJ (pc k τ xs ts s.t) i) _
    have hnames:∀j∈ids (aJ (pc k τ xs ts s.t) i),j≠k:=by
     intro j hj
     rcases ic (pc k τ xs ts s.t) i with hu | hm
     ·rw [hu] at hj;simp [ids] at hj
     ·have:=bK (hnn.1 _ hm) j hj
      simpa using this
    rcases qP k τ xs ts s.t i with g | ⟨g,g2⟩ | ⟨g,g2⟩
    ·rw [g];exact .undef _
    ·rw [g];exact hag ((h.tmps i).ext hx1) g2
    ·rw [g] at hnames ⊢
     exact hag (V.frzV hfast ((h.tmps i).ext hx1) (g2 _ _ qT)) hnames
   ·simp only [St.abs] at ho
    have e:=ff (vO k τ xs) (s.b.filter fun x=>!(x.1 ==k)) id'
    rw [e] at ho
    have e':=cC s.b (fun i=>!(i ==k)) id'
    rw [e'] at ho
    by_cases hid:id'=k
    ·subst hid;simp at ho
    ·rw [if_pos (by simp [hid])] at ho
     simp only [Option.map_eq_some_iff] at ho
     obtain ⟨o0,ho0,rfl⟩:=ho
     have hs:=h.slots id' o0 ho0
     have hmm:(id',o0)∈s.b.filter fun x=>!(x.1 ==k):=List.mem_filter.2 ⟨bH _ _ _ ho0,by simp [hid]⟩
     cases o0 with
     | box d=>
      obtain ⟨b2,off2,g1,g2⟩:=hs
      obtain ⟨p1,p2⟩:=nd (k:=k) (xs:=xs) d
      have hst:bW s0 xs.length (stpV k d):=by
       have:∀{l:List (Nat × SObj)},(id',SObj.box d)∈l→bW s0 xs.length (l.flatMap fun x=>stpO k x.2)→bW s0 xs.length (stpV k d):=by
        intro l
        induction l with
        | nil=>intro hm;cases hm
        | cons y r ih=>
         intro hm hq
         rw [List.flatMap_cons] at hq
         obtain ⟨q1,q2⟩:=bM hq
         rcases List.mem_cons.1 hm with rfl | hm
         ·exact q1
         ·exact ih hm q2
       exact this hmm qB
      refine ⟨b2,off2,by simp only [if_neg hid];rw [g1,p1],fun j d' hd'=>?_⟩
      have hj:j < (a8 d).length:=by
       rw [←p1]
       rcases Nat.lt_or_ge j (a8 (frzV k τ xs d)).length with g | g
       ·exact g
       ·rw [List.getElem?_eq_none g] at hd';cases hd'
      have hd2:=p2 j _ (List.getElem?_eq_getElem hj)
      rw [hd'] at hd2
      obtain ⟨m1,m2,m3,v,m4,m5⟩:=g2 j _ (List.getElem?_eq_getElem hj)
      refine ⟨m1,fun hp=>?_,m3,v,m4,?_⟩
      ·rcases hp with hp | hp
       ·exact m2 hp
       ·exact apart id' _ hid g1 b2 (off2+j) ⟨rfl,by omega,by omega⟩ hp
      ·rw [Option.some.inj hd2]
       refine hag (V.frzV hfast (m5.ext hx1) (ng hst (List.getElem?_eq_getElem hj))) (fun i hi=>?_)
       have hmem:(id',vO k τ xs (.box d))∈((s.b.filter fun x=>!(x.1 ==k)).map fun x=>(x.1,vO k τ xs x.2)):=
        List.mem_map.2 ⟨(id',.box d),hmm,rfl⟩
       have:=bK (hnn.2 _ hmem) i (iJ (c:=frzV k τ xs d) (by rw [←Option.some.inj hd2];exact hd') i hi)
       simpa using this
     | tail σ n=>
      obtain ⟨base2,cap2,g1,g2,g3,g4,g5⟩:=hs
      refine ⟨base2,cap2,by simp only [if_neg hid];exact g1,g2,g3,g4,fun b2 hb2=>?_⟩
      obtain ⟨m1,vs,ty,fz,m2,m3,m4,m5⟩:=g5 b2 hb2
      refine ⟨m1,vs,ty,fz,m2,m3,m4,fun o ho hp=>?_⟩
      rcases hp with hp | hp
      ·exact m5 o ho hp
      ·exact apart id' _ hid g1 b2 o hb2 hp
     | map κ σ m=>
      obtain ⟨r,g1,g2,es,clock,g3,g4⟩:=hs
      exact ⟨r,by simp only [if_neg hid];exact g1,g2,es,clock,g3,(g4.ext hx1).data⟩
     | bld t u l=>
      obtain ⟨b2,g,g1,g2,g3⟩:=hs
      refine ⟨b2,g,by simp only [if_neg hid];exact g1,fun b3 hb3 o=>⟨(g2 b3 hb3 o).1,fun hp=>?_⟩,g3⟩
      rcases hp with hp | hp
      ·exact (g2 b3 hb3 o).2 hp
      ·exact apart id' _ hid g1 b3 o hb3 hp
     | tailp σ n x=>
      obtain ⟨b2,cap2,g1,g2,g3,g4,g5,g6,g7⟩:=hs
      refine ⟨b2,cap2,by simp only [if_neg hid];exact g1,g2,g3,g4,g5,fun o ho hp=>?_,fun j c' hc=>?_⟩
      ·rcases hp with hp | hp
       ·exact g6 o ho hp
       ·exact apart id' _ hid g1 b2 o rfl hp
      ·obtain ⟨v,k1,k2⟩:=g7 j c' hc
       refine ⟨v,k1,hag (k2.ext hx1) (fun i hi=>?_)⟩
       have:=cb hc i hi
       rw [dm] at this
       cases this
     | grow σ n ys=>
      obtain ⟨base2,cap2,g1,g2,g3,g4,g5⟩:=hs
      refine ⟨base2,cap2,by simp only [if_neg hid];exact g1,g2,g3,g4,fun b2 hb2=>?_⟩
      obtain ⟨m1,m2,m3,m4⟩:=g5 b2 hb2
      refine ⟨m1,m2,fun o hp=>?_,fun j c' hc=>?_⟩
      ·rcases hp with hp | hp
       ·exact m3 o hp
       ·exact apart id' _ hid g1 b2 o hb2 hp
      ·obtain ⟨v,k1,k2⟩:=m4 j c' hc
       exact ⟨v,k1,(k2.ext hx1).flat hc⟩
   ·simp only [St.abs] at hid
    by_cases hii:id'=k
    ·simp [hii]
    ·have e:=ff (vO k τ xs) (s.b.filter fun x=>!(x.1 ==k)) id'
     rw [e] at hid
     have e':=cC s.b (fun i=>!(i ==k)) id'
     rw [e',if_pos (by simp [hii])] at hid
     simp only [if_neg hii]
     exact h.dom id' (by show ah s.b id'=none;simpa using hid)
   ·intro h1 h2
    simp only at hi hj
    split at hi
    ·cases hi
    ·split at hj
     ·cases hj
     ·exact h.inj i j ci cj b' o hi hj h1 h2
   ·rcases hp with hp | ⟨hp1,hp2⟩
    ·exact h.pubok b' o hp
    ·obtain ⟨_,_,_,k4⟩:=e5 b' hp1
     obtain ⟨v,hv,_⟩:=k4 o _ (List.getElem?_eq_getElem hp2)
     exact ⟨v,hv⟩
   ·have hl:=F.dom0 i x hx
    have hne:i≠k:=fun e=>by subst e;rw [hnl] at hl;cases hl
    obtain ⟨x',q1,q2⟩:=h.keep i x hx
    exact ⟨x',by simp only [if_neg hne];exact q1,q2⟩
   ·refine ⟨h.frame.os,h.frame.tape,h.frame.output,h.frame.size,h.frame.block,h.frame.cell,h.frame.kind,fun b' o hp=>?_,fun b' o hp=>Or.inl (h.frame.old b' o hp),h.frame.pcell⟩
    rcases hp with hp | ⟨hp1,hp2⟩
    ·exact h.frame.pub b' o hp
    ·exact Or.inr ((e5 b' hp1).1 o)
  ·cases hp
 ·cases hp
end Go.AL
end
noncomputable section
namespace Go.AL
variable [Tabs]
def sG:SX→Exit
 | .normal=>.normal
 | .exit id=>.exit id
 | .ret=>.ret
 | .pan _=>.outgrown
def Ends (Ω:Om):SX→Exit→Prop
 | .pan pv,e=>∃v,e=.panic [{v,recovered:=false}]/\V Ω pv v
 | x,e=>sG x=e
def QL (F:Fr) (Q:SX→St→Prop):Exit→Act→World→Prop:=fun e a w=>∃x s Ω,Ends Ω x e/\Ω.w=w/\Holds F s.abs a Ω/\Q x s
mutual
theorem forceV_eq:∀(a:AV) (k:AV→Prop),forceV a k=k a
 | .undef,k=>rfl
 | .int κ n,k=>rfl
 | .bool b,k=>rfl
 | .str s,k=>rfl
 | .lst τ xs none,k=>rfl
 | .lst τ xs (some i),k=>rfl
 | .nils,k=>rfl
 | .ptr i o,k=>rfl
 | .cptr c,k=>by simp only [forceV];rw [forceV_eq c]
 | .st n x,k=>rfl
 | .nilp,k=>rfl
 | .row τ xs,k=>rfl
 | .arr i n w,k=>rfl
 | .aptr i n w o,k=>rfl
 | .map i,k=>rfl
 | .bptr i,k=>rfl
 | .lstp τ xs i,k=>rfl
 | .glst s n i,k=>rfl
 | .gptr i s n w o,k=>rfl
 | .tptr τ n i,k=>rfl
 | .iface t a,k=>by simp only [forceV];rw [forceV_eq a]
 | .nilif,k=>rfl
 | .nilm,k=>rfl
 | .pt n x,k=>rfl
 | .agg cs,k=>by simp only [forceV];rw [forceL_eq cs]
 | .tup cs,k=>by simp only [forceV];rw [forceL_eq cs]
 | .fn f cs,k=>by simp only [forceV];rw [forceL_eq cs]
theorem forceL_eq:∀(l:List AV) (k:List AV→Prop),forceL l k=k l
 | [],k=>rfl
 | a ::r,k=>by simp only [forceL];rw [forceV_eq a,forceL_eq r]
end
theorem oD:∀(l:List (Nat × AV)) (k:List (Nat × AV)→Prop),pg l k=k l
 | [],k=>rfl
 | (i,a) ::r,k=>by simp only [pg];rw [forceV_eq a,oD r]
theorem dS:∀(l:List (Nat × SObj)) (k:List (Nat × SObj)→Prop),dB l k=k l
 | [],k=>rfl
 | (i,.box c) ::r,k=>by simp only [dB];rw [forceV_eq c,dS r]
 | (i,.tail τ n) ::r,k=>by simp only [dB];rw [dS r]
 | (i,.map κ τ m) ::r,k=>by simp only [dB];rw [dS r]
 | (i,.bld t u l) ::r,k=>by simp only [dB];rw [dS r]
 | (i,.tailp τ n x) ::r,k=>by simp only [dB];rw [dS r]
 | (i,.grow τ s xs) ::r,k=>by simp only [dB];rw [dS r]
theorem cD (s:St) (k:St→Prop):ev s k=k s:=by
 unfold ev
 rw [oD,dS]
theorem jb:∀(l:List Nat) (k:List Nat→Prop),iz l k=k l
 | [],k=>rfl
 | 0 ::r,k=>by simp only [iz];rw [jb r]
 | (n+1) ::r,k=>by simp only [iz];rw [jb r]
theorem Holds.trim {F:Fr} {s:St} {a:Act} {Ω:Om} (h:Holds F s.abs a Ω) (keep:List Nat):Holds F (trim keep s).abs a Ω:=by
 refine ⟨fun i=>?_,h.size,h.defers,h.slots,h.dom,h.inj,h.pubok,h.keep,h.frame⟩
 have:=fD s.t (fun i=>keep.contains i) i
 simp only [AL.trim,St.abs]
 rw [this]
 split
 ·exact h.tmps i
 ·exact .undef _
section
variable {P:Program} {C:Cfg} {F:Fr}
theorem iP (hm:P.follows .mixedOrders=true) (hT:aE P C.tbl) (hS:ba P C.spec) (keep:List Nat) {id:Nat} {ops:Array Oper} {draw:Bool} {s1:St} {Q:SX→St→Prop} {a:Act} {Ω1:Om}
  (hdst:∀(o:Oper),o∈ops.toList→∀d,o.dst=some d→d < F.n) (h:ly C keep ops draw s1 Q) (hh1:Holds F s1.abs a Ω1):(Code.region id ops draw).wp P (QL F Q) a Ω1.w:=by
 unfold ly at h
 have key:∀s' fs,(ev (trim keep s') fun s'=>if draw=true then (if cN ops.toList fs=true then Q .normal s' else False) else Q .normal s')→
   (draw=true→cN ops.toList fs=true)/\Q .normal (trim keep s'):=by
  intro s' fs hk
  simp only [cD] at hk
  cases draw with
  | false=>exact ⟨fun h=>by simp at h,by simpa using hk⟩
  | true=>
   simp only [if_true] at hk
   rcases Classical.em (cN ops.toList fs=true) with k | k
   ·rw [if_pos k] at hk;exact ⟨fun _=>k,hk⟩
   ·rw [if_neg k] at hk;exact hk.elim
 refine jz hm hT hS hdst h (fun hdr s' fs hk=>let ⟨s2,h2⟩:=ki _ hk;(key s2 fs h2).1 hdr) hh1 (fun s' fs a' Ω' hk h'=>
   let ⟨s2,Ω2,g1,g2,g3⟩:=n9 h' hk
   ⟨.normal,trim keep s2,Ω2,rfl,g1,g2.trim keep,(key s2 fs g3).2⟩)
  (fun pv s' a' Ω' v hk h' hv=>?_)
 simp only [cD,forceV_eq] at hk
 exact ⟨.pan pv,s',Ω',⟨v,rfl,hv⟩,rfl,h',hk⟩
theorem sH (hT:aE P C.tbl) {keep:List Nat} {id:Nat} {ops:Array Oper} {draw:Bool} {s:St} {p:Prop} {f:Bool→St} {a:Act} {Ω:Om} (hn:yM C keep ops draw s=some (p,f))
  (hdst:∀(o:Oper),o∈ops.toList→∀d,o.dst=some d→d < F.n) (hh:Holds F s.abs a Ω):(Code.region id ops draw).wp P (QL F fun x t=>x=.normal/\∃b,(b=true→p)/\t=f b) a Ω.w:=by
 unfold yM at hn
 split at hn
 ·rename_i m src ty1 ps1 af1 c t m' t2 ty2 ps2 af2 hops
  split at hn
  ·rename_i e sz by' z ty τ xs o hc ht hsrc
   cases hn
   simp only [Bool.and_eq_true,Bool.not_eq_true'] at hc
   obtain ⟨hm,hcm⟩:=hc
   obtain rfl:=Nat.eq_of_beq_eq_true hm
   have hne:¬m'=c:=fun e=>by rw [e,Nat.beq_refl] at hcm;cases hcm
   have d1:m' < F.n:=hdst _ (by rw [hops];exact List.mem_cons_self ..) m' rfl
   have d2:c < F.n:=hdst _ (by rw [hops];exact List.mem_cons_of_mem _ (List.mem_cons_self ..)) c rfl
   obtain ⟨dd,u1,u2⟩:=ao hT ht rfl
   cases dd <;> simp [au] at u2
   have hv:=aF hh src
   rw [show opd s.abs.T src=.lst τ xs o from hsrc] at hv
   have hv2:V Ω (.lst τ xs none) (a.eval src):=hv.le (G:=[]) (fun k hk=>by cases hk) (b7 (by simp [LeF,cM]))
   obtain ⟨q,n,cp,hev,hq⟩:∃q n cp,a.eval src=.slice q n cp/\(q.isNone=true→xs=[]):=by
    generalize a.eval src=sv at hv2
    cases hv2 with
    | lstNil _ _ _=>exact ⟨_,_,_,rfl,fun _=>rfl⟩
    | lstVoid _ _=>exact ⟨_,_,_,rfl,fun _=>rfl⟩
    | lst _ _ _ b off cap vals h1 h2 tok hc hv=>exact ⟨_,_,_,rfl,fun q=>by cases q⟩
   have hsz:=hh.size
   have eqs:ops=#[⟨some m',.move src,ty1,ps1,af1,none⟩,⟨some c,.binOp .eql t (.tmp m') (.const (.slice none 0 0)) t2,ty2,ps2,af2,none⟩]:=by
    cases ops;simp at hops;rw [hops]
   subst eqs
   rw [hev] at hv2
   have hp1:=hh.pure (dst:=some m') (val:=.lst τ xs none) (v:=.slice q n cp) hv2 (fun d e=>by cases e;exact d1)
   have hp2:=hp1.pure (dst:=some c) (val:=.bool q.isNone) (v:=.bool q.isNone) (.bool _) (fun d e=>by cases e;exact d2)
   refine wp_region ?_
   show wpOps P _ _ [0,1] a Ω.w
   refine bw (o:=⟨some m',.move src,ty1,ps1,af1,none⟩) rfl rfl (af (v:=.slice q n cp) (w':=Ω.w) (by simp [execOp,hev]) ?_)
   have hm1:(a.put (some m') (.slice q n cp)).eval (.tmp m')=.slice q n cp:=by
    show (a.put (some m') (.slice q n cp)).tmps.getD m' undef=_
    rw [bA hsz d1,if_pos rfl]
   have hq2:(Op.equal t (.slice q n cp) (.slice none 0 0)).run P Ω.w=.ok q.isNone Ω.w:=by
    unfold Op.equal Op.maxDepth Op.equalIn
    simp only [Sem.run_bind,an u1,Result.andThen_ok]
    cases q <;> rfl
   have hg:(eqGuard .eql t (.tmp m') (.const (.slice none 0 0)) (.slice q n cp) (.slice none 0 0)).run P Ω.w=.ok () Ω.w:=rfl
   refine bw (o:=⟨some c,.binOp .eql t (.tmp m') (.const (.slice none 0 0)) t2,ty2,ps2,af2,none⟩) rfl rfl (af (v:=.bool q.isNone) (w':=Ω.w) (by
    have hk:(a.put (some m') (.slice q n cp)).eval (.const (.slice none 0 0))=.slice none 0 0:=rfl
    simp [execOp,hm1,hev,hk,hg,binOp,hq2]) ?_)
   refine ⟨.normal,_,Ω,rfl,rfl,?_,rfl,q.isNone,hq,rfl⟩
   refine Holds.trim (s:=⟨fk (fk s.t m' (.lst τ xs none)) c (.bool q.isNone),s.b⟩) ?_ keep
   have eT:(St.abs ⟨fk (fk s.t m' (.lst τ xs none)) c (.bool q.isNone),s.b⟩)=⟨aQ (aQ s.abs.T (some m') (.lst τ xs none)) (some c) (.bool q.isNone),s.abs.B⟩:=by
    show AS.mk _ _=AS.mk _ _
    congr 1
    funext k
    show aJ (fk (fk s.t m' (.lst τ xs none)) c (.bool q.isNone)) k=_
    rw [dR,dR]
    rfl
   rw [eT]
   exact hp2
  ·rename_i e sz by' z ty s1 n0 k0 hc ht hsrc
   cases hn
   simp only [Bool.and_eq_true,Bool.not_eq_true'] at hc
   obtain ⟨hm,hcm⟩:=hc
   obtain rfl:=Nat.eq_of_beq_eq_true hm
   have hne:¬m'=c:=fun e=>by rw [e,Nat.beq_refl] at hcm;cases hcm
   have d1:m' < F.n:=hdst _ (by rw [hops];exact List.mem_cons_self ..) m' rfl
   have d2:c < F.n:=hdst _ (by rw [hops];exact List.mem_cons_of_mem _ (List.mem_cons_self ..)) c rfl
   obtain ⟨dd,u1,u2⟩:=ao hT ht rfl
   cases dd <;> simp [au] at u2
   have hv:=aF hh src
   rw [show opd s.abs.T src=.glst s1 n0 k0 from hsrc] at hv
   have hv2:V Ω (.glst s1 n0 k0) (a.eval src):=hv
   obtain ⟨q,n,cp,hev,hq⟩:∃q n cp,a.eval src=.slice q n cp/\(q.isNone=true→n0=0):=by
    obtain ⟨cap,a0,g1,g2,g3,g4,g5⟩:=hv2.glst_inv
    refine ⟨a0,n0,cap,g1,fun q=>?_⟩
    rcases g4 with ⟨b,rfl⟩ | ⟨_,g,_⟩
    ·cases q
    ·exact g
   have hsz:=hh.size
   have eqs:ops=#[⟨some m',.move src,ty1,ps1,af1,none⟩,⟨some c,.binOp .eql t (.tmp m') (.const (.slice none 0 0)) t2,ty2,ps2,af2,none⟩]:=by
    cases ops;simp at hops;rw [hops]
   subst eqs
   rw [hev] at hv2
   have hp1:=hh.pure (dst:=some m') (val:=.glst s1 n0 k0) (v:=.slice q n cp) hv2 (fun d e=>by cases e;exact d1)
   have hp2:=hp1.pure (dst:=some c) (val:=.bool q.isNone) (v:=.bool q.isNone) (.bool _) (fun d e=>by cases e;exact d2)
   refine wp_region ?_
   show wpOps P _ _ [0,1] a Ω.w
   refine bw (o:=⟨some m',.move src,ty1,ps1,af1,none⟩) rfl rfl (af (v:=.slice q n cp) (w':=Ω.w) (by simp [execOp,hev]) ?_)
   have hm1:(a.put (some m') (.slice q n cp)).eval (.tmp m')=.slice q n cp:=by
    show (a.put (some m') (.slice q n cp)).tmps.getD m' undef=_
    rw [bA hsz d1,if_pos rfl]
   have hq2:(Op.equal t (.slice q n cp) (.slice none 0 0)).run P Ω.w=.ok q.isNone Ω.w:=by
    unfold Op.equal Op.maxDepth Op.equalIn
    simp only [Sem.run_bind,an u1,Result.andThen_ok]
    cases q <;> rfl
   have hg:(eqGuard .eql t (.tmp m') (.const (.slice none 0 0)) (.slice q n cp) (.slice none 0 0)).run P Ω.w=.ok () Ω.w:=rfl
   refine bw (o:=⟨some c,.binOp .eql t (.tmp m') (.const (.slice none 0 0)) t2,ty2,ps2,af2,none⟩) rfl rfl (af (v:=.bool q.isNone) (w':=Ω.w) (by
    have hk:(a.put (some m') (.slice q n cp)).eval (.const (.slice none 0 0))=.slice none 0 0:=rfl
    simp [execOp,hm1,hev,hk,hg,binOp,hq2]) ?_)
   refine ⟨.normal,_,Ω,rfl,rfl,?_,rfl,q.isNone,hq,rfl⟩
   refine Holds.trim (s:=⟨fk (fk s.t m' (.glst s1 n0 k0)) c (.bool q.isNone),s.b⟩) ?_ keep
   have eT:(St.abs ⟨fk (fk s.t m' (.glst s1 n0 k0)) c (.bool q.isNone),s.b⟩)=⟨aQ (aQ s.abs.T (some m') (.glst s1 n0 k0)) (some c) (.bool q.isNone),s.abs.B⟩:=by
    show AS.mk _ _=AS.mk _ _
    congr 1
    funext k
    show aJ (fk (fk s.t m' (.glst s1 n0 k0)) c (.bool q.isNone)) k=_
    rw [dR,dR]
    rfl
   rw [eT]
   exact hp2
  ·cases hn
 ·cases hn
theorem pJ {P:Program} {Q:Exit→Act→World→Prop} {a:Act} {w:World} {c:Code} (I:Nat→Act→World→Prop) (h₀:c.wp P (Exit.then (fun a w=>∃n,I n a w) Q) a w)
  (round:∀n a w,I n a w→c.wp P (Exit.then (fun a' w'=>∃n',n' < n/\I n' a' w') Q) a w):(Code.loop c).wp P Q a w:=by
 intro b k cs
 have key:∀n a w,I n a w→∃e a' w',Q e a' w'/\Arrives P (lone (b.at a (.code c ::.inLoop c ::k)) cs w) b k cs e a' w':=by
  intro n
  induction n using Nat.strongRecOn with
  | _ n ih=>
   intro a w hI
   obtain ⟨e,a₁,w₁,hq,harr⟩:=round n a w hI b (.inLoop c ::k) cs
   cases e with
   | normal=>
    obtain ⟨m,hlt,hI₁⟩:=hq
    obtain ⟨e₂,a₂,w₂,hq₂,harr₂⟩:=ih m hlt a₁ w₁ hI₁
    exact ⟨e₂,a₂,w₂,hq₂,.of_steps (Steps.trans harr (.one step_inLoop)) harr₂⟩
   | exit id=>exact ⟨_,a₁,w₁,hq,.pass (x:=.inLoop c) rfl (fun _ _=>.inl (by simp)) harr⟩
   | goto l=>exact ⟨_,a₁,w₁,hq,.pass (x:=.inLoop c) rfl (fun _ _=>.inl (by simp)) harr⟩
   | ret=>exact ⟨_,a₁,w₁,hq,.pass (x:=.inLoop c) rfl (fun _ _=>.inl (by simp)) harr⟩
   | panic ch=>exact ⟨_,a₁,w₁,hq,.pass (x:=.inLoop c) rfl (fun _ _=>.inl (by simp)) harr⟩
   | outgrown=>exact ⟨_,a₁,w₁,hq,.pass (x:=.inLoop c) rfl (fun _ _=>.inl (by simp)) harr⟩
 obtain ⟨e,a₁,w₁,hq,harr⟩:=h₀ b (.inLoop c ::k) cs
 cases e with
 | normal=>
  obtain ⟨m,hI⟩:=hq
  obtain ⟨e₂,a₂,w₂,hq₂,harr₂⟩:=key m a₁ w₁ hI
  exact ⟨e₂,a₂,w₂,hq₂,.of_steps (.one step_loop) (.of_steps (Steps.trans harr (.one step_inLoop)) harr₂)⟩
 | exit id=>exact ⟨_,a₁,w₁,hq,.of_steps (.one step_loop) (.pass (x:=.inLoop c) rfl (fun _ _=>.inl (by simp)) harr)⟩
 | goto l=>exact ⟨_,a₁,w₁,hq,.of_steps (.one step_loop) (.pass (x:=.inLoop c) rfl (fun _ _=>.inl (by simp)) harr)⟩
 | ret=>exact ⟨_,a₁,w₁,hq,.of_steps (.one step_loop) (.pass (x:=.inLoop c) rfl (fun _ _=>.inl (by simp)) harr)⟩
 | panic ch=>exact ⟨_,a₁,w₁,hq,.of_steps (.one step_loop) (.pass (x:=.inLoop c) rfl (fun _ _=>.inl (by simp)) harr)⟩
 | outgrown=>exact ⟨_,a₁,w₁,hq,.of_steps (.one step_loop) (.pass (x:=.inLoop c) rfl (fun _ _=>.inl (by simp)) harr)⟩
def qQ (F:Fr) (ann:An) (c:Code) (W:St→(SX→St→Prop)→Prop) (Q:SX→St→Prop) (k:Nat) (a:Act) (w:World):Prop:=
 ∃(s:St) (A:LA) (x:A.ι) (Ω:Om),(∀x,A.pre x→W (eY (bu c) s (A.t x) (A.b x)) fun
   | .normal,s'=>∃y,A.pre y/\A.m y < A.m x/\cS s' (eY (bu c) s (A.t y) (A.b y))
   | e,s'=>Q e s')/\A.pre x/\A.m x=k/\Ω.w=w/\Holds F (eY (bu c) s (A.t x) (A.b x)).abs a Ω
theorem kS {ann:An} {c:Code} {W:St→(SX→St→Prop)→Prop} {Q:SX→St→Prop} {s:St} {a:Act} {Ω:Om} (h:tH ann c W s Q) (hh:Holds F s.abs a Ω):∃k,qQ F ann c W Q k a Ω.w:=by
 unfold tH at h
 split at h
 ·exact h.elim
 ·rename_i A hA
  simp only [cD] at h
  obtain ⟨⟨x0,hp0,hle0⟩,hround⟩:=h
  obtain ⟨Ω0,e0,hh0⟩:=dq hh (gy hle0)
  exact ⟨A.m x0,s,A,x0,Ω0,hround,hp0,rfl,e0,hh0⟩
theorem kT {ann:An} {c:Code} {W:St→(SX→St→Prop)→Prop} {Q:SX→St→Prop} (hW:∀(s:St) (Q:SX→St→Prop) (a:Act) (Ω:Om),W s Q→Holds F s.abs a Ω→c.wp P (QL F Q) a Ω.w)
  {k:Nat} {a:Act} {w:World} (hI:qQ F ann c W Q k a w):c.wp P (Exit.then (fun a' w'=>∃n',n' < k/\qQ F ann c W Q n' a' w') (QL F Q)) a w:=by
 obtain ⟨s,A,x,Ω1,hround,hp,hmx,hw1,hh1⟩:=hI
 subst hw1
 refine wp_mono (hW (eY (bu c) s (A.t x) (A.b x)) _ a Ω1 (hround x hp) hh1) ?_
 intro e a' w' hq
 obtain ⟨z,s',Ω',h1,h2,h3,h4⟩:=hq
 subst h2
 cases z with
 | normal=>
  cases h1
  obtain ⟨y,hy1,hy2,hy3⟩:=h4
  obtain ⟨Ω2,e2,hh2⟩:=dq h3 (gy hy3)
  exact ⟨A.m y,by omega,s,A,y,Ω2,hround,hy1,rfl,e2,hh2⟩
 | exit id=>cases h1;exact ⟨.exit id,s',Ω',rfl,rfl,h3,h4⟩
 | ret=>cases h1;exact ⟨.ret,s',Ω',rfl,rfl,h3,h4⟩
 | pan pv=>obtain ⟨v,rfl,hv⟩:=h1;exact ⟨.pan pv,s',Ω',⟨v,rfl,hv⟩,rfl,h3,h4⟩
theorem iQ (hm:P.follows .mixedOrders=true) (hT:aE P C.tbl) (hS:ba P C.spec) (keep:List Nat) (ann:An) {id:Nat} {ops:Array Oper} {draw:Bool} {s:St} {Q:SX→St→Prop} {a:Act} {Ω:Om}
  (hdst:∀(o:Oper),o∈ops.toList→∀d,o.dst=some d→d < F.n) (h:lz C keep ann id ops draw s Q) (hhr:Holds F s.abs a Ω):(Code.region id ops draw).wp P (QL F Q) a Ω.w:=by
  unfold lz at h
  split at h
  ·exact h.elim
  ·rename_i s0 hp0
   obtain ⟨Ω0,e0,hh0⟩:=gA _ hhr hp0
   split at h
   ·exact h.elim
   ·rename_i s1 he
    obtain ⟨Ω1,e1,hh1⟩:=ie hh0 he
    rw [←e0,←e1]
    split at h
    ·exact iP hm hT hS keep hdst h hh1
    ·rename_i J hJ
     obtain ⟨h1,h2⟩:=h
     rw [cD] at h2
     refine wp_mono (iP hm hT hS keep hdst h1 hh1) ?_
     intro e a' w' hq
     obtain ⟨z,s',Ω',g1,g2,g3,g4⟩:=hq
     subst g2
     cases z with
     | normal=>
      cases g1
      obtain ⟨Ω2,e2,hh2⟩:=dq g3 (gy g4)
      exact ⟨.normal,_,Ω2,rfl,e2,hh2,h2⟩
     | exit id=>exact ⟨.exit id,s',Ω',g1,rfl,g3,g4⟩
     | ret=>exact ⟨.ret,s',Ω',g1,rfl,g3,g4⟩
     | pan pv=>exact ⟨.pan pv,s',Ω',g1,rfl,g3,g4⟩
theorem uV (hm:P.follows .mixedOrders=true) (hT:aE P C.tbl) (hS:ba P C.spec) (keep:List Nat) (ann:An) :
  ∀(c:Code) (s:St) (Q:SX→St→Prop) (a:Act) (Ω:Om),swp C keep ann c s Q→bj F.n c=true→Holds F s.abs a Ω→c.wp P (QL F Q) a Ω.w:=by
 intro c
 induction c with
 | skip=>exact fun s Q a Ω h _ hh=>wp_skip ⟨.normal,s,Ω,rfl,rfl,hh,h⟩
 | region id ops draw=>
  intro s Q a Ω h hd hh
  simp only [swp] at h
  have hdst:∀(o:Oper),o∈ops.toList→∀d,o.dst=some d→d < F.n:=by
   intro o ho d hod
   simp only [bj,List.all_eq_true] at hd
   have:=hd o ho
   rw [hod] at this
   simpa using this
  split at h
  ·rename_i p f hn
   refine wp_mono (sH hT hn hdst hh) ?_
   rintro e a' w' ⟨z,s',Ω',h1,h2,h3,h4,b,h5,h6⟩
   subst h2 h4 h6
   have:=h b h5
   rw [cD] at this
   exact ⟨.normal,f b,Ω',h1,rfl,h3,this⟩
  split at h
  ·exact h.elim
  rename_i sr hr0
  obtain ⟨Ωr,er,hhr⟩:=j9 _ hh hr0
  rw [←er]
  split at h
  ·exact iQ hm hT hS keep ann hdst h hhr
  ·split at h
   ·rename_i q s0 hf
    obtain ⟨h1,h2⟩:=h
    rw [cD] at h2
    obtain ⟨Ω0,e0,hh0⟩:=sF hhr hf h1
    rw [←e0]
    exact iQ hm hT hS keep ann hdst h2 hh0
   ·exact h.elim
 | seq x y ihx ihy=>
  intro s Q a Ω h hd hh
  have hd0:=hd
  simp only [bj,Bool.and_eq_true] at hd
  simp only [swp] at h
  split at h
  ·rename_i L hL
   refine wp_mono (sA hT hL h hd0 hh) ?_
   rintro e a' w' ⟨rfl,s',Ω',h2,h3,h4⟩
   rw [cD] at h4
   exact ⟨.normal,s',Ω',rfl,h2,h3,h4⟩
  split at h
  rotate_left
  ·rename_i J hJ
   obtain ⟨h1,h2⟩:=h
   rw [cD] at h2
   refine wp_seq (wp_mono (ihx s _ a Ω h1 hd.1 hh) ?_)
   intro e a' w' hq
   obtain ⟨z,s',Ω',g1,g2,g3,g4⟩:=hq
   subst g2
   cases z with
   | normal=>
    cases g1
    obtain ⟨Ω2,e2,hh2⟩:=dq g3 (gy g4)
    rw [←e2]
    exact ihy _ Q a' Ω2 h2 hd.2 hh2
   | exit id=>cases g1;exact ⟨.exit id,s',Ω',rfl,rfl,g3,g4⟩
   | ret=>cases g1;exact ⟨.ret,s',Ω',rfl,rfl,g3,g4⟩
   | pan pv=>obtain ⟨v,rfl,hv⟩:=g1;exact ⟨.pan pv,s',Ω',⟨v,rfl,hv⟩,rfl,g3,g4⟩
  refine wp_seq (wp_mono (ihx s _ a Ω h hd.1 hh) ?_)
  intro e a' w' hq
  obtain ⟨z,s',Ω',h1,h2,h3,h4⟩:=hq
  subst h2
  cases z with
  | normal=>cases h1;exact ihy s' Q a' Ω' h4 hd.2 h3
  | exit id=>cases h1;exact ⟨.exit id,s',Ω',rfl,rfl,h3,h4⟩
  | ret=>cases h1;exact ⟨.ret,s',Ω',rfl,rfl,h3,h4⟩
  | pan pv=>obtain ⟨v,rfl,hv⟩:=h1;exact ⟨.pan pv,s',Ω',⟨v,rfl,hv⟩,rfl,h3,h4⟩
 | cond c x y ihx ihy=>
  intro s Q a Ω h hd hh
  simp only [bj,Bool.and_eq_true] at hd
  simp only [swp] at h
  split at h
  ·rename_i b hb
   have hv:=aF hh c
   have hb':opd s.abs.T c=.bool b:=hb
   rw [hb'] at hv
   have hv:=hv.bool_inv
   refine wp_cond hv ?_
   unfold sp at h
   have hset:Holds F (xB c b s).abs a Ω:=by
    cases c with
    | tmp t=>
     refine ⟨fun i=>?_,hh.size,hh.defers,hh.slots,hh.dom,hh.inj,hh.pubok,hh.keep,hh.frame⟩
     have e:(xB (.tmp t) b s).abs.T i=if t=i then .bool b else aJ s.t i:=dR s.t t (.bool b) i
     rw [e]
     by_cases ht:t=i
     ·subst ht
      rw [if_pos rfl]
      have:=hh.tmps t
      rw [show s.abs.T t=.bool b from hb'] at this
      exact this
     ·rw [if_neg ht]
      exact hh.tmps i
    | _=>exact hh
   cases b with
   | true=>exact ihx _ Q a Ω (by simpa using h) hd.1 hset
   | false=>exact ihy _ Q a Ω (by simpa using h) hd.2 hset
  ·exact h.elim
 | block id c ih=>
  intro s Q a Ω h hd hh
  simp only [bj] at hd
  simp only [swp] at h
  refine wp_block (wp_mono (ih s _ a Ω h hd hh) ?_)
  intro e a' w' hq
  obtain ⟨z,s',Ω',h1,h2,h3,h4⟩:=hq
  subst h2
  cases z with
  | normal=>cases h1;exact ⟨.normal,s',Ω',rfl,rfl,h3,h4⟩
  | ret=>cases h1;exact ⟨.ret,s',Ω',rfl,rfl,h3,h4⟩
  | pan pv=>obtain ⟨v,rfl,hv⟩:=h1;exact ⟨.pan pv,s',Ω',⟨v,rfl,hv⟩,rfl,h3,h4⟩
  | exit j=>
   cases h1
   simp only [sG,Exit.inBlock]
   by_cases hj:j=id
   ·subst hj
    simp only [if_true]
    simp only [beq_self_eq_true,if_true] at h4
    exact ⟨.normal,s',Ω',rfl,rfl,h3,h4⟩
   ·rw [if_neg hj]
    simp only [beq_iff_eq,hj,if_false] at h4
    exact ⟨.exit j,s',Ω',rfl,rfl,h3,h4⟩
 | loop c ih=>
  intro s Q a Ω h hd hh
  simp only [bj] at hd
  simp only [swp] at h
  have hW:∀(s:St) (Q:SX→St→Prop) (a:Act) (Ω:Om),swp C keep ann c s Q→Holds F s.abs a Ω→c.wp P (QL F Q) a Ω.w:=fun s Q a Ω h hh=>ih s Q a Ω h hd hh
  split at h
  ·refine pJ (qQ F ann c (swp C keep ann c) Q) (wp_mono (hW s _ a Ω h hh) ?_) fun k a w hI=>kT hW hI
   intro e a' w' hq
   obtain ⟨z,s',Ω',h1,h2,h3,h4⟩:=hq
   subst h2
   cases z with
   | normal=>
    cases h1
    simp only [cD] at h4
    split at h4
    ·rename_i s2 h5
     obtain ⟨Ω2,e2,hh2⟩:=j9 _ h3 h5
     obtain ⟨k,hI⟩:=kS h4 hh2
     exact ⟨k,e2 ▸ hI⟩
    ·exact h4.elim
   | exit id=>cases h1;exact ⟨.exit id,s',Ω',rfl,rfl,h3,h4⟩
   | ret=>cases h1;exact ⟨.ret,s',Ω',rfl,rfl,h3,h4⟩
   | pan pv=>obtain ⟨v,rfl,hv⟩:=h1;exact ⟨.pan pv,s',Ω',⟨v,rfl,hv⟩,rfl,h3,h4⟩
  ·obtain ⟨k,hI⟩:=kS h hh
   exact wp_loop_ghost (qQ F ann c (swp C keep ann c) Q) k hI fun k a w hI=>kT hW hI
 | exit id=>exact fun s Q a Ω h _ hh=>wp_exit ⟨.exit id,s,Ω,rfl,rfl,hh,h⟩
 | ret=>
  intro s Q a Ω h _ hh
  simp only [swp] at h
  split at h
  ·exact wp_ret ⟨.ret,s,Ω,rfl,rfl,hh,h⟩
  ·split at h
   ·rename_i s' h1
    rw [cD] at h
    obtain ⟨Ω',e,hh'⟩:=ja _ hh h1
    rw [←e]
    exact wp_ret ⟨.ret,s',Ω',rfl,rfl,hh',h⟩
   ·exact h.elim
 | rangeFunc g ps x y _ _=>exact fun s Q a Ω h=>by simp [swp] at h
 | scope c ih=>
  intro s Q a Ω h hd hh
  simp only [bj] at hd
  simp only [swp] at h
  refine wp_scope_straight (wp_mono (ih s _ a Ω h hd hh) ?_)
  intro e a' w' hq
  obtain ⟨z,s',Ω',h1,h2,h3,h4⟩:=hq
  cases z with
  | normal=>cases h1;exact ⟨.normal,s',Ω',rfl,h2,h3,h4⟩
  | exit id=>cases h1;exact ⟨.exit id,s',Ω',rfl,h2,h3,h4⟩
  | ret=>cases h1;exact ⟨.ret,s',Ω',rfl,h2,h3,h4⟩
  | pan pv=>obtain ⟨v,rfl,hv⟩:=h1;exact ⟨.pan pv,s',Ω',⟨v,rfl,hv⟩,h2,h3,h4⟩
 | label l=>exact fun s Q a Ω h _ hh=>wp_label ⟨.normal,s,Ω,rfl,rfl,hh,h⟩
 | goto l=>exact fun s Q a Ω h=>by simp [swp] at h
 | refuse why=>exact fun s Q a Ω h=>by simp [swp] at h
theorem fY:∀(l:List AV) (i j:Nat),aJ (dC i l) j=if i<=j then l.getD (j - i) .undef else .undef
 | [],i,j=>by simp [dC,bY,bC]
 | v ::r,i,j=>by
  simp only [dC,bY,bC,fY r (i+1) j]
  by_cases h:i=j
  ·subst h;simp
  ·simp only [beq_iff_eq,h,if_false]
   by_cases h2:i<=j
   ·have e:j - i=(j - (i+1))+1:=by omega
    rw [if_pos h2,if_pos (by omega),e]
    simp
   ·rw [if_neg h2,if_neg (by omega)]
theorem oE {w:World} {pub:Nat→Nat→Prop} {e:Nat→Option CObj} {args:List AV} {vs:List Value} (k:Nat) (hv:VL ⟨e,w,pub⟩ args vs) (i:Nat) :
  V ⟨e,w,pub⟩ (aJ (dC 0 args) i) ((vs.toArray++Array.replicate k undef).getD i undef):=by
 simp only [fY,Nat.zero_le,if_true,Nat.sub_zero]
 by_cases h:i < args.length
 ·have h':i < vs.length:=by rw [←hv.1];exact h
  have e1:args.getD i .undef=args[i]:=by simp [List.getD_eq_getElem?_getD,h]
  have e2:(vs.toArray++Array.replicate k undef).getD i undef=vs[i]:=by
   simp [Array.getD_eq_getD_getElem?,Array.getElem?_append,h']
  rw [e1,e2]
  exact hv.2 i _ _ (List.getElem?_eq_getElem h) (List.getElem?_eq_getElem h')
 ·have e1:args.getD i .undef=.undef:=by simp [List.getD_eq_getElem?_getD,h]
  rw [e1]
  exact .undef _
theorem nh {w:World} {pub:Nat→Nat→Prop} {e:Nat→Option CObj} {args:List AV} {vs:List Value} {n:Nat} {S:List (Nat × SObj)} (hp:gZ w pub) (ht:gT w pub e) (hv:VL ⟨e,w,pub⟩ args vs) (hn:args.length<=n)
  (hs:∀id o,ah S id=some o→aP ⟨e,w,pub⟩ (fun _ _=>True) id o) (hd:∀id,ah S id=none→e id=none) (hi:Inj e) (hl:∀id c,e id=some c→b9 id=true) :
  Holds ⟨w,pub,n,e,hl,[],ht⟩ (St.abs ⟨dC 0 args,S⟩) {tmps:=vs.toArray++Array.replicate (n - vs.toArray.size) undef,defers:=[]} ⟨e,w,pub⟩:=
 ⟨fun i=>oE _ hv i,by simp;have:=hv.1;omega,rfl,fun id o ho=>(hs id o ho).own_of (fun c b oo hc hoc=>Or.inr ⟨id,c,hc,hoc⟩),fun id hid=>hd id hid,hi,hp,fun id c hc=>⟨c,hc,CLe.refl c⟩,
  ⟨rfl,rfl,rfl,Nat.le_refl _,fun _ _ _=>rfl,fun _ _ _ _=>rfl,fun _ _ _=>⟨rfl,fun _=>rfl⟩,fun _ _ h=>Or.inl h,fun _ _ h=>h,fun _ _ _=>rfl⟩⟩
def kn (tmps:Array Value):ResultVar→Sem Value
 | .tmp t=>pure (tmps.getD t undef)
 | .cell a t=>do loadVar t (←asAddr (tmps.getD a undef))
theorem ni (fn:Func) (tmps:Array Value):results fn tmps=(do
  let vs ←fn.results.mapM (kn tmps)
  pure (if h:vs.size=1 then vs[0] else .tuple vs)):=by
 unfold results
 congr 1
theorem eG (hT:aE P C.tbl) {s:St} {a:Act} {Ω:Om} (hh:Holds F s.abs a Ω):∀(rs:List ResultVar) (l:List AV),gS C.tbl s rs=some l→
  ∃vs,(rs.mapM (kn a.tmps)).run P Ω.w=.ok vs Ω.w/\VL Ω l vs
 | [],l,h=>by
  simp [gS] at h
  subst h
  exact ⟨[],rfl,VL.nil⟩
 | .tmp t ::rs,l,h=>by
  simp only [gS] at h
  split at h
  ·rename_i l' hl'
   simp at h
   subst h
   obtain ⟨vs,k1,k2⟩:=eG hT hh rs l' hl'
   exact ⟨_,by rw [List.mapM_cons];simp only [kn,Sem.run_bind,Sem.run_pure,Result.andThen_ok,k1],VL.cons (hh.tmps t) k2⟩
  ·cases h
 | .cell b t ::rs,l,h=>by
  simp only [gS] at h
  split at h
  ·rename_i id off rt hb hrt
   have hv:=hh.tmps b
   have e:s.abs.T b=.ptr id off:=hb
   rw [e] at hv
   obtain ⟨g,o',len,hv1,hv2⟩:=hv.ptr_inv
   split at h
   ·rename_i c hcs
    split at h
    ·rename_i x l' hx hl'
     simp at h
     subst h
     obtain ⟨vs,k1,k2⟩:=eG hT hh rs l' hl'
     obtain ⟨b',off',e1,e2⟩:=hh.slots id _ hcs
     rw [hv2] at e1
     simp only [Xs,CObj.box.injEq] at e1
     obtain ⟨rfl,rfl,rfl⟩:=e1
     obtain ⟨v,w1,w2⟩:=eA (P:=P) (C:=C) (w:=Ω.w) hT hrt hx (b:=g) (o':=o') (fun j c' hc=>(e2 j c' hc).2.2.2)
     exact ⟨v ::vs,by rw [List.mapM_cons];simp only [kn,Sem.run_bind,hv1,asAddr,Sem.run_pure,Result.andThen_ok,w1,k1],VL.cons w2 k2⟩
    ·cases h
   ·cases h
  ·cases h
theorem Holds.retmp {s:AS} {a:Act} {Ω:Om} (h:Holds F s a Ω) {l:List AV} {vs:List Value} (hv:VL Ω l vs) :
  Holds ⟨F.w0,F.pub0,vs.length,F.e0,F.dom0,[],F.tab0⟩ ⟨aJ (dC 0 l),s.B⟩ {tmps:=vs.toArray++Array.replicate 0 undef,defers:=[]} Ω:=
 ⟨fun i=>oE 0 hv i,by simp,rfl,h.slots,h.dom,h.inj,h.pubok,h.keep,
  ⟨h.frame.os,h.frame.tape,h.frame.output,h.frame.size,h.frame.block,h.frame.cell,h.frame.kind,h.frame.pub,h.frame.old,h.frame.pcell⟩⟩
theorem jA {w:World} {pub:Nat→Nat→Prop} {e:Nat→Option CObj} {n:Nat} {hl:∀id c,e id=some c→b9 id=true} {ht:gT w pub e} {T:Nat→AV} {B:List (Nat × SObj)} {a:Act} {Ω:Om}
  (h:Holds ⟨w,pub,n,e,hl,[],ht⟩ ⟨T,ah B⟩ a Ω):After w pub e (ah B) Ω.w Ω.pub Ω.e:=by
 refine ⟨h.frame.os,h.frame.tape,h.frame.output,h.frame.size,h.frame.block,h.frame.cell,h.frame.kind,⟨h.keep,h.frame.old,h.frame.pcell⟩,fun b o hp=>?_,h.pubok,h.slots,h.dom,h.inj⟩
 rcases h.frame.pub b o hp with q | q | q
 ·exact Or.inl q
 ·exact Or.inr (Or.inl q)
 ·exact Or.inr (Or.inr q)
theorem jB {α:Type} {l:List α} (h:l.length=1):∃x,l=[x]:=by
 match l,h with
 | [x],_=>exact ⟨x,rfl⟩
theorem uW (hm:P.follows .mixedOrders=true) (hT:aE P C.tbl) (hS:ba P C.spec) {ann:An} {f:Nat} {fn:Func} (hf:P.funcs[f]?=some fn)
  {args:List AV} {S:List (Nat × SObj)} {A:Ans} (h:fwp C ann fn args S A):aW P f args S A:=by
 intro w pub e vs hp ht hv hs hdom hinj
 unfold fwp at h
 split at h
 ·exact h.elim
 ·rename_i c hb
  split at h
  ·exact h.elim
  ·rename_i hck
   simp only [Bool.and_eq_true,List.all_eq_true] at hck
   obtain ⟨⟨hck1,hck2⟩,hck3⟩:=hck
   have hlen:=fx _ _ hck2
   rw [jb,cD] at h
   have hlent:∀id c,e id=some c→b9 id=true:=by
    intro id c hc
    cases hg:ah S id with
    | none=>rw [hdom id hg] at hc;cases hc
    | some o=>exact hck3 id (List.mem_map.2 ⟨(id,o),bH _ _ _ hg,rfl⟩)
   refine calls_of_wp hf hb ?_
   have hh:=nh (n:=fn.ntmps) hp ht hv hlen hs hdom hinj hlent
   refine wp_mono (uV (F:=⟨w,pub,fn.ntmps,e,hlent,[],ht⟩) hm hT hS _ ann c _ _ _ _ h hck1 hh) ?_
   intro en a' w' hq
   obtain ⟨z,s',Ω',h1,h2,h3,h4⟩:=hq
   subst h2
   have hmap:∀us,(fn.results.toList.mapM (kn a'.tmps)).run P Ω'.w=.ok us Ω'.w→
     (results fn a'.tmps).run P Ω'.w=.ok (if h:us.toArray.size=1 then us.toArray[0] else .tuple us.toArray) Ω'.w:=by
    intro us hus
    rw [ni,←Array.toArray_toList (xs:=fn.results),List.mapM_toArray]
    simp only [Sem.run_bind,Sem.run_map,hus,Result.andThen_ok,Sem.run_pure]
   have key:((match A.pan with | some (b,_,_)=>b=false | none=>True)/\vW (gS C.tbl s' fn.results.toList) s' A.val (bz S A.upd))→
     a'.defers=[]/\∃v,(results fn a'.tmps).run P Ω'.w=.ok v Ω'.w/\∃pub' e',(∀b pv u,A.pan=some (b,pv,u)→b=false)/\V ⟨e',Ω'.w,pub'⟩ A.val v/\After w pub e (ah (bz S A.upd)) Ω'.w pub' e':=by
    rintro ⟨hpan,hend⟩
    refine ⟨h3.defers,?_⟩
    have hpan':∀b pv u,A.pan=some (b,pv,u)→b=false:=by
     intro b pv u hpa
     rw [hpa] at hpan
     exact hpan
    unfold vW at hend
    split at hend
    ·rename_i x hres
     obtain ⟨us,k1,k2⟩:=eG hT h3 _ _ hres
     obtain ⟨u,rfl⟩:=jB (by rw [←k2.1];rfl)
     obtain ⟨Ω2,e2,hh2⟩:=dq (s:=⟨[(0,x)],s'.b⟩) (h3.retmp k2) (gy hend)
     refine ⟨u,by simpa using hmap [u] k1,Ω2.pub,Ω2.e,hpan',?_,?_⟩
     ·have:=hh2.tmps 0
      rw [←e2]
      exact this
     ·rw [←e2]
      exact jA hh2
    ·rename_i l hne hres
     split at hend
     ·rename_i rs hval
      split at hend
      ·rename_i hln
       have hl2:=bf _ _ hln
       obtain ⟨us,k1,k2⟩:=eG hT h3 _ _ hres
       obtain ⟨Ω2,e2,hh2⟩:=dq (s:=⟨dC 0 l,s'.b⟩) (h3.retmp k2) (gy hend)
       have hsz:¬us.toArray.size=1:=by
        intro h1
        obtain ⟨x,hx⟩:=jB (l:=l) (by rw [k2.1];simpa using h1)
        exact hne x hx
       refine ⟨.tuple us.toArray,?_,Ω2.pub,Ω2.e,hpan',?_,?_⟩
       ·rw [hmap us k1,dif_neg hsz]
       ·rw [hval]
        refine .tup rs us (by rw [←k2.1,←hl2]) (fun j c v hc hv=>?_)
        have:=hh2.tmps j
        simp only [St.abs,fY,Nat.zero_le,if_true,Nat.sub_zero,List.getD_eq_getElem?_getD,hc,Option.getD_some] at this
        have e3:(us.toArray++Array.replicate 0 undef).getD j undef=v:=by
         simp [Array.getD_eq_getD_getElem?,hv]
        rw [e3,] at this
        rw [←e2]
        exact this
       ·rw [←e2]
        exact jA hh2
      ·exact hend.elim
     ·exact hend.elim
    ·exact hend.elim
   cases z with
   | normal=>cases h1;exact key h4
   | exit id=>exact h4.elim
   | ret=>cases h1;exact key h4
   | pan pv=>
    obtain ⟨v,rfl,hv⟩:=h1
    simp only at h4
    split at h4
    ·rename_i b pv' pu hpa
     obtain ⟨hbt,hend⟩:=h4
     subst hbt
     obtain ⟨Ω2,e2,hh2⟩:=dq (s:=⟨[(0,pv)],s'.b⟩) (h3.retmp (VL.cons hv .nil)) (gy hend)
     refine ⟨h3.defers,Ω2.pub,Ω2.e,pv',pu,v,hpa,rfl,?_,?_⟩
     ·have:=hh2.tmps 0
      rw [←e2]
      exact this
     ·rw [←e2]
      exact jA hh2
    ·exact h4.elim
end
end Go.AL
end
noncomputable section
namespace Go.AL
variable [Tabs]
theorem TRok.mk' {P:Program} {t:Nat} {r:TR}
  (h1:(P.info? t).map (fun i=>(i.size,i.bytes,i.zero.map fun z=>z.cells.toList.map bc))=some (r.size,r.bytes,some r.zero))
  (h2:(P.underlying t).map (au P r.ti)=some true)
  (h3:(du r.zero r.size && (Nat.beq r.size 0 || Nat.blt 0 r.bytes) && (match r.ty with | some τ=>Nat.beq (a7 τ) r.size && (xt τ ==r.isAgg) | none=>true))=true)
  (h8:(P.info? t).map (fun i=>i.zero.map fun z=>rY z ==r.isAgg)=some (some true))
  (h9:(match r.ti with | .strct true _=>!P.stoodInHeld t && !P.eqGuardType P.depth t | _=>true)=true):TRok P t r:=by
 simp only [Bool.and_eq_true,Bool.or_eq_true,Nat.beq_eq,Nat.blt_eq] at h3
 obtain ⟨⟨h5,h6⟩,h7⟩:=h3
 refine ⟨?_,bf _ _ h5,fun hz=>?_,?_,fun τ hτ=>?_,fun i z hi hz=>?_,fun fs hfs=>?_⟩
 ·cases hi:P.info? t with
  | none=>rw [hi] at h1;simp at h1
  | some i=>
   rw [hi] at h1
   simp only [Option.map_some,Xs,Prod.mk.injEq,Option.map_eq_some_iff] at h1
   obtain ⟨e1,e2,z,e3,e4⟩:=h1
   exact ⟨i,z,rfl,e1,e2,e3,e4⟩
 ·rcases h6 with h6 | h6
  ·omega
  ·exact h6
 ·cases hd:P.underlying t with
  | none=>rw [hd] at h2;simp at h2
  | some d=>
   rw [hd] at h2
   exact ⟨d,rfl,by simpa using h2⟩
 ·rw [hτ] at h7
  simpa using h7
 ·rw [hi] at h8
  simp [hz] at h8
  exact h8
 ·rw [hfs] at h9
  simpa using h9
theorem aE.nil {P:Program}:aE P []:=fun t r h=>by simp [oa,lO] at h
theorem aE.cons {P:Program} {t:Nat} {r:TR} {l:List (Nat × TR)} (h:TRok P t r) (hl:aE P l):aE P ((t,r) ::l):=by
 intro t' r' h'
 simp only [oa,lO] at h'
 by_cases e:t=t'
 ·subst e
  simp at h'
  subst h'
  exact h
 ·simp only [beq_iff_eq,e,if_false] at h'
  exact hl t' r' h'
theorem aS.mk' {P:Program} {f:Nat} {fn:Func} (h:P.funcs[f]?=some fn) (h2:(fn.body.isNone || (fn.name == "runtime.NumGoroutine"))=false):aS P f:=by
 simp only [Bool.or_eq_false_iff] at h2
 exact ⟨fn,h,h2.1,h2.2⟩
end Go.AL
end
noncomputable section
namespace Go.AL
def Wf (τ:Ty) (x:den τ):Prop:=∃Ω v,V Ω (inj τ x) v
def WfL (args:List AV):Prop:=∃Ω vs,VL Ω args vs
theorem Wf.str {s:Str} (h:Wf .str s):s.length<=9223372036854775807:=letI:=ph;let ⟨_,_,h⟩:=h;h.str_inv.2
theorem Wf.len {τ:Ty} {xs:List (den τ)} (h:Wf (.lst τ) xs):xs.length<=9223372036854775807:=by
 letI:=ph
 obtain ⟨Ω,v,h⟩:=h
 rcases h.lst_inv with ⟨h1,_,_⟩ | ⟨h1,_,_⟩ | ⟨b,off,cap,vals,hv,h1,h2,_⟩
 ·rw [h1];simp
 ·rw [h1];simp
 ·unfold aM at h2;omega
theorem VL.inj {Ω:Om} {τ:Ty} {x:den τ} {vs:List Value} (h:VL Ω (cells τ x) vs):∃v,V Ω (inj τ x) v:=by
 cases τ with
 | st n=>exact ⟨_,.st n x _ (V.of_agg h)⟩
 | int k=>match vs,h with | [v],h=>exact ⟨v,h.head⟩
 | bool=>match vs,h with | [v],h=>exact ⟨v,h.head⟩
 | str=>match vs,h with | [v],h=>exact ⟨v,h.head⟩
 | lst t=>match vs,h with | [v],h=>exact ⟨v,h.head⟩
 | pt n=>match vs,h with | [v],h=>exact ⟨v,h.head⟩
theorem Wf.mem {τ:Ty} {xs:List (den τ)} (h:Wf (.lst τ) xs) {x:den τ} (hx:x∈xs):Wf τ x:=by
 letI:=ph
 obtain ⟨Ω,v,h⟩:=h
 rcases h.lst_inv with ⟨h1,_,_⟩ | ⟨h1,_,_⟩ | ⟨b,off,cap,vals,hv,h1,h2,h3,h4,h5⟩
 ·rw [h1] at hx;simp at hx
 ·rw [h1] at hx;simp at hx
 ·obtain ⟨i,hi⟩:=List.getElem?_of_mem hx
  have:VL Ω (cells τ x) ((List.range (cells τ x).length).map (vals i)):=by
   refine ⟨by simp,fun j c v hc hv=>?_⟩
   have hj:j < (cells τ x).length:=by
    rcases Nat.lt_or_ge j (cells τ x).length with k | k
    ·exact k
    ·rw [List.getElem?_eq_none k] at hc;cases hc
   simp [hj] at hv
   subst hv
   exact h5 i x hi j c hc
  obtain ⟨v',hv'⟩:=this.inj
  exact ⟨Ω,v',hv'⟩
theorem Wf.cell {n:SN} {x:SD n} (h:Wf (.st n) x) (j:Nat) {τ:Ty} {y:den τ} (hc:(cells (.st n) x)[j]?=some (AL.inj τ y)):Wf τ y:=by
 obtain ⟨Ω,v,h⟩:=h
 cases h with
 | st _ _ v hv=>
  obtain ⟨vs,_,hl⟩:=hv.agg_inv
  have hj:j < vs.length:=by
   rw [←hl.1]
   rcases Nat.lt_or_ge j (cells (.st n) x).length with k | k
   ·exact k
   ·rw [List.getElem?_eq_none k] at hc;cases hc
  exact ⟨Ω,_,hl.2 j _ _ hc (List.getElem?_eq_getElem hj)⟩
theorem Wf.names {s:Shape} (h:Wf (.st .shape) s):Wf (.lst .str) s.names:=h.cell 3 (τ:=.lst .str) (y:=s.names) rfl
theorem Wf.parts {s:Shape} (h:Wf (.st .shape) s):Wf (.lst (.st .shape)) s.parts:=h.cell 4 (τ:=.lst (.st .shape)) (y:=s.parts) rfl
theorem Wf.dep_items {x:Depd} (h:Wf (.st .dep) x):Wf (.lst (.st .item)) x.items:=(h.cell 1 (τ:=.lst (.st .item)) (y:=x.items) rfl)
theorem WfL.cons {a:AV} {l:List AV} (h:WfL (a ::l)):(∃Ω v,V Ω a v)/\WfL l:=by
 obtain ⟨Ω,vs,h⟩:=h
 rcases h.cases with ⟨e,_⟩ | ⟨c,cs,v,vs',e,_,h1,h2⟩
 ·cases e
 ·cases e;exact ⟨⟨Ω,v,h1⟩,Ω,vs',h2⟩
theorem WfL.one {τ:Ty} {x:den τ} {l:List AV} (h:WfL (inj τ x ::l)):Wf τ x:=h.cons.1
theorem WfL.two {a:AV} {τ:Ty} {x:den τ} {l:List AV} (h:WfL (a ::inj τ x ::l)):Wf τ x:=h.cons.2.cons.1
theorem WfL.three {a b:AV} {τ:Ty} {x:den τ} {l:List AV} (h:WfL (a ::b ::inj τ x ::l)):Wf τ x:=h.cons.2.cons.2.cons.1
section
variable [Tabs]
variable {P:Program}
theorem aW.wf {f:Nat} {args:List AV} {S:List (Nat × SObj)} {A:Ans} (h:WfL args→aW P f args S A):aW P f args S A:=
 fun w pub e vs hp ht hv hs hd hi=>h ⟨_,vs,hv⟩ w pub e vs hp ht hv hs hd hi
theorem aW.args {f:Nat} {args args':List AV} {S:List (Nat × SObj)} {A:Ans} (ha:RdL args args') (h:aW P f args' S A):aW P f args S A:=
 fun w pub e vs hp ht hv hs hd hi=>h w pub e vs hp ht (hv.rd ha) hs hd hi
abbrev Pat:=List AV→List (Nat × SObj)→Option Ans
def eL:List (Nat × Pat)→Nat→Pat
 | [],_=>fun _ _=>none
 | (i,g) ::l,f=>fun args S=>
  match Nat.beq i f with
  | true=>(match g args S with | some A=>some A | none=>eL l f args S)
  | false=>eL l f args S
def aL (P:Program) (f:Nat) (g:Pat):Prop:=
 ∀args S A,g args S=some A→(∀q,A.ob=some q→q)→(aI S).all b9=true→aS P f/\aW P f args S A
theorem uX:ba P (eL []):=fun f args S A h=>by simp [eL] at h
theorem sI {f:Nat} {g:Pat} {l:List (Nat × Pat)} (h:aL P f g) (hl:ba P (eL l)):ba P (eL ((f,g) ::l)):=by
 intro f' args S A hA ho hk
 simp only [eL] at hA
 split at hA
 ·rename_i hb
  have e:f=f':=Nat.eq_of_beq_eq_true hb
  subst e
  split at hA
  ·rename_i A' hg
   simp at hA
   subst hA
   exact h args S A' hg ho hk
  ·exact hl f args S A hA ho hk
 ·exact hl f' args S A hA ho hk
def p1 (τ:Ty) (F:den τ→Ans):Pat
 | [a],[]=>(match arg τ a with | some a=>some (F a) | none=>none)
 | _,_=>none
def p2 (τ σ:Ty) (F:den τ→den σ→Ans):Pat
 | [a,b],[]=>(match arg τ a,arg σ b with | some a,some b=>some (F a b) | _,_=>none)
 | _,_=>none
def pf (τ:Ty) (n:Nat) (F:den τ→Ans):Pat
 | [a,.fn f []],[]=>(match Nat.beq f n with | true=>(match arg τ a with | some a=>some (F a) | none=>none) | false=>none)
 | _,_=>none
def p3 (τ σ ρ:Ty) (F:den τ→den σ→den ρ→Ans):Pat
 | [a,b,c],[]=>(match arg τ a,arg σ b,arg ρ c with | some a,some b,some c=>some (F a b c) | _,_,_=>none)
 | _,_=>none
theorem Rd.arg {τ:Ty} {a:AV} {x:den τ} (h:AL.arg τ a=some x):Rd a (inj τ x):=fun _ _ hv=>tK hv h
theorem fg {f:Nat} {τ:Ty} {F:den τ→Ans} (he:aS P f) (h:∀x,Wf τ x→(∀q,(F x).ob=some q→q)→aW P f [inj τ x] [] (F x)):aL P f (p1 τ F):=by
 intro args S A hA ho _
 unfold p1 at hA
 split at hA
 ·split at hA
  ·rename_i x hx
   simp at hA
   subst hA
   exact ⟨he,aW.args (.cons (Rd.arg hx) .nil) (aW.wf fun hw=>h x hw.one ho)⟩
  ·cases hA
 ·cases hA
theorem fF {f:Nat} {τ σ:Ty} {F:den τ→den σ→Ans} (he:aS P f)
  (h:∀x y,Wf τ x→Wf σ y→(∀q,(F x y).ob=some q→q)→aW P f [inj τ x,inj σ y] [] (F x y)):aL P f (p2 τ σ F):=by
 intro args S A hA ho _
 unfold p2 at hA
 split at hA
 ·split at hA
  ·rename_i x y hx hy
   simp at hA
   subst hA
   exact ⟨he,aW.args (.cons (Rd.arg hx) (.cons (Rd.arg hy) .nil)) (aW.wf fun hw=>h x y hw.one hw.two ho)⟩
  ·cases hA
 ·cases hA
theorem yt {f:Nat} {τ:Ty} {n:Nat} {F:den τ→Ans} (he:aS P f) (h:∀x,Wf τ x→(∀q,(F x).ob=some q→q)→aW P f [inj τ x,.fn n []] [] (F x)):aL P f (pf τ n F):=by
 intro args S A hA ho _
 unfold pf at hA
 split at hA
 ·split at hA
  ·rename_i hb
   have e:=Nat.eq_of_beq_eq_true hb
   subst e
   split at hA
   ·rename_i x hx
    simp at hA
    subst hA
    exact ⟨he,aW.args (.cons (Rd.arg hx) (.cons (Rd.refl _) .nil)) (aW.wf fun hw=>h x hw.one ho)⟩
   ·cases hA
  ·cases hA
 ·cases hA
theorem zm {f:Nat} {τ σ ρ:Ty} {F:den τ→den σ→den ρ→Ans} (he:aS P f)
  (h:∀x y z,Wf τ x→Wf σ y→Wf ρ z→(∀q,(F x y z).ob=some q→q)→aW P f [inj τ x,inj σ y,inj ρ z] [] (F x y z)):aL P f (p3 τ σ ρ F):=by
 intro args S A hA ho _
 unfold p3 at hA
 split at hA
 ·split at hA
  ·rename_i x y z hx hy hz
   simp at hA
   subst hA
   exact ⟨he,aW.args (.cons (Rd.arg hx) (.cons (Rd.arg hy) (.cons (Rd.arg hz) .nil))) (aW.wf fun hw=>h x y z hw.one hw.two hw.three ho)⟩
  ·cases hA
 ·cases hA
end
end Go.AL
end
noncomputable section
namespace Go.AL
theorem bD {α:Type} (l:List α) (k:Nat) (d:α) (h:k < l.length):l.drop k=l.getD k d ::l.drop (k+1):=by
 rw [List.drop_eq_getElem_cons h]
 simp [List.getD_eq_getElem?_getD,h]
theorem cR {α:Type} (l:List α) (k:Nat) (d:α) (h:k < l.length):l.getD k d∈l:=by
 simp [List.getD_eq_getElem?_getD,h]
theorem ko {α:Type} (l:List α) (k:Nat) (d:α) (h:k < l.length):l.take (k+1)=l.take k++[l.getD k d]:=by
 rw [List.take_succ_eq_append_getElem h]
 simp [List.getD_eq_getElem?_getD,h]
theorem gD {n:Int} (h1:-9223372036854775808<=n) (h2:n<=9223372036854775807):inR .i64 n:=by
 constructor <;> simp [IntKind.min,IntKind.max,IntKind.signed,IntKind.bits] <;> omega
theorem bX {n m:Nat} (h1:n < m) (h2:m<=9223372036854775807):inR .i64 ((n:Int)+1):=gD (by omega) (by omega)
theorem im {p:Prop} [Decidable p]:(decide p=true)=p:=by simp
theorem ag {c p q:Prop} [Decidable c] (h1:c→p) (h2:¬c→q):if c then p else q:=by
 by_cases h:c
 ·rw [if_pos h];exact h1 h
 ·rw [if_neg h];exact h2 h
abbrev fZ (α:Type):List α:=[]
theorem wu [Tabs] {P:Program} {C:Cfg} (hm:P.follows .mixedOrders=true) (hT:aE P C.tbl) (hS:ba P C.spec) {ann:An} {f:Nat} {fn:Func} (hf:P.funcs[f]?=some fn)
  {args:List AV} {S:List (Nat × SObj)} {A:Ans} {Q:Prop} (q:Q) (h:fwp C ann fn args S A=Q):aW P f args S A:=uW hm hT hS hf (h.mpr q)
end Go.AL
end
noncomputable section
namespace Go.AL
variable [Tabs]
open Go.ChangeShapes Go.WideShapes Go.RowKit
def tT (w:World) (b o:Nat):Prop:=∃v,w.cell? ⟨b,o,none⟩=some v
def Om0 (w:World):Om:=⟨fun _=>none,w,tT w⟩
theorem uY {P:Program} {f:Nat} {args:List AV} (h:aW P f args [] (.ret (.bool true))) {w:World} {vs:List Value} (htab:∀b o v,Tabs.tab b o v→w.cell? ⟨b,o,none⟩=some v) (hobj:∀b x,Tabs.obj b x→w.heap[b]?=some x) (hv:VL (Om0 w) args vs) :
  Calls P f vs.toArray w fun e w'=>e=.returned (.bool true)/\RowKit.Below w.heap.size w w':=by
 refine Calls.mono (h w (tT w) (fun _=>none) vs (fun _ _ h=>h) ⟨fun b o v ht=>⟨⟨v,htab b o v ht⟩,htab b o v ht⟩,fun b x hx=>⟨hobj b x hx,fun o ⟨_,_,hc,_⟩=>by cases hc⟩⟩ hv (fun id o ho=>by simp [ay,aw] at ho) (fun _ _=>rfl) (fun i j c d b o hc=>by cases hc)) ?_
 intro e w' hq
 obtain ⟨pub',e',hq⟩:=hq
 cases e with
 | returned v=>
  obtain ⟨_,hv,ha⟩:=hq
  have:=hv.bool_inv
  subst this
  exact ⟨rfl,ha.os,ha.tape,ha.output,ha.size,fun b hb=>ha.block b hb fun o ⟨id,c,hc,_⟩=>by cases hc⟩
 | panicked ch=>
  obtain ⟨pv,u,v,hp,_⟩:=hq
  cases hp
 | outgrown=>exact hq.elim
section
variable {H:Type} {enc:TypeId × Value→H} {P:Program}
theorem iR (hl:laidOutB P=true) {W W':World} (hb:Below W.heap.size W W') {sp:Nat→Bool}:∀{ts:List TypeId} {vs:List Value} {ds:List (DataW H)} {p:List MemPlace},
  (∀t∈ts,P.readableRec t=true/\t < P.types.size)→DataW.TrodAll enc P W 0 (fun _=>true) true ts vs ds p→(∀x∈p,x.block < W.heap.size)→(∀x∈p,sp x.block=true)→DataW.TrodAll enc P W' 0 sp true ts vs ds p
 | [],_,_,_,_,h,_,_=>by
  obtain ⟨rfl,rfl,rfl⟩:=trodAll_nil h
  exact h
 | t ::ts,_,_,_,hr,h,hlt,hsp=>by
  obtain ⟨v,vs,d,ds,p,q,rfl,rfl,rfl,h1,h2⟩:=trodAll_cons h
  obtain ⟨r1,r2⟩:=hr t (by simp)
  exact ⟨p,q,WideElems.Trod_stays hl r1 r2 h1 (fun x hx=>hb.same (hlt x (by simp [hx]))) (fun x hx=>hsp x (by simp [hx])),
   iR hl hb (fun t ht=>hr t (by simp [ht])) h2 (fun x hx=>hlt x (by simp [hx])) (fun x hx=>hsp x (by simp [hx])),rfl⟩
theorem wv (hl:laidOutB P=true) {f:Func} {s:ChangeSpec} {apart fresh handsOn again:Bool} {W W':World} {args:Array Value} {ds gs:List (DataW H)} {before:List MemPlace} {tb:TypeId}
  (hr:∀t∈f.params.toList,P.readableRec t=true/\t < P.types.size) (hvars:s.vars=[]) (hfn:∀ds:List (DataW H),ds.length=f.params.size→s.fn H ds={results:=[.lit (.bool true)],args:=ds}) (hrt:f.resultTypes=#[tb]) (htb:P.underlying tb=some .bool)
  (hW:DataW.Whole enc P f.params.toList s.vars apart W args.toList ds gs before) (hb:Below W.heap.size W W'):s.post enc P f apart fresh handsOn again W args (.bool true) W':=by
 have hlt:∀p∈before,p.block < W.heap.size:=fun p hp=>hW.lt p hp
 have hW0:=hW
 obtain ⟨p,q,hA,hV,e,hz,hn⟩:=hW
 rw [hvars] at hV
 obtain ⟨rfl,rfl⟩:=trodVars_none hV
 rw [List.append_nil] at e
 subst e
 have hlen:ds.length=f.params.size:=by
  have:∀{ts:List TypeId} {vs:List Value} {ds:List (DataW H)} {p:List MemPlace},DataW.TrodAll enc P W 0 (fun _=>true) true ts vs ds p→ds.length=ts.length:=by
   intro ts
   induction ts with
   | nil=>intro vs ds p h;obtain ⟨rfl,rfl,rfl⟩:=trodAll_nil h;rfl
   | cons t ts ih=>intro vs ds p h;obtain ⟨v,vs,d,ds,p,q,rfl,rfl,rfl,h1,h2⟩:=trodAll_cons h;simp [ih h2]
  simpa using this hA
 have hf:=hfn ds hlen
 have hs:∀sp:Nat→Bool,(∀x∈before,sp x.block=true)→DataW.TrodAll enc P W' 0 sp true f.params.toList args.toList ds before:=fun sp hsp=>iR hl hb hr hA hlt hsp
 have hres:∀(b:Nat) (sp:Nat→Bool) (hd:Bool),DataW.TrodAll enc P W' b sp hd f.resultTypes.toList ((Value.bool true).resultList f.resultTypes.size) [.lit (.bool true)] []:=by
  intro b sp hd
  rw [hrt]
  exact trodAll_cons_mk (shut_bool htb true) trodAll_mk0
 have hvs:DataW.TrodVars enc P W' (fun b=>decide (b < W.heap.size)) s.vars [] []:=by rw [hvars];rfl
 refine ⟨ds,[],before,[],before,[],hW0,?_,?_,?_,World.keptBut_mono (fun x hx=>⟨hx,.inr (.inl hx)⟩) (hb.frame (·∈before)),fun _=>⟨?_,?_⟩⟩
 ·rw [List.append_nil,hf];exact hres _ _ _
 ·rw [List.append_nil,hf];exact hs _ fun x hx=>by simpa using hlt x hx
 ·rw [List.append_nil,hf];exact hvs
 ·intro j t r h1 h2
  rw [hrt] at h1 h2
  cases j with
  | zero=>
   simp at h1
   subst h1
   have:r=.bool true:=by
    simp [Value.resultList] at h2
    exact h2.symm
   subst this
   simp [Value.okWide,htb,Cell.okWide,Cell.ok]
  | succ j=>simp at h1
 ·refine ⟨[.lit (.bool true)]++ds,[],[]++before,⟨[]++before,[],trodAll_append (hs _ fun _ _=>rfl) (hres _ _ _),by rw [hvars];rfl,by simp,fun b off hp=>?_,fun ha=>by simpa using hn ha⟩,fun x hx _=>by simpa using hx⟩
  have hin:MemPlace.cell b off∈before:=by simpa using hp
  rw [hb.frozen (p:=⟨b,off,none⟩) (hlt _ hin)]
  exact hz b off hin
variable {w:World} {base:Nat} {sp:Nat→Bool} {held:Bool}
theorem yu {t:TypeId} {k:IntKind} {fuel:Nat} {cs:List Value} {x:DataW H × List MemPlace} (ht:P.underlying t=some (.int k)) (h:DataW.trod enc P w base sp held fuel t cs=some x) :
  ∃n:Int,cs=[.int k n]/\V (Om0 w) (.int k n) (.int k n):=by
 obtain ⟨n,rfl,_,hw⟩:=DataW.trod_int ht h
 simp only [Lit.wf,Bool.and_eq_true,decide_eq_true_eq] at hw
 exact ⟨n,rfl,.int k n hw.1 hw.2⟩
theorem nj {t:TypeId} {fuel:Nat} {cs:List Value} {x:DataW H × List MemPlace} (ht:P.underlying t=some .string) (h:DataW.trod enc P w base sp held fuel t cs=some x) :
  ∃(s:Str) (v:Value),cs=[v]/\V (Om0 w) (.str s) v:=by
 obtain ⟨s,rfl,_,hw⟩:=DataW.trod_string ht h
 refine ⟨s.data.toList,_,rfl,?_⟩
 have e:s=⟨s.data.toList.toArray⟩:=by cases s;simp
 have hl:s.data.toList.length<=aM:=by
  have:s.data.size=s.size:=rfl
  unfold maxLen at hw
  unfold aM
  simp only [Array.length_toList,this]
  omega
 have:=V.str (Ω:=Om0 w) s.data.toList hl
 rw [←e] at this
 exact this
theorem zn {t e:TypeId} {τ:Ty} {fuel:Nat} {cs:List Value} {x:DataW H × List MemPlace} (ht:P.underlying t=some (.slice e)) (hc:P.cellsOf e=a7 τ) (h:DataW.trod enc P w base sp held fuel t cs=some x)
  (hel:∀(n:Nat) (ds:List Value) (y:DataW H × List MemPlace),fuel=n+1→DataW.trod enc P w base sp held n e ds=some y→∃z:den τ,VL (Om0 w) (cells τ z) ds)
  (hsp:∀a len cap,cs=[.slice (some a) len cap]→a.spot=none):∃(l:List (den τ)) (v:Value),cs=[v]/\V (Om0 w) (.lst τ l none) v:=by
 rcases DataW.trod_slice ht h with ⟨rfl,_⟩ | ⟨a,len,cap,elems,rest,n,hfu,rfl,_,_,hlc,hcm,hlen,hels,_,_⟩
 ·exact ⟨[],_,rfl,.lstNil τ none (fun id hid=>by cases hid)⟩
 ·have hs:=hsp a len cap rfl
  obtain ⟨b,off,spot⟩:=a
  simp only at hs
  subst hs
  have each:∀i,i < len→∃z:den τ,∃ds:List Value,ds.length=a7 τ/\(∀j,j < a7 τ→w.cell? ⟨b,off+(i *a7 τ+j),none⟩=ds[j]?)/\VL (Om0 w) (cells τ z) ds:=by
   intro i hi
   have h1:=hels i hi
   obtain ⟨y,hy⟩:∃y,elems[i]?=some y:=⟨_,List.getElem?_eq_getElem (by omega)⟩
   rw [hy,hc,Option.bind_eq_some_iff] at h1
   obtain ⟨ds,hd,hy'⟩:=h1
   obtain ⟨_,hdl,hdc⟩:=World.cells?_some hd
   obtain ⟨z,hz⟩:=hel n ds y hfu hy'
   refine ⟨z,ds,hdl,fun j hj=>?_,hz⟩
   have:=hdc j hj
   have ha:∀(o n:Nat),(⟨b,o,none⟩:Addr).add n=⟨b,o+n,none⟩:=by
    intro o n
    unfold Addr.add
    by_cases h0:n=0
    ·subst h0;rfl
    ·rw [if_neg h0]
   rw [ha,ha,Nat.add_assoc] at this
   exact this
  have hz:∃l:List (den τ),l.length=len/\∀i z,l[i]?=some z→∃ds:List Value,ds.length=a7 τ/\(∀j,j < a7 τ→w.cell? ⟨b,off+(i *a7 τ+j),none⟩=ds[j]?)/\VL (Om0 w) (cells τ z) ds:=by
   refine ⟨(List.range len).attach.map fun i=>(each i.1 (List.mem_range.1 i.2)).choose,by simp,fun i z hi=>?_⟩
   have hil:i < len:=by
    have:=(List.getElem?_eq_some_iff.1 hi).1
    simpa using this
   simp only [List.getElem?_map,Option.map_eq_some_iff] at hi
   obtain ⟨⟨k,hk⟩,h1,h2⟩:=hi
   have hki:k=i:=by
    have:=List.getElem?_eq_some_iff.1 h1
    obtain ⟨_,e⟩:=this
    have:=congrArg Subtype.val e
    simpa using this.symm
   subst hki
   rw [←h2]
   exact (each k (List.mem_range.1 hk)).choose_spec
  obtain ⟨l,hll,hle⟩:=hz
  refine ⟨l,_,rfl,?_⟩
  have key:=V.lst (Ω:=Om0 w) τ l none b off cap (fun i j=>(w.cell? ⟨b,off+(i *a7 τ+j),none⟩).getD undef) (by omega) (by unfold maxLen at hcm;unfold aM;omega) (fun id hid=>by cases hid) (fun i z hz j c hj=>?_) (fun i z hz j c hj=>?_)
  ·rw [hll] at key
   exact key
  ·obtain ⟨ds,d1,d2,d3⟩:=hle i z hz
   have hjw:j < a7 τ:=by
    rw [←az τ z]
    exact (List.getElem?_eq_some_iff.1 hj).1
   have hv:w.cell? ⟨b,off+(i *a7 τ+j),none⟩=some ds[j]:=by rw [d2 j hjw];exact List.getElem?_eq_getElem (by omega)
   refine ⟨⟨_,hv⟩,?_⟩
   show w.cell? _=_
   rw [hv];rfl
  ·obtain ⟨ds,d1,d2,d3⟩:=hle i z hz
   have hjw:j < a7 τ:=by
    rw [←az τ z]
    exact (List.getElem?_eq_some_iff.1 hj).1
   have hd:ds[j]?=some ds[j]:=List.getElem?_eq_getElem (by omega)
   rw [d2 j hjw,hd]
   exact d3.2 j c ds[j] hj hd
theorem wx {r:Reach} {b0:Nat} {t e:TypeId} {v:Value} (ht:P.underlying t=some (.slice e)) (hv:Value.okWide P w r b0 t v):∀a len cap,v.cells.toList=[.slice (some a) len cap]→a.spot=none:=by
 intro a len cap hc
 have:Cell.okWide P w r b0 t v:=by
  unfold Value.okWide at hv
  rw [ht] at hv
  exact hv
 unfold Cell.okWide at this
 rw [ht] at this
 have hok:Cell.ok P w r b0 t v:=by
  cases v <;> exact this
 unfold Cell.ok at hok
 rw [ht] at hok
 cases v with
 | slice o l c=>
  simp [Value.cells] at hc
  obtain ⟨rfl,rfl,rfl⟩:=hc
  simp only at hok
  exact hok.2.2.2.1
 | _=>first | exact hok.elim | (simp [Value.cells] at hc)
theorem xN {r:Reach} {b0:Nat} {t e:TypeId} {v:Value} (ht:P.underlying t=some (.slice e)) (hv:Value.okWide P w r b0 t v):v.cells.toList=[v]:=by
 have:Cell.okWide P w r b0 t v:=by
  unfold Value.okWide at hv
  rw [ht] at hv
  exact hv
 unfold Cell.okWide at this
 rw [ht] at this
 have hok:Cell.ok P w r b0 t v:=by
  cases v <;> exact this
 unfold Cell.ok at hok
 rw [ht] at hok
 cases v with
 | slice o l c=>rfl
 | _=>exact hok.elim
end
end Go.AL
end
noncomputable section
namespace Go.AL
variable [Tabs]
open Go.ChangeShapes Go.WideShapes Go.RowKit
variable {H:Type} {enc:TypeId × Value→H} {P:Program} {w:World} {base:Nat} {held:Bool}
theorem xO {sp:Nat→Bool} {t:TypeId} {fs:Array Field} {fuel:Nat} {cs:List Value} {x:DataW H × List MemPlace} (ht:P.underlying t=some (.struct fs)) (h:DataW.trod enc P w base sp held fuel t cs=some x) :
  ∃n,fuel=n+1/\cs.length=P.cellsOf t/\∀(i:Nat) (f:Field),fs[i]?=some f→∃y,DataW.trod enc P w base sp held n f.type ((cs.drop f.offset).take (P.cellsOf f.type))=some y:=by
 obtain ⟨xs,n,hn,_,hl,hx,hf⟩:=DataW.trod_struct ht h
 refine ⟨n,hn,hl,fun i f hif=>?_⟩
 have hi:i < xs.length:=by
  rw [hx]
  rcases Nat.lt_or_ge i fs.size with k | k
  ·exact k
  ·rw [Array.getElem?_eq_none k] at hif;cases hif
 exact ⟨xs[i],by rw [hf i f hif];exact List.getElem?_eq_getElem hi⟩
structure ShapeAt (P:Program) (t:TypeId):Prop where
 ex:∃(f0 f1 f2 f3 f4:Field) (e:TypeId),P.underlying t=some (.struct #[f0,f1,f2,f3,f4])/\P.cellsOf t=5/\
  (f0.offset=0/\f1.offset=1/\f2.offset=2/\f3.offset=3/\f4.offset=4)/\
  (P.cellsOf f0.type=1/\P.cellsOf f1.type=1/\P.cellsOf f2.type=1/\P.cellsOf f3.type=1/\P.cellsOf f4.type=1)/\
  P.underlying f0.type=some (.int .i64)/\P.underlying f1.type=some .string/\P.underlying f2.type=some .string/\P.underlying f3.type=some (.slice e)/\P.underlying e=some .string/\P.cellsOf e=1/\P.underlying f4.type=some (.slice t)
structure ItemAt (P:Program) (t:TypeId):Prop where
 ex:∃(f0 f1 f2:Field),P.underlying t=some (.struct #[f0,f1,f2])/\P.cellsOf t=7/\(f0.offset=0/\f1.offset=1/\f2.offset=2)/\
  (P.cellsOf f0.type=1/\P.cellsOf f1.type=1/\P.cellsOf f2.type=5)/\P.underlying f0.type=some (.int .i64)/\P.underlying f1.type=some .string/\ShapeAt P f2.type
end Go.AL
end
noncomputable section
namespace Go.AL
open Go.ChangeShapes Go.WideShapes Go.RowKit
abbrev nk (w:World):Tabs:=⟨fun b o v=>b < 4/\w.cell? ⟨b,o,none⟩=some v,fun b x=>b < 4/\w.heap[b]?=some x⟩
variable [Tabs]
variable {H:Type} {enc:TypeId × Value→H} {P:Program} {w:World} {base:Nat} {held:Bool}
structure TokAt (P:Program) (t:TypeId):Prop where
 ex:∃(f0 f1 f2:Field),P.underlying t=some (.struct #[f0,f1,f2])/\P.cellsOf t=3/\(f0.offset=0/\f1.offset=1/\f2.offset=2)/\
  (P.cellsOf f0.type=1/\P.cellsOf f1.type=1/\P.cellsOf f2.type=1)/\P.underlying f0.type=some (.int .i64)/\P.underlying f1.type=some .string/\P.underlying f2.type=some (.int .i64)
end Go.AL
end
noncomputable section
namespace Go.AL
open Go.ChangeShapes Go.WideShapes Go.RowKit
variable [Tabs]
variable {H:Type} {enc:TypeId × Value→H} {P:Program} {w:World} {base:Nat} {held:Bool}
structure BindAt (P:Program) (t:TypeId):Prop where
 ex:∃(f0 f1 f2:Field),P.underlying t=some (.struct #[f0,f1,f2])/\P.cellsOf t=7/\(f0.offset=0/\f1.offset=1/\f2.offset=2)/\
  (P.cellsOf f0.type=1/\P.cellsOf f1.type=1/\P.cellsOf f2.type=5)/\P.underlying f0.type=some .string/\P.underlying f1.type=some .string/\ShapeAt P f2.type
structure EnvAt (P:Program) (t:TypeId):Prop where
 ex:∃(f0 f1 f2 f3:Field) (e:TypeId),P.underlying t=some (.struct #[f0,f1,f2,f3])/\P.cellsOf t=4/\(f0.offset=0/\f1.offset=1/\f2.offset=2/\f3.offset=3)/\
  (P.cellsOf f0.type=1/\P.cellsOf f1.type=1/\P.cellsOf f2.type=1/\P.cellsOf f3.type=1)/\P.underlying f0.type=some .string/\
  (P.underlying f1.type=some (.slice e)/\P.underlying f2.type=some (.slice e)/\P.underlying f3.type=some (.slice e))/\BindAt P e
end Go.AL
end
noncomputable section
namespace Go.AL
variable [Tabs]
theorem aP.blk {Ω:Om} {own:Nat→Nat→Prop} {id:Nat} {ob:SObj} (hs:aP Ω own id ob) {c:CObj} (hc:Ω.e id=some c) {b o:Nat} (hb:occ c b o):b < Ω.w.heap.size:=by
 cases ob with
 | box x=>
  obtain ⟨b',off,he,hh⟩:=hs
  rw [he] at hc
  simp only [Xs] at hc
  subst hc
  obtain ⟨rfl,h1,h2⟩:=hb
  have hj:o - off < (a8 x).length:=by omega
  obtain ⟨_,_,_,v,hv,_⟩:=hh (o - off) _ (List.getElem?_eq_getElem hj)
  exact aC hv
 | tail τ n=>
  obtain ⟨base,cap,he,_,_,_,hb'⟩:=hs
  rw [he] at hc
  simp only [Xs] at hc
  subst hc
  obtain ⟨_,vs,ty,fz,hh,_⟩:=hb' b hb
  exact b6 hh
 | grow τ n xs=>
  obtain ⟨base,cap,he,_,_,_,hb'⟩:=hs
  rw [he] at hc
  simp only [Xs] at hc
  subst hc
  obtain ⟨_,⟨vs,ty,fz,hh,_⟩,_⟩:=hb' b hb
  exact b6 hh
 | map κ τ m=>
  obtain ⟨r,he,_,es,clock,hh,_⟩:=hs
  rw [he] at hc
  simp only [Xs] at hc
  subst hc
  have:b=r:=hb
  subst this
  exact b6 hh
 | bld t u l=>
  obtain ⟨b0,g,he,_,hh⟩:=hs
  rw [he] at hc
  simp only [Xs] at hc
  subst hc
  exact hh.lt hb
 | tailp τ n x=>
  obtain ⟨b0,cap,he,_,_,_,⟨vs,ty,fz,hh,_⟩,_⟩:=hs
  rw [he] at hc
  simp only [Xs] at hc
  subst hc
  have:b0=b:=by simpa [occ] using hb
  subst this
  exact b6 hh
def pK (e:Nat→Option CObj) (k b o:Nat):Prop:=∃c,e k=some c/\occ c b o
theorem After.slot {w w':World} {pub:Nat→Nat→Prop} {e:Nat→Option CObj} {S:List (Nat × SObj)}
  (hp:gZ w pub) (hs:∀id o,ah S id=some o→aP ⟨e,w,pub⟩ (fun _ _=>True) id o) (hd:∀id,ah S id=none→e id=none) (hi:Inj e)
  {k:Nat} {obj:SObj} {c:CObj} {Q:Nat→Nat→Prop}
  (os:w'.os=w.os) (tape:w'.tape=w.tape) (output:w'.output=w.output) (size:w.heap.size<=w'.heap.size)
  (block:∀b,b < w.heap.size→(∀o,¬pK e k b o)→w'.heap[b]?=w.heap[b]?)
  (cell:∀b o,b < w.heap.size→¬pK e k b o→w'.cell? ⟨b,o,none⟩=w.cell? ⟨b,o,none⟩)
  (kind:∀b,b < w.heap.size→¬(∀o,pK e k b o)→w'.shape? b=w.shape? b/\∀o,w'.frozen? ⟨b,o,none⟩=w.frozen? ⟨b,o,none⟩)
  (hpub:∀b o,pub b o→w'.cell? ⟨b,o,none⟩=w.cell? ⟨b,o,none⟩)
  (hQ:∀b o,Q b o→w.heap.size<=b/\∃v,w'.cell? ⟨b,o,none⟩=some v)
  (hle:∀c0,e k=some c0→CLe c0 c) (hnew:∀b o,occ c b o→w.heap.size<=b∨pK e k b o)
  (hobj:Ext ⟨e,w,pub⟩ ⟨fun i=>if k=i then some c else e i,w',fun b o=>pub b o∨Q b o⟩→
   aP ⟨fun i=>if k=i then some c else e i,w',fun b o=>pub b o∨Q b o⟩ (fun b o=>w.heap.size<=b∨iL e b o) k obj) :
  After w pub e (ah (bz S [(k,obj)])) w' (fun b o=>pub b o∨Q b o) (fun i=>if k=i then some c else e i):=by
 have blk:∀{id c b o},e id=some c→occ c b o→b < w.heap.size:=by
  intro id c b o hc ho
  cases hg:ah S id with
  | none=>rw [hd id hg] at hc;cases hc
  | some ob=>exact (hs id ob hg).blk (Ω:=⟨e,w,pub⟩) hc ho
 have hx:Ext ⟨e,w,pub⟩ ⟨fun i=>if k=i then some c else e i,w',fun b o=>pub b o∨Q b o⟩:=by
  refine ⟨fun id c' hc'=>?_,fun b o h=>Or.inl h,fun b o h=>hpub b o h⟩
  by_cases hid:k=id
  ·subst hid;exact ⟨c,by simp,hle c' hc'⟩
  ·exact ⟨c',by simp only [if_neg hid];exact hc',CLe.refl _⟩
 have toL:∀{b o},pK e k b o→iL e b o:=fun ⟨c,h1,h2⟩=>⟨k,c,h1,h2⟩
 have stay:∀{id c' b o},k≠id→e id=some c'→occ c' b o→¬pK e k b o:=by
  rintro id c' b o hid hc ho ⟨c0,h1,h2⟩
  exact hid (hi k id c0 c' b o h1 hc h2 ho)
 refine ⟨os,tape,output,size,fun b hb h=>block b hb fun o ho=>h o (toL ho),fun b o hb h=>cell b o hb fun ho=>h (toL ho),
  fun b hb h=>kind b hb fun ho=>h fun o=>toL (ho o),hx,fun b o h=>?_,fun b o h=>?_,fun id o h=>?_,fun id h=>?_,?_⟩
 ·rcases h with h | h
  ·exact Or.inl h
  ·exact Or.inr (Or.inl (hQ b o h).1)
 ·rcases h with h | h
  ·obtain ⟨v,hv⟩:=hp b o h;exact ⟨v,(hpub b o h).trans hv⟩
  ·exact (hQ b o h).2
 ·rw [fW,eC] at h
  by_cases hid:k=id
  ·subst hid
   simp only [if_true] at h
   cases h
   exact hobj hx
  ·simp only [if_neg hid] at h
   have h0:=hs id o h
   refine aP.own_of (aP.keep h0 hx (by simp only [if_neg hid]) fun c' hc'=>?_) (fun c' b o hc ho=>?_)
   ·have hc':e id=some c':=hc'
    cases c' with
    | box b off len=>
     intro oo h1 h2
     have ho:occ (.box b off len) b oo:=⟨rfl,h1,h2⟩
     refine ⟨cell b oo (blk hc' ho) (stay hid hc' ho),(kind b (blk hc' ho) fun hall=>stay hid hc' ho (hall oo)).2 oo,fun hp'=>?_⟩
     rcases hp' with hp' | hp'
     ·exact hp'
     ·have:=(hQ _ _ hp').1;have:=blk hc' ho;omega
    | tail n base cap=>
     intro b hb
     have ho:∀oo,occ (.tail n base cap) b oo:=fun _=>hb
     refine ⟨block b (blk hc' (ho 0)) fun oo=>stay hid hc' (ho oo),fun oo hp'=>?_⟩
     rcases hp' with hp' | hp'
     ·exact hp'
     ·have:=(hQ _ _ hp').1;have:=blk hc' (ho 0);omega
    | obj r=>
     have ho:∀oo,occ (.obj r) r oo:=fun _=>rfl
     exact block r (blk hc' (ho 0)) fun oo=>stay hid hc' (ho oo)
    | bld b g=>
     intro b' hb'
     have ho:∀oo,occ (.bld b g) b' oo:=fun _=>hb'
     refine ⟨block b' (blk hc' (ho 0)) fun oo=>stay hid hc' (ho oo),fun oo hp'=>?_⟩
     rcases hp' with hp' | hp'
     ·exact hp'
     ·have:=(hQ _ _ hp').1;have:=blk hc' (ho 0);omega
   ·simp only [if_neg hid] at hc
    exact Or.inr ⟨id,c',hc,ho⟩
 ·rw [fW,eC] at h
  by_cases hid:k=id
  ·simp [hid] at h
  ·simp only [if_neg hid] at h ⊢
   exact hd id h
 ·intro i j ci cj b o hci hcj hoi hoj
  simp only at hci hcj
  by_cases h1:k=i <;> by_cases h2:k=j
  ·omega
  ·simp only [if_pos h1,if_neg h2,Xs] at hci hcj
   subst hci
   rcases hnew b o hoi with h | h
   ·have:=blk hcj hoj;omega
   ·exact absurd h (stay h2 hcj hoj)
  ·simp only [if_neg h1,if_pos h2,Xs] at hci hcj
   subst hcj
   rcases hnew b o hoj with h | h
   ·have:=blk hci hoi;omega
   ·exact absurd h (stay h1 hci hoi)
  ·simp only [if_neg h1,if_neg h2] at hci hcj
   exact hi i j ci cj b o hci hcj hoi hoj
theorem After.fresh1 {w w':World} {pub:Nat→Nat→Prop} {e:Nat→Option CObj} {S:List (Nat × SObj)}
  (hp:gZ w pub) (hs:∀id o,ah S id=some o→aP ⟨e,w,pub⟩ (fun _ _=>True) id o) (hd:∀id,ah S id=none→e id=none) (hi:Inj e)
  {k:Nat} {obj:SObj} {c:CObj} (hb:RowKit.Below w.heap.size w w') (hk:ah S k=none) (hnew:∀b o,occ c b o→w.heap.size<=b)
  (hobj:aP ⟨fun i=>if k=i then some c else e i,w',fun b o=>pub b o∨False⟩ (fun b o=>w.heap.size<=b∨iL e b o) k obj) :
  After w pub e (ah (bz S [(k,obj)])) w' (fun b o=>pub b o∨False) (fun i=>if k=i then some c else e i):=
 After.slot hp hs hd hi (Q:=fun _ _=>False) hb.os hb.tape hb.output hb.size (fun b h _=>hb.block b h) (fun b o h _=>ab (hb.block b h) o)
  (fun b h _=>⟨aH (hb.block b h),fun o=>ax (hb.block b h) o⟩)
  (fun b o h=>by obtain ⟨v,hv⟩:=hp b o h;exact ab (hb.block b (aC hv)) o)
  (fun _ _ h=>h.elim) (fun c0 h=>by rw [hd k hk] at h;cases h) (fun b o h=>Or.inl (hnew b o h)) (fun _=>hobj)
theorem VL.one_inv {Ω:Om} {a:AV} {vs:List Value} (h:VL Ω [a] vs):∃v,vs=[v]/\V Ω a v:=by
 obtain ⟨hl,h⟩:=h
 match vs,hl,h with
 | [v],_,h=>exact ⟨v,rfl,h 0 a v rfl rfl⟩
theorem VL.two_inv {Ω:Om} {a b:AV} {vs:List Value} (h:VL Ω [a,b] vs):∃v u,vs=[v,u]/\V Ω a v/\V Ω b u:=by
 obtain ⟨hl,h⟩:=h
 match vs,hl,h with
 | [v,u],_,h=>exact ⟨v,u,rfl,h 0 a v rfl rfl,h 1 b u rfl rfl⟩
end Go.AL
end
noncomputable section
namespace Go.AL
variable [Tabs]
open Go.Proofs Go.Shelf Go.RowKit
variable {P:Program} {ρ:Ren}
structure But (w w':World) (b:Nat) (g:Option Nat):Prop where
 os:w'.os=w.os
 tape:w'.tape=w.tape
 output:w'.output=w.output
 size:w.heap.size<=w'.heap.size
 block:∀k,k < w.heap.size→k≠b→g≠some k→w'.heap[k]?=w.heap[k]?
structure WL (P:Program) (ρ:Ren):Prop where
 mixed:P.follows .mixedOrders=true
 f166:P.funcs[ρ.f 166]?=some (Body.n166 ρ)
 t3:P.underlying (ρ.t 3)=some (TypeDesc.int IntKind.i64)
 a3:∀w,(isAgg (ρ.t 3)).run P w=.ok false w
 z3:∀w,(Go.sizeOf (ρ.t 3)).run P w=.ok 1 w
 v3:∀w,(zeroValue (ρ.t 3)).run P w=.ok (Value.int IntKind.i64 0) w
 t9:P.underlying (ρ.t 9)=some (TypeDesc.string)
 a9:∀w,(isAgg (ρ.t 9)).run P w=.ok false w
 z9:∀w,(Go.sizeOf (ρ.t 9)).run P w=.ok 1 w
 v9:∀w,(zeroValue (ρ.t 9)).run P w=.ok (Value.string {data:=#[]}) w
 t37:P.underlying (ρ.t 37)=some (TypeDesc.slice (ρ.t 5))
 a37:∀w,(isAgg (ρ.t 37)).run P w=.ok false w
 z37:∀w,(Go.sizeOf (ρ.t 37)).run P w=.ok 1 w
 v37:∀w,(zeroValue (ρ.t 37)).run P w=.ok (Value.slice none 0 0) w
 t70:P.underlying (ρ.t 70)=some (TypeDesc.pointer (ρ.t 72))
 a70:∀w,(isAgg (ρ.t 70)).run P w=.ok false w
 z70:∀w,(Go.sizeOf (ρ.t 70)).run P w=.ok 1 w
 v70:∀w,(zeroValue (ρ.t 70)).run P w=.ok (Value.pointer none) w
 t72:P.underlying (ρ.t 72)=some (TypeDesc.struct #[{name:= "addr",type:=ρ.t 70,offset:=0,embedded:=false,tag:= "",pkgPath:= "strings",byteOffset:=0},{name:= "buf",type:=ρ.t 37,offset:=1,embedded:=false,tag:= "",pkgPath:= "strings",byteOffset:=8}])
 a72:∀w,(isAgg (ρ.t 72)).run P w=.ok true w
 z72:∀w,(Go.sizeOf (ρ.t 72)).run P w=.ok 2 w
 v72:∀w,(zeroValue (ρ.t 72)).run P w=.ok (Value.agg #[Value.pointer none,Value.slice none 0 0]) w
end Go.AL
end
noncomputable section
namespace Go.AL
variable [Tabs]
open Go.Proofs Go.RowKit Go.Maps Go.Sort Go.Shelf
variable {P:Program} {ρ:Ren}
def cH {α:Type} (F:Fence) (n:Nat) (P:Program) (g:Nat) (lb:Array Value) (enc:α→Value) (S:List α→Prop) (N:Nat) (w:World):Prop:=
 ∀(l:Nat) (J:List α→World→Prop) (W:World),Below w.heap.size w W→AbidesFrom W.heap.size J→(∀pre W1,J pre W1→Below w.heap.size w W1)→
  (∀pre x W1,J pre W1→pre.length < N→YieldAt F (n - 1) P l #[enc x] W1 fun e W'=>e=.returned (.bool true)/\J (pre++[x]) W'/\KeepsWalks W1 W')→
  J [] W→
  CallsIn F n P g (#[.func (.yield l) #[] #[]]++lb) W fun e W'=>(∃v,e=.returned v)/\∃xs,S xs/\J xs W'
theorem cH.bounded {α:Type} {F:Fence} {n:Nat} {g:Nat} {lb:Array Value} {enc:α→Value} {S:List α→Prop} {N:Nat} {w:World}
  (h:cH F n P g lb enc S N w):cH F n P g lb enc (fun xs=>S xs/\xs.length<=N) N w:=fun l J W hW hJ hB hY h0=>by
 refine (h l (fun xs W'=>J xs W'/\xs.length<=N) W hW (fun s A B row hs hg hr=>⟨hJ s A B row hs.1 hg hr,hs.2⟩) (fun pre W1 h=>hB pre W1 h.1)
  (fun pre x W1 hj hl=>(hY pre x W1 hj.1 hl).mono (fun e w' hr=>⟨hr.1,⟨hr.2.1,by simp;omega⟩,hr.2.2⟩)) ⟨h0,Nat.zero_le _⟩).mono ?_
 rintro e W' ⟨hv,xs,hS,hJ',hlen⟩
 exact ⟨hv,xs,⟨hS,hlen⟩,hJ'⟩
set_option maxRecDepth 100000 in
set_option maxHeartbeats 2000000 in
theorem sJ (L:SlLaysZ.n11 P ρ) (F:Fence) (n:Nat) (h11:F.fn (ρ.f 11)) (hro:F.round=none) (hn:2<=n) (g:Nat) (lb:Array Value) (hFg:F.fn g) (eg:∀args w,(callFunc g args).run P w=.ok (.enter g args) w)
  (S:List (List UInt8)→Prop) (N:Nat) (hN:N<=maxLen) (hNb:N *16<=140737488355328) (w:World) (hseq:cH F (n - 1) P g lb encStr S N w) :
  CallsIn F n P (ρ.f 11) #[.slice none 0 0,.func (.func g) #[] lb] w fun e w'=>∃(v:Value) (ss:List (List UInt8)),e=.returned v/\S ss/\w'.ownsRow w.heap.size (ρ.t 26) 1 v ss.length (ss.map encStr)/\(v=.slice none 0 0↔ss=[])/\Below w.heap.size w w':=by
 have h1:1<=n:=by omega
 have mixed:=L.mixed;have t0:=L.t0;have a0:=L.a0;have z0:=L.z0;have v0:=L.v0;have t24:=L.t24;have a24:=L.a24;have z24:=L.z24;have v24:=L.v24;have t26:=L.t26;have a26:=L.a26;have z26:=L.z26;have v26:=L.v26;have t28:=L.t28;have a28:=L.a28;have z28:=L.z28;have v28:=L.v28
 have hne:ρ.t 24≠ρ.t 26:=fun e=>by have h:=L.t24;rw [e,L.t26] at h;cases h
 have u0:=run_underlying L.t0;have u24:=run_underlying L.t24;have u26:=run_underlying L.t26;have u28:=run_underlying L.t28
 obtain ⟨_,_,FG⟩:=L.f11
 refine callsIn_of_wp_marks FG rfl h11 ?_ hro
 simp only [SlBodyZ.n11_ntmps ρ,List.size_toArray,List.length_cons,List.length_nil,Nat.reduceAdd,Nat.reduceSub,Array.replicate_succ,Array.replicate_zero,List.push_toArray,List.append_toArray,List.nil_append,List.cons_append]
 gi_wp2
 refine wpIn_rangeFunc ?_
 intro fn hfn
 rw [hro]
 obtain ⟨W0,hW0⟩:∃W0,w.alloc (.cells #[.slice none 0 0] (ρ.t 24))=W0:=⟨_,rfl⟩
 have hs0:W0.heap.size=w.heap.size+1:=by rw [←hW0];simp
 have hv0:W0.heap[w.heap.size]?=some (.cells #[.slice none 0 0] (ρ.t 24) (0,0)):=by rw [←hW0];exact World.alloc_heap_new w _
 have hb0:Below w.heap.size w W0:=by rw [←hW0];exact (Below.refl _ w).alloc (Nat.le_refl _) _
 rw [hW0]
 obtain ⟨W1,hW1⟩:∃W1,(W0.alloc (.deferred (some []))).alloc (.loop (AnyZ.apRec ρ fn (.func (.func g) #[] lb) w.heap.size W0.heap.size .ready none))=W1:=⟨_,rfl⟩
 have hold:∀k,k < W0.heap.size→W1.heap[k]?=W0.heap[k]?:=fun k hk=>by
  rw [←hW1];exact (Below.heap_alloc _ _ k (by simp;omega)).trans (Below.heap_alloc _ _ k hk)
 have hb1:Below w.heap.size w W1:=by rw [←hW1];exact (hb0.alloc hb0.size _).alloc (by have:=hb0.size;simp;omega) _
 have hs1:W1.heap.size=W0.heap.size+2:=by rw [←hW1];simp
 have hM:AnyZ.ApAt ρ w fn (.func (.func g) #[] lb) w.heap.size (W0.heap.size+1) W0.heap.size [] W1:=
  ⟨⟨_,(hold w.heap.size (by omega)).trans hv0,⟨rfl,.inl ⟨rfl,rfl⟩⟩,by simp⟩,
   by rw [←hW1];have:=World.alloc_heap_new (W0.alloc (.deferred (some []))) (.loop (AnyZ.apRec ρ fn (.func (.func g) #[] lb) w.heap.size W0.heap.size .ready none));rwa [World.size_alloc] at this,
   by rw [←hW1];exact (Below.heap_alloc _ _ _ (by simp)).trans (World.alloc_heap_new W0 _),hb1⟩
 refine ⟨W0.heap.size+1,[{target:=.collected W0.heap.size,args:=#[]}],W1,{target:=.fn (.func g) lb,args:=#[.func (.yield (W0.heap.size+1)) #[] #[]]},W1,g,
  #[.func (.yield (W0.heap.size+1)) #[] #[]]++lb,W1,?_,?_,?_,?_,fun _=>h1,?_⟩
 ·rw [←hW1];exact run_enterLoop_outer _ _ _ _ _
 ·simp [resolve,go_sem]
 ·intro f' hf';simp [Target.leads] at hf';subst hf';exact hFg
 ·simp [invoke,go_sem,eg]
 ·refine (hseq (W0.heap.size+1) (AnyZ.ApAt ρ w fn (.func (.func g) #[] lb) w.heap.size (W0.heap.size+1) W0.heap.size) W1 hb1 (AnyZ.ap_abides ρ _ _ _ _ _ _ _ hb1.size) (fun _ _ h=>h.below)
   (fun pre x W hJ hl=>AnyZ.apYield {L with} F (n - 1 - 1) w fn hfn _ w.heap.size (W0.heap.size+1) W0.heap.size (by omega) (by omega) (by omega) (Nat.le_refl _) (by omega) N hN hNb pre x W hJ hl) hM).mono ?_
  rintro e W2 ⟨⟨v0,rfl⟩,ss,hS,h2⟩
  obtain ⟨v,hv,hrow,hnil⟩:=h2.box
  have hend:=run_endLoop (P:=P) h2.L (by simp [AnyZ.apRec])
  obtain ⟨W3,hW3⟩:∃W3,W2.putObj (W0.heap.size+1) (.loop {AnyZ.apRec ρ fn (.func (.func g) #[] lb) w.heap.size W0.heap.size .ready none with state:=.exhausted})=W3:=⟨_,rfl⟩
  rw [hW3] at hend
  have hg3:W2.grownBy W3 (some (W0.heap.size+1)):=by rw [←hW3];exact grownBy_putObj_a _ _ _
  have hv3:W3.heap[w.heap.size]?=some (.cells #[v] (ρ.t 24) (0,0)):=by rw [←hW3];exact (World.putObj_heap_other (by omega)).trans hv
  have hK3:W3.heap[W0.heap.size]?=some (.deferred (some [])):=by rw [←hW3];exact (World.putObj_heap_other (by omega)).trans h2.K
  have hrow3:=hrow.kept hg3 (ownsRow_ne_a hrow h2.L (fun cur e=>by first | cases e | exact hne (Obj.cells.inj e).2.1))
  have hb3:Below w.heap.size w W3:=h2.below.grown hg3 h2.below.size (fun k e=>by cases e;omega)
  obtain ⟨hc3,hf3⟩:=cell_of_box_a hv3
  clear hW3
  refine ⟨none,W3,hend,?_⟩
  gi_wp2
  rw [←hs0]
  refine ⟨by simp,.inl ⟨_,_,rfl,run_takeDeferred hK3,?_⟩⟩
  exact ⟨_,results_tmp rfl _ _ _,v,ss,rfl,hS,hrow3.kept (grownBy_putObj_a _ _ _) (ownsRow_ne_a hrow3 hK3 (fun cur e=>by first | cases e | exact hne (Obj.cells.inj e).2.1)),hnil,hb3.grown (grownBy_putObj_a _ _ _) hb3.size (fun k e=>by cases e;omega)⟩
set_option maxRecDepth 100000 in
set_option maxHeartbeats 2000000 in
theorem wy (L:SlLaysZ.n8 P ρ) (F:Fence) (n:Nat) (h8:F.fn (ρ.f 8)) (h11:F.fn (ρ.f 11)) (hro:F.round=none) (hn:3<=n) (g:Nat) (lb:Array Value) (hFg:F.fn g) (eg:∀args w,(callFunc g args).run P w=.ok (.enter g args) w)
  (S:List (List UInt8)→Prop) (N:Nat) (hN:N<=maxLen) (hNb:N *16<=140737488355328) (w:World) (hseq:cH F (n - 1 - 1) P g lb encStr S N w) :
  CallsIn F n P (ρ.f 8) #[.func (.func g) #[] lb] w fun e w'=>∃(v:Value) (ss:List (List UInt8)),e=.returned v/\S ss/\w'.ownsRow w.heap.size (ρ.t 26) 1 v ss.length (ss.map encStr)/\(v=.slice none 0 0↔ss=[])/\Below w.heap.size w w':=by
 have h1:1<=n:=by omega
 have e11:∀args w,(callFunc (ρ.f 11) args).run P w=.ok (.enter (ρ.f 11) args) w:=L.f11.enters rfl
 have mixed:=L.mixed;have t0:=L.t0;have a0:=L.a0;have z0:=L.z0;have v0:=L.v0;have t24:=L.t24;have a24:=L.a24;have z24:=L.z24;have v24:=L.v24;have t26:=L.t26;have a26:=L.a26;have z26:=L.z26;have v26:=L.v26;have t28:=L.t28;have a28:=L.a28;have z28:=L.z28;have v28:=L.v28
 have u0:=run_underlying L.t0;have u24:=run_underlying L.t24;have u26:=run_underlying L.t26;have u28:=run_underlying L.t28
 obtain ⟨_,_,FG⟩:=L.f8
 refine callsIn_of_wp FG rfl h8 ?_ hro
 simp only [SlBodyZ.n8_ntmps ρ,List.size_toArray,List.length_cons,List.length_nil,Nat.reduceAdd,Nat.reduceSub,Array.replicate_succ,Array.replicate_zero,List.push_toArray,List.append_toArray,List.nil_append,List.cons_append]
 gi_wp2_with (gi_at_fn (ρ.f 11);refine (sJ {L with} F (n - 1) h11 hro (by omega) g lb hFg eg S N hN hNb _ hseq).mono ?_;rintro e w' ⟨v,ss,rfl,hS,hrow,hnil,hb⟩)
 go_ret
 exact ⟨v,ss,rfl,hS,hrow,hnil,hb⟩
set_option maxRecDepth 100000 in
set_option maxHeartbeats 2000000 in
theorem xP (L:SlLaysZ.n6 P ρ) (F:Fence) (n:Nat) (h6:F.fn (ρ.f 6)) (h8:F.fn (ρ.f 8)) (h9:F.fn (ρ.f 9)) (h11:F.fn (ρ.f 11)) (hro:F.round=none) (hn:4<=n) (hsort:AnyZ.SortsIn P ρ F (n - 1)) (e9:∀args w,(callFunc (ρ.f 9) args).run P w=.ok (.enter (ρ.f 9) args) w) (g:Nat) (lb:Array Value) (hFg:F.fn g) (eg:∀args w,(callFunc g args).run P w=.ok (.enter g args) w)
  (S:List (List UInt8)→Prop) (N:Nat) (hN:N<=maxLen) (hNb:N *16<=140737488355328) (w:World) (hseq:cH F (n - 1 - 1 - 1) P g lb encStr S N w) :
  CallsIn F n P (ρ.f 6) #[.func (.func g) #[] lb] w fun e w'=>∃(v:Value) (ss:List (List UInt8)),e=.returned v/\S ss/\
   w'.ownsRow w.heap.size (ρ.t 26) 1 v ss.length ((ss.mergeSort (fun x y=>decide (x<=y))).map encStr)/\(v=.slice none 0 0↔ss=[])/\Below w.heap.size w w':=by
 have h1:1<=n:=by omega
 have e8:∀args w,(callFunc (ρ.f 8) args).run P w=.ok (.enter (ρ.f 8) args) w:=L.f8.enters rfl
 have mixed:=L.mixed;have t0:=L.t0;have a0:=L.a0;have z0:=L.z0;have v0:=L.v0;have t24:=L.t24;have a24:=L.a24;have z24:=L.z24;have v24:=L.v24;have t26:=L.t26;have a26:=L.a26;have z26:=L.z26;have v26:=L.v26;have t28:=L.t28;have a28:=L.a28;have z28:=L.z28;have v28:=L.v28
 have u0:=run_underlying L.t0;have u24:=run_underlying L.t24;have u26:=run_underlying L.t26;have u28:=run_underlying L.t28
 obtain ⟨_,_,FG⟩:=L.f6
 refine callsIn_of_wp FG rfl h6 ?_ hro
 simp only [SlBodyZ.n6_ntmps ρ,List.size_toArray,List.length_cons,List.length_nil,Nat.reduceAdd,Nat.reduceSub,Array.replicate_succ,Array.replicate_zero,List.push_toArray,List.append_toArray,List.nil_append,List.cons_append]
 gi_wp2_with (gi_at_fn (ρ.f 8);refine (wy {L with} F (n - 1) h8 h11 hro (by omega) g lb hFg eg _ N hN hNb _ (cH.bounded hseq)).mono ?_;rintro e W ⟨v,ss,rfl,⟨hS,hlen⟩,hrow,hnil,hb⟩)
 rcases hrow.2 with ⟨rfl,hz⟩ | ⟨gb,cap,cur,rfl,hbase,hgb,r1,r2,r3,r4⟩
 ·
  have hss:ss=[]:=List.eq_nil_of_length_eq_zero hz
  subst hss
  gi_wp2_with (gi_at_fn (ρ.f 9);refine (hsort.2 none 0 W).mono ?_;rintro e w' ⟨rfl,rfl⟩)
  go_ret
  exact ⟨.slice none 0 0,[],rfl,hS,by simpa using hrow,by simp,hb⟩
 ·have hH:Go.Sort.Holds encStr W gb 0 ss.toArray:=holds_of_block hgb (by simpa using r4)
  have hgl:gb < W.heap.size:=(Array.getElem?_eq_some_iff.1 hgb).1
  have hsz:ss.length < 4611686018427387904:=by omega
  have cS:=hsort.1 gb 0 cap ss W hH hgl hsz
  gi_wp2_with (gi_at_fn (ρ.f 9);refine cS.mono ?_;rintro e w' ⟨rfl,nn,os,rfl⟩)
  go_ret
  exact ⟨_,ss,rfl,hS,ownsRow_sorted (by simp) hbase hgb r1 r2 r3,hnil,hb.grown (grownBy_sorted _) hb.size (fun j hj=>by cases hj;exact hbase)⟩
theorem uZ {f:Nat} {args:List AV} {S:List (Nat × SObj)} {ob:Option Prop} {T:TypeId} {ss:List Str} (hk:ah S 0=none)
  (hC:∀w pub e vs,gZ w pub→VL ⟨e,w,pub⟩ args vs→(∀id o,ah S id=some o→aP ⟨e,w,pub⟩ (fun _ _=>True) id o)→
   (∀s∈ss,s.length<=aM)/\Calls P f vs.toArray w fun en w'=>∃v,en=.returned v/\w'.ownsRow w.heap.size T 1 v ss.length (ss.map encStr)/\Below w.heap.size w w') :
  aW P f args S ⟨ob,none,.arr 0 ss.length 1,[(0,.box (.row .str ss))]⟩:=by
 intro w pub e vs hp ht hv hs hd hi
 obtain ⟨hlen,hC⟩:=hC w pub e vs hp hv hs
 refine hC.mono ?_
 rintro en w' ⟨v,rfl,⟨hl,hrow⟩,hb⟩
 have hpl:(a8 (.row .str ss)).length=ss.length:=by
  have:=aD .str ss
  rw [show a7 .str=1 from rfl,Nat.mul_one] at this
  exact this
 rcases hrow with ⟨rfl,hz⟩ | ⟨g,cap,cur,rfl,hbase,hg,h1,h2,h3,h4⟩
 ·have hss:ss=[]:=List.eq_nil_of_length_eq_zero hz
  subst hss
  refine ⟨_,_,fun _ _ _ h=>(by cases h),?_,After.fresh1 (c:=.box w.heap.size 0 0) hp hs hd hi hb hk (fun b o ho=>by obtain ⟨_,_,h⟩:=ho;omega) ⟨w.heap.size,0,by simp;rfl,fun j c' hc=>?_⟩⟩
  ·exact .arr 0 0 1 w.heap.size 0 0 none (by simp) (by omega) (by omega) (by unfold aM;omega) (.inr ⟨rfl,rfl,rfl⟩)
  ·simp [a8,flat] at hc
 ·refine ⟨_,_,fun _ _ _ h=>(by cases h),?_,After.fresh1 (c:=.box g 0 (a8 (.row .str ss)).length) hp hs hd hi hb hk (fun b o ho=>by obtain ⟨rfl,_,_⟩:=ho;exact hbase) ⟨g,0,by simp,fun j c' hc=>?_⟩⟩
  ·exact .arr 0 ss.length 1 g (a8 (.row .str ss)).length cap (some ⟨g,0,none⟩) (by simp) (by omega) h1 (by unfold maxLen at h2;unfold aM;omega) (.inl rfl)
  ·have hj:j < ss.length:=by
    rw [←hpl]
    rcases Nat.lt_or_ge j (a8 (.row .str ss)).length with k | k
    ·exact k
    ·rw [List.getElem?_eq_none k] at hc;cases hc
   have hcx:=dD .str ss j ss[j] 0 (.str ss[j]) (by simp [hj]) rfl
   have hc0:(a8 (.row .str ss))[j]?=some (.str ss[j]):=by rw [show j *a7 .str+0=j by rw [show a7 .str=1 from rfl];omega] at hcx;exact hcx
   rw [hc0] at hc
   cases hc
   have hcur:cur[j]?=some (encStr ss[j]):=by
    have:(cur.toList.take (ss.length *1))[j]?=some (encStr ss[j]):=by rw [h4];simp [hj]
    rw [List.getElem?_take] at this
    split at this
    ·simpa using this
    ·cases this
   refine ⟨.inl hbase,fun h=>?_,cU hg _,encStr ss[j],by rw [Nat.zero_add,ae hg];exact hcur,.str _ (hlen _ (List.getElem_mem hj))⟩
   rcases h with h | h
   ·obtain ⟨v,hv⟩:=hp _ _ h
    have:=aC hv
    omega
   ·exact h
def dK (l:List Str):List Str:=l.mergeSort fun x y=>decide (x<=y)
theorem jC (l:List Str):(dK l).length=l.length:=List.length_mergeSort _
theorem v7 {l:List Str} {s:Str}:s∈dK l↔s∈l:=List.mem_mergeSort
structure SortL (P:Program) (ρ:Ren):Prop where
 lay:SlLaysZ.n6 P ρ
 sorts:AnyZ.SortsIn P ρ Fence.wide 4
 e9:∀args w,(callFunc (ρ.f 9) args).run P w=.ok (.enter (ρ.f 9) args) w
theorem pL (L:SortL P ρ) {g:Nat} {lb:Array Value} (eg:∀args w,(callFunc g args).run P w=.ok (.enter g args) w) {ks:List Str} (hN:ks.length *16<=140737488355328) {w:World}
  (hseq:cH Fence.wide 2 P g lb encStr (fun ss=>ss.Perm ks) ks.length w) :
  Calls P (ρ.f 6) #[.func (.func g) #[] lb] w fun en w'=>∃v,en=.returned v/\w'.ownsRow w.heap.size (ρ.t 26) 1 v (dK ks).length ((dK ks).map encStr)/\Below w.heap.size w w':=by
 refine callsIn_wide.1 ((xP L.lay Fence.wide 5 trivial trivial trivial trivial rfl (by omega) L.sorts L.e9 g lb trivial eg _ ks.length (by unfold maxLen;omega) hN w hseq).mono ?_)
 rintro en w' ⟨v,ss,rfl,hS,hrow,_,hb⟩
 have e:ss.mergeSort (fun x y=>decide (x<=y))=dK ks:=mergeSort_of_perm hS
 have hl:ss.length=(dK ks).length:=by rw [jC];exact hS.length_eq
 rw [e,hl] at hrow
 exact ⟨v,rfl,hrow,hb⟩
theorem V.fn_inv {Ω:Om} {f:Nat} {cs:List AV} {v:Value} (h:V Ω (.fn f cs) v):∃vs,v=.func (.func f) #[] vs.toArray/\VL Ω cs vs:=by
 cases h with
 | fn _ _ vs h1 h2=>exact ⟨vs,rfl,h1,h2⟩
def Strs (n₀:Nat) (W:World) (sv:Value) (zs:List Str):Prop:=
 ((∃a cap,sv=.slice a 0 cap)/\zs=[])∨∃b off cap,sv=.slice (some ⟨b,off,none⟩) zs.length cap/\b < n₀/\∀j,j < zs.length→W.cell? ⟨b,off+j,none⟩=some (encStr (zs[j]?.getD []))
def upto {α:Type} (f:Nat→α) (k:Nat):List α:=(List.range k).map f
theorem v8 {α:Type} (f:Nat→α) (k:Nat):upto f (k+1)=upto f k++[f k]:=by simp [upto,List.range_succ]
theorem qR {α:Type} (f:Nat→α) (k:Nat):(upto f k).length=k:=by simp [upto]
theorem wz (zs:List Str):upto (fun j=>zs[j]?.getD []) zs.length=zs:=by
 apply List.ext_getElem
 ·simp [upto]
 ·intro i h1 h2
  simp [upto,h2]
def pM (P:Program) (g:Nat):Prop:=
 ∀(w:World) (b o:Nat) (sv:Value) (zs:List Str),zs.length<=maxLen→w.cell? ⟨b,o,none⟩=some sv→Strs w.heap.size w sv zs→
  cH Fence.wide 2 P g #[.pointer (some ⟨b,o,none⟩)] encStr (fun ss=>ss=zs) zs.length w
theorem V.dropTok {Ω:Om} {τ:Ty} {xs:List (den τ)} {o:Option Nat} {v:Value} (h:V Ω (.lst τ xs o) v):V Ω (.lst τ xs none) v:=by
 cases h with
 | lstNil=>exact .lstNil τ none (fun _ h=>by cases h)
 | lstVoid _ a=>exact .lstVoid τ a
 | lst _ _ _ b off cap vals h1 h2 h3 h4 h5=>exact .lst τ xs none b off cap vals h1 h2 (fun _ h=>by cases h) h4 h5
theorem jc (L:SortL P ρ) {g:Nat} (eg:∀args w,(callFunc g args).run P w=.ok (.enter g args) w) (K:pM P g) (zs:List Str) (hN:zs.length *16<=140737488355328) (tok:Option Nat) :
  aW P (ρ.f 6) [.fn g [.ptr 900 0]] [(900,.box (.lst .str zs tok))] ⟨some (zs.length *16<=140737488355328),none,.arr 0 (dK zs).length 1,[(0,.box (.row .str (dK zs)))]⟩:=by
 refine uZ (T:=ρ.t 26) rfl fun w pub e vs hp hv hs=>?_
 obtain ⟨v1,rfl,h1⟩:=VL.one_inv hv
 obtain ⟨us,rfl,hus⟩:=h1.fn_inv
 obtain ⟨u,rfl,hu⟩:=VL.one_inv hus
 obtain ⟨b,o,len,rfl,he⟩:=hu.ptr_inv
 obtain ⟨b',o',he',hbox⟩:=hs 900 _ rfl
 rw [he] at he'
 cases he'
 obtain ⟨_,_,_,v,hcell,hvm⟩:=hbox 0 (.lst .str zs tok) rfl
 have hst:Strs w.heap.size w v zs:=by
  cases hvm with
  | lstNil=>exact .inl ⟨⟨_,_,rfl⟩,rfl⟩
  | lstVoid=>exact .inl ⟨⟨_,_,rfl⟩,rfl⟩
  | lst _ _ _ g0 off cap vals h1 h2 h3 h4 h5=>
   rcases Nat.eq_zero_or_pos zs.length with hz | hz
   ·have:=List.eq_nil_of_length_eq_zero hz
    subst this
    exact .inl ⟨⟨_,_,rfl⟩,rfl⟩
   ·have at_:∀j (hj:j < zs.length),w.cell? ⟨g0,off+j,none⟩=some (encStr zs[j]):=by
     intro j hj
     have q:=h4 j zs[j] (by simp [hj]) 0 (.str zs[j]) rfl
     have r:=h5 j zs[j] (by simp [hj]) 0 (.str zs[j]) rfl
     obtain ⟨r1,_⟩:=r.str_inv
     have:=q.2
     rw [r1] at this
     simpa [a7] using this
    exact .inr ⟨g0,off,cap,rfl,aC (at_ 0 hz),fun j hj=>by rw [at_ j hj];simp [hj]⟩
 refine ⟨fun s hs=>?_,?_⟩
 ·have hw:Wf (.lst .str) zs:=⟨_,_,V.dropTok hvm⟩
  exact (hw.mem (v7.1 hs)).str
 have hsq:=K w b (o+0) v zs (by unfold maxLen;omega) hcell hst
 refine pL L eg hN (w:=w) ?_
 intro l J W a1 a2 a3 a4 a5
 refine (hsq l J W a1 a2 a3 a4 a5).mono ?_
 rintro e W' ⟨h1,xs,rfl,h3⟩
 exact ⟨h1,xs,.refl _,h3⟩
end Go.AL
end
noncomputable section
namespace Go.AL
variable [Tabs]
open Go.Proofs Go.RowKit Go.Maps Go.Sort Go.Shelf
variable {P:Program} {ρ:Ren}
theorem After.row {w w':World} {pub:Nat→Nat→Prop} {e:Nat→Option CObj} {S:List (Nat × SObj)}
  (hp:gZ w pub) (hs:∀id o,ah S id=some o→aP ⟨e,w,pub⟩ (fun _ _=>True) id o) (hd:∀id,ah S id=none→e id=none) (hi:Inj e)
  {k b:Nat} {c c':AV} (hk:ah S k=some (.box c)) (he:e k=some (.box b 0 (a8 c).length)) (hl:(a8 c').length=(a8 c).length)
  (os:w'.os=w.os) (tape:w'.tape=w.tape) (output:w'.output=w.output) (size:w.heap.size<=w'.heap.size)
  (hblock:∀b',b' < w.heap.size→b'≠b∨(a8 c).length=0→w'.heap[b']?=w.heap[b']?)
  (hcell:∀j,(a8 c).length<=j→w'.cell? ⟨b,j,none⟩=w.cell? ⟨b,j,none⟩)
  (hkind:w'.shape? b=w.shape? b/\∀o,w'.frozen? ⟨b,o,none⟩=w.frozen? ⟨b,o,none⟩)
  (hval:∀(j:Nat) (c0:AV),(a8 c')[j]?=some c0→∃v,w'.cell? ⟨b,j,none⟩=some v/\∀Ω',V Ω' c0 v) :
  After w pub e (ah (bz S [(k,.box c')])) w' (fun b o=>pub b o∨False) (fun i=>if k=i then some (.box b 0 (a8 c).length) else e i):=by
 obtain ⟨b0,off0,he0,hbox⟩:=hs k _ hk
 have he0:e k=some (.box b0 off0 (a8 c).length):=he0
 rw [he] at he0
 simp only [Xs,CObj.box.injEq] at he0
 obtain ⟨rfl,rfl,_⟩:=he0
 have inE:∀{o},o < (a8 c).length→pK e k b o:=fun h=>⟨_,he,rfl,by omega,by omega⟩
 have outE:∀{b' o},¬pK e k b' o→b'≠b∨(a8 c).length<=o:=by
  intro b' o h
  rcases Nat.lt_or_ge o (a8 c).length with h' | h'
  ·exact .inl fun e=>h (e ▸ inE h')
  ·exact .inr h'
 have cell:∀b' o,b' < w.heap.size→¬pK e k b' o→w'.cell? ⟨b',o,none⟩=w.cell? ⟨b',o,none⟩:=by
  intro b' o h1 h2
  by_cases hb:b'=b
  ·subst hb
   rcases outE h2 with h | h
   ·exact absurd rfl h
   ·exact hcell o h
  ·exact ab (hblock b' h1 (.inl hb)) o
 refine After.slot hp hs hd hi (Q:=fun _ _=>False) os tape output size (fun b' h1 h2=>?_) cell (fun b' h1 h2=>?_) (fun b' o h=>?_) (fun _ _ h=>h.elim) (fun c0 h=>?_) (fun b' o h=>?_) (fun _=>?_)
 ·refine hblock b' h1 ?_
  rcases outE (h2 0) with h | h
  ·exact .inl h
  ·exact .inr (by omega)
 ·by_cases hb:b'=b
  ·subst hb;exact hkind
  ·have:=hblock b' h1 (.inl hb)
   exact ⟨aH this,fun o=>ax this o⟩
 ·obtain ⟨v,hv⟩:=hp b' o h
  refine cell b' o (aC hv) ?_
  rintro ⟨c1,h1,h2⟩
  rw [he] at h1
  cases h1
  obtain ⟨rfl,_,h3⟩:=h2
  have hj:o < (a8 c).length:=by omega
  have:=(hbox o _ (List.getElem?_eq_getElem hj)).2.1
  exact this (by simpa using h)
 ·rw [he] at h
  cases h
  exact ⟨rfl,rfl,rfl⟩
 ·exact .inr ⟨_,he,h⟩
 ·refine ⟨b,0,by simp [hl],fun j c0 hc=>?_⟩
  have hj:j < (a8 c).length:=by
   rw [←hl]
   rcases Nat.lt_or_ge j (a8 c').length with q | q
   ·exact q
   ·rw [List.getElem?_eq_none q] at hc;cases hc
  obtain ⟨_,q2,q3,_⟩:=hbox j _ (List.getElem?_eq_getElem hj)
  obtain ⟨v,hv,hV⟩:=hval j c0 hc
  rw [Nat.zero_add] at q2 q3 ⊢
  refine ⟨.inr ⟨k,_,he,rfl,by omega,by omega⟩,fun h=>?_,?_,v,hv,hV _⟩
  ·rcases h with h | h
   ·exact q2 h
   ·exact h
  ·exact (hkind.2 j).trans q3
theorem qS {α:Type} [Inhabited α] (enc:α→Value) (w:World) (b:Nat) (d:Array α) (k:Nat) (h:k≠b∨d.size=0):(putRow enc w b 0 d).heap[k]?=w.heap[k]?:=by
 unfold putRow mapBlock
 simp only [Array.getElem?_modify]
 by_cases hk:b=k
 ·subst hk
  rcases h with h | h
  ·exact absurd rfl h
  ·simp only [if_true]
   cases hw:w.heap[b]? with
   | none=>rfl
   | some o=>
    simp only [Option.map_some,Xs]
    cases o with
    | cells c e f=>
     simp only [onCells,Obj.cells.injEq,and_true,true_and]
     apply Array.ext
     ·simp [putCells]
     ·intro i h1 h2
      simp [putCells,h]
    | _=>rfl
 ·rw [if_neg hk]
theorem pN {α:Type} [Inhabited α] (enc:α→Value) (w:World) (b:Nat) (d:Array α):(putRow enc w b 0 d).shape? b=w.shape? b:=by
 unfold putRow mapBlock World.shape?
 simp only [Array.getElem?_modify,if_true]
 cases w.heap[b]? with
 | none=>rfl
 | some o=>cases o <;> simp [onCells,putCells]
theorem dT {τ:Ty} (hw:a7 τ=1) (xs:List (den τ)):(a8 (.row τ xs)).length=xs.length:=by
 have:=aD τ xs
 rw [hw,Nat.mul_one] at this
 exact this
theorem iq {τ:Ty} (hw:a7 τ=1) (xs:List (den τ)) (j:Nat) (x:den τ) (c:AV) (hx:xs[j]?=some x) (hc:(cells τ x)[0]?=some c):(a8 (.row τ xs))[j]?=some c:=by
 have:=dD τ xs j x 0 c hx hc
 rw [hw,Nat.mul_one,Nat.add_zero] at this
 exact this
theorem strRow {Ω:Om} {own:Nat→Nat→Prop} {id b:Nat} {ss:List Str} (h:aP Ω own id (.box (.row .str ss))) {len:Nat} (he:Ω.e id=some (.box b 0 len)) :
  len=ss.length/\Go.Sort.Holds encStr Ω.w b 0 ss.toArray/\∀s∈ss,s.length<=aM:=by
 obtain ⟨b',off,h1,h2⟩:=h
 rw [he] at h1
 simp only [Xs,CObj.box.injEq] at h1
 obtain ⟨rfl,rfl,h1⟩:=h1
 have at_:∀j (hj:j < ss.length),Ω.w.frozen? ⟨b,0+j,none⟩=false/\Ω.w.cell? ⟨b,0+j,none⟩=some (encStr ss[j])/\ss[j].length<=aM:=by
  intro j hj
  obtain ⟨_,_,q3,v,q4,q5⟩:=h2 j _ (iq (τ:=.str) rfl ss j ss[j] (.str ss[j]) (by simp [hj]) rfl)
  obtain ⟨rfl,q6⟩:=q5.str_inv
  exact ⟨q3,q4,q6⟩
 refine ⟨by rw [h1];exact dT (τ:=.str) rfl ss,fun j hj=>?_,fun s hs=>?_⟩
 ·have hj':j < ss.length:=by simpa using hj
  obtain ⟨q1,q2,_⟩:=at_ j hj'
  exact ⟨by rw [q2];simp [hj'],q1⟩
 ·obtain ⟨j,hj,rfl⟩:=List.getElem_of_mem hs
  exact (at_ j hj).2.2
theorem qU {ss:List Str} {s:Str} (h:s∈Lib.compact ss):s∈ss:=by
 unfold Lib.compact Lib.compactUpTo at h
 obtain ⟨j,hj,rfl⟩:=List.mem_map.1 h
 have:=(List.mem_filter.1 hj).1
 rw [List.mem_range] at this
 simp [this]
theorem After.strRow {w:World} {pub:Nat→Nat→Prop} {e:Nat→Option CObj} {S:List (Nat × SObj)}
  (hp:gZ w pub) (hs:∀id o,ah S id=some o→aP ⟨e,w,pub⟩ (fun _ _=>True) id o) (hd:∀id,ah S id=none→e id=none) (hi:Inj e)
  {k b len q:Nat} {ss ts:List Str} {gs:Array Obj} (hk:ah S k=some (.box (.row .str ss))) (he:e k=some (.box b 0 len)) (hl:ts.length=ss.length) (hb:b < w.heap.size) (ht:∀s∈ts,s.length<=aM) :
  After w pub e (ah (bz S [(k,.box (.row .str ts))])) (grow (putRow encStr (Sort.ahead w q) b 0 ts.toArray) gs) (fun b o=>pub b o∨False) (fun i=>if k=i then some (.box b 0 (a8 (.row .str ss)).length) else e i):=by
 obtain ⟨rfl,hH,_⟩:=AL.strRow (hs k _ hk) he
 have hsz:(putRow encStr (Sort.ahead w q) b 0 ts.toArray).heap.size=w.heap.size:=by simp
 have old:∀j,j < w.heap.size→(grow (putRow encStr (Sort.ahead w q) b 0 ts.toArray) gs).heap[j]?=(putRow encStr (Sort.ahead w q) b 0 ts.toArray).heap[j]?:=by
  intro j hj
  unfold grow
  simp only
  rw [Array.getElem?_append_left (by rw [hsz];exact hj)]
 have hpl:=dT (τ:=.str) rfl ss
 refine After.row hp hs hd hi hk (by rw [he,hpl]) (by rw [dT rfl,dT rfl,hl]) rfl rfl rfl (by simp [grow]) (fun b' h1 h2=>?_) (fun j hj=>?_) ⟨?_,fun o=>?_⟩ (fun j c0 hc=>?_)
 ·rw [old b' h1,qS encStr (Sort.ahead w q) b ts.toArray b' (by rw [hpl] at h2;simpa [hl] using h2)]
  rfl
 ·rw [ab (old b hb) j,cell?_putRow_other encStr (Sort.ahead w q) b 0 ts.toArray ⟨b,j,none⟩ (.inr (.inr (by rw [hpl] at hj;simp;omega)))]
  rfl
 ·rw [aH (old b hb),pN]
  rfl
 ·rw [ax (old b hb) o,frozen?_putRow]
  rfl
 ·have hj:j < ts.length:=by
   rw [←dT (τ:=.str) rfl ts]
   rcases Nat.lt_or_ge j (a8 (.row .str ts)).length with q | q
   ·exact q
   ·rw [List.getElem?_eq_none q] at hc;cases hc
  rw [iq (τ:=.str) rfl ts j ts[j] (.str ts[j]) (by simp [hj]) rfl] at hc
  cases hc
  refine ⟨encStr ts[j],?_,fun Ω'=>.str _ (ht _ (List.getElem_mem hj))⟩
  rw [ab (old b hb) j]
  have:=cell?_putRow encStr (Sort.ahead w q) b 0 ss.toArray ts.toArray hH (by simp [hl]) j (by simpa using hj)
  rw [Nat.zero_add] at this
  rw [this]
  simp [hj]
theorem nS (L:Lays.n194 P ρ) (n:Nat) (ss:List Str) (hn:n=ss.length) :
  aW P (ρ.f 194) [.arr 900 n 1] [(900,.box (.row .str ss))]
   ⟨some (n=ss.length),none,.arr 900 (Lib.compact ss).length 1,[(900,.box (.row .str (Lib.compact ss++List.replicate (ss.length - (Lib.compact ss).length) [])))]⟩:=by
 subst hn
 intro w pub e vs hp ht hv hs hd hi
 obtain ⟨v,rfl,h1⟩:=VL.one_inv hv
 have hcl:(Lib.compact ss).length<=ss.length:=by
  unfold Lib.compact Lib.compactUpTo
  rw [List.length_map]
  exact Nat.le_trans (List.length_filter_le _ _) (by simp)
 cases h1 with
 | arr _ _ _ b len cap a he h2 h3 h4 h5=>
  have he:e 900=some (.box b 0 len):=he
  obtain ⟨rfl,hH,hlen⟩:=strRow (hs 900 _ rfl) he
  have hpl:=dT (τ:=.str) rfl ss
  rcases h5 with rfl | ⟨rfl,hz,rfl⟩
  ·by_cases h0:ss=[]
   ·subst h0
    refine (Any.slices_Compact_string_empty L (some ⟨b,0,none⟩) cap w).mono ?_
    rintro en w' ⟨rfl,rfl⟩
    refine ⟨_,_,fun _ _ _ h=>(by cases h),?_,After.row (c':=.row .str []) hp hs hd hi rfl (show e 900=some (.box b 0 (a8 (.row .str [])).length) from he) rfl rfl rfl rfl (Nat.le_refl _) (fun _ _ _=>rfl) (fun _ _=>rfl) ⟨rfl,fun _=>rfl⟩ (fun j c0 hc=>by simp [a8,flat] at hc)⟩
    exact .arr 900 0 1 b (a8 (.row .str [])).length cap _ (by simp) (by omega) (by omega) h4 (.inl rfl)
   ·have hpos:0 < ss.length:=List.length_pos_iff.2 h0
    have hb:b < w.heap.size:=aC (hH 0 (by simpa using hpos)).1
    refine (Any.slices_Compact_string L b 0 cap ss w hH (by unfold aM at h4;omega) h3).mono ?_
    rintro en w' ⟨rfl,q,rfl⟩
    have hA:=After.strRow (q:=q) (gs:=#[]) (ts:=Lib.compact ss++List.replicate (ss.length - (Lib.compact ss).length) []) hp hs hd hi rfl he (by simp;omega) hb (fun s hs'=>by
     rcases List.mem_append.1 hs' with h | h
     ·exact hlen s (qU h)
     ·obtain ⟨_,rfl⟩:=List.mem_replicate.1 h;exact Nat.zero_le _)
    rw [grow_empty] at hA
    exact ⟨_,_,fun _ _ _ h=>(by cases h),.arr 900 (Lib.compact ss).length 1 b (a8 (.row .str ss)).length cap _ (by simp) (by rw [hpl];omega) (by omega) h4 (.inl rfl),hA⟩
  ·have h0:ss=[]:=List.eq_nil_of_length_eq_zero hz
   subst h0
   refine (Any.slices_Compact_string_empty L none 0 w).mono ?_
   rintro en w' ⟨rfl,rfl⟩
   refine ⟨_,_,fun _ _ _ h=>(by cases h),?_,After.row (c':=.row .str []) hp hs hd hi rfl (show e 900=some (.box b 0 (a8 (.row .str [])).length) from he) rfl rfl rfl rfl (Nat.le_refl _) (fun _ _ _=>rfl) (fun _ _=>rfl) ⟨rfl,fun _=>rfl⟩ (fun j c0 hc=>by simp [a8,flat] at hc)⟩
   exact .arr 900 0 1 b (a8 (.row .str [])).length 0 _ (by simp) (by omega) (by omega) h4 (.inr ⟨rfl,rfl,rfl⟩)
end Go.AL
end
noncomputable section
namespace Go.AL
variable [Tabs]
open Go.Proofs Go.RowKit Go.Maps Go.Sort Go.Shelf Go.Lib
variable {P:Program} {ρ:Ren}
theorem eI:∀a b:List UInt8,decide (compareBytes a b < 0)=decide (a < b)
 | [],[]=>by simp [compareBytes]
 | [],_ ::_=>by simp [compareBytes]
 | _ ::_,[]=>by simp [compareBytes]
 | a ::r,b ::s=>by
  simp only [compareBytes]
  by_cases h1:a < b
  ·simp [h1,List.cons_lt_cons_iff]
  ·by_cases h2:b < a
   ·have:a≠b:=fun e=>by subst e;exact h1 h2
    simp [h1,h2,List.cons_lt_cons_iff,this]
   ·have:a=b:=UInt8.le_antisymm (UInt8.not_lt.1 h2) (UInt8.not_lt.1 h1)
    subst this
    simp only [h1,if_false,eI r s]
    simp [List.cons_lt_cons_iff,UInt8.lt_irrefl]
end Go.AL
end
noncomputable section
namespace Go.AL
variable [Tabs]
open Go.Proofs Go.Shelf
variable {P:Program} {ρ:Ren}
def zi (gv gk:Nat):Pat:=fun args S=>
 match args,S with
 | [.fn g [.ptr 900 0]],[(900,.box (.lst .str zs _))]=>
  if g=gv then some ⟨some (zs.length *16<=140737488355328),none,.arr 0 (dK zs).length 1,[(0,.box (.row .str (dK zs)))]⟩ else none
 | [.fn g [.ptr 900 0]],[(900,.box (.map 901)),(901,.map .str _ m)]=>
  if g=gk then some ⟨some (m.length *16<=140737488355328),none,.arr 0 (dK (m.map (·.1))).length 1,[(0,.box (.row .str (dK (m.map (·.1)))))]⟩ else none
 | _,_=>none
def jd (gv:Nat):Pat:=fun args S=>
 match args,S with
 | [.fn g [.ptr 900 0]],[(900,.box (.lst .str zs _))]=>
  if g=gv then some ⟨some (zs.length *16<=140737488355328),none,.arr 0 (dK zs).length 1,[(0,.box (.row .str (dK zs)))]⟩ else none
 | _,_=>none
theorem nT {f gv:Nat} (L:SortL P ρ) (hf:ρ.f 6=f) (eg:∀args w,(callFunc gv args).run P w=.ok (.enter gv args) w) (V:pM P gv) (he:aS P f):aL P f (jd gv):=by
 subst hf
 intro args S A h hob hkeys
 unfold jd at h
 split at h
 ·split at h
  ·rename_i e
   subst e
   cases h
   exact ⟨he,jc L eg V _ (hob _ rfl) _⟩
  ·cases h
 ·cases h
def je:Pat:=fun args S=>
 match args,S with
 | [.arr 900 n 1],[(900,.box (.row .str ss))]=>
  some ⟨some (n=ss.length),none,.arr 900 (Lib.compact ss).length 1,[(900,.box (.row .str (Lib.compact ss++List.replicate (ss.length - (Lib.compact ss).length) [])))]⟩
 | _,_=>none
theorem nU {f:Nat} (L:Lays.n194 P ρ) (hf:ρ.f 194=f) (he:aS P f):aL P f je:=by
 subst hf
 intro args S A h hob hkeys
 unfold je at h
 split at h
 ·cases h
  exact ⟨he,nS L _ _ (hob _ rfl)⟩
 ·cases h
end Go.AL
end
noncomputable section
namespace Go.AL
open Go.Lib
theorem qV {l:List Str} (hs:l.Pairwise (·<= ·)):(Lib.compact l).length=l.length↔l.Nodup:=by
 unfold Lib.compact Lib.compactUpTo
 rw [List.length_map]
 have e:((List.range l.length).filter (keeps l.toArray)).length=l.length↔∀j,j < l.length→keeps l.toArray j=true:=by
  have h:=List.length_filter_eq_length_iff (p:=keeps l.toArray) (l:=List.range l.length)
  rw [List.length_range] at h
  rw [h]
  simp
 rw [e,List.nodup_iff_pairwise_ne,List.pairwise_iff_getElem]
 rw [List.pairwise_iff_getElem] at hs
 constructor
 ·intro h i j hi hj hij eq
  have hk:=h j hj
  have hj1:j - 1 < l.length:=by omega
  have h1:l[i]<=l[j - 1]:=by
   rcases Nat.lt_or_ge i (j - 1) with q | q
   ·exact hs i (j - 1) hi hj1 q
   ·have:i=j - 1:=by omega
    subst this
    exact List.le_refl _
  have h2:l[j - 1]<=l[j]:=hs (j - 1) j hj1 hj (by omega)
  have h3:l[j - 1]=l[j]:=List.le_antisymm h2 (by rw [←eq];exact h1)
  unfold keeps at hk
  simp [hj,hj1,h3] at hk
  omega
 ·intro h j hj
  unfold keeps
  rcases Nat.eq_zero_or_pos j with q | q
  ·simp [q]
  ·have hj1:j - 1 < l.length:=by omega
   have:=h (j - 1) j hj1 hj (by omega)
   simp [hj,hj1]
   exact .inr fun e=>this e.symm
theorem pO (l:List Str):(dK l).Pairwise (·<= ·):=by
 have tr:∀a b c:Str,decide (a<=b)=true→decide (b<=c)=true→decide (a<=c)=true:=fun a b c h1 h2=>by
  simp only [decide_eq_true_eq] at *;exact List.le_trans h1 h2
 have tot:∀a b:Str,(decide (a<=b) || decide (b<=a))=true:=fun a b=>by
  simp only [Bool.or_eq_true,decide_eq_true_eq];exact List.le_total _ _
 exact (List.pairwise_mergeSort tr tot l).imp fun h=>by simpa using h
theorem qW {l:List Str}:(dK l).Nodup↔l.Nodup:=(List.mergeSort_perm l _).nodup_iff
theorem nq (l:List Str):(Lib.compact (dK l)).length=l.length↔l.Nodup:=by
 letI:=ph
 rw [←jC l,qV (pO l),qW]
end Go.AL
end
section
namespace Go.Pd
open Go.AL
def bJ (c:Int):Bool:=decide (97<=c) && decide (c<=122)
def bN (c:Int):Bool:=decide (65<=c) && decide (c<=90)
def ir (c:Int):Bool:=decide (48<=c) && decide (c<=57)
def dH (c:Int):Bool:=bJ c || bN c || ir c || decide (c=95)
def bI (b:UInt8):Int:=(b.toNat:Int)
def bk (first:Int→Bool) (s:Str):Bool:=!decide (s=[]) && decide (s.length<=24) && first (bI (s.getD 0 0)) && s.all fun c=>dH (bI c)
def str (s:String):Str:=s.toUTF8.data.toList
def yw:List Str:=[[109,111,100,117,108,101],[105,109,112,111,114,116],[112,105,110],[114,97,110,103,101],[116,121,112,101],[111,112,97,113,117,101],[108,101,116],[105,110],[101,120,112,111,114,116],[102,117,110],[105,102],[116,104,101,110],[101,108,115,101],[99,97,115,101],[111,102],[97,115],[110,101,119],[114,97,119],[116,114,117,101],[102,97,108,115,101]]
def cg (s:Str):Bool:=decide (s∈yw)
def qX (s:Str):Bool:=bk bJ s && !cg s
def pP (s:Str):Bool:=bk bN s
mutual
def sz:Shape→Nat
 | ⟨_,_,_,_,ps⟩=>szL ps+1
def szL:List Shape→Nat
 | []=>0
 | p ::r=>sz p+szL r
end
mutual
def eqS:Shape→Shape→Bool
 | ⟨k,p,n,ns,ps⟩,⟨k',p',n',ns',ps'⟩=>decide (k=k') && decide (p=p') && decide (n=n') && decide (ns=ns') && eqL ps ps'
def eqL:List Shape→List Shape→Bool
 | [],[]=>true
 | a ::r,b ::s=>eqS a b && eqL r s
 | _,_=>false
end
mutual
def allS (f:Shape→Bool):Shape→Bool
 | ⟨k,p,n,ns,ps⟩=>f ⟨k,p,n,ns,ps⟩ && allL f ps
def allL (f:Shape→Bool):List Shape→Bool
 | []=>true
 | p ::r=>allS f p && allL f r
end
theorem tU (a:Shape):sz a=szL a.parts+1:=by cases a;rfl
theorem pQ:∀{l:List Shape} {a:Shape},a∈l→sz a<=szL l
 | b ::r,a,h=>by
  simp only [szL]
  rcases List.mem_cons.1 h with rfl | h
  ·omega
  ·have:=pQ h;omega
theorem tV:∀{a b:List Shape},a.length≠b.length→eqL a b=false
 | [],[],h=>absurd rfl h
 | [],_ ::_,_=>rfl
 | _ ::_,[],_=>rfl
 | a ::r,b ::s,h=>by
  simp only [eqL]
  rw [tV (fun e=>h (by simp [e]))]
  simp
theorem pR (a:Shape):0 < sz a:=by rw [tU];omega
theorem tW:∀(l:List Shape),l.length<=szL l
 | []=>Nat.zero_le _
 | a ::r=>by
  have:=tW r
  have:=pR a
  simp only [szL,List.length_cons]
  omega
theorem allS_eq (f:Shape→Bool) (s:Shape):allS f s=(f s && allL f s.parts):=by cases s;rfl
theorem ko {α:Type} (l:List α) (k:Nat) (d:α) (h:k < l.length):l.take (k+1)=l.take k++[l.getD k d]:=by
 rw [List.take_add_one,List.getD_eq_getElem?_getD,List.getElem?_eq_getElem h]
 rfl
end Go.Pd
end
section
namespace Go.Pd
open Go.AL
def iS (s:Str):Int:=s.foldl (fun n c=>10 *n+((c.toNat:Int) - 48)) 0
end Go.Pd
end
section
namespace Go.Pd
open Go.AL
def oF (t:Str):Prop:=t≠[]/\t.length<=15/\∀c∈t,48<=c.toNat/\c.toNat<=57
end Go.Pd
end
section
namespace Go.AL
open Go.Proofs Go.Shelf Go.RowKit Go.Pd
theorem kU:∀(l:Str) (acc:Nat),(∀c∈l,48<=c.toNat/\c.toNat<=57)→∃m:Nat,Lib.decFrom acc l=some m/\(m:Int)=l.foldl (fun n c=>10 *n+((c.toNat:Int) - 48)) (acc:Int)/\m < (acc+1) *10 ^ l.length
 | [],acc,_=>⟨acc,rfl,rfl,by simp⟩
 | c ::r,acc,h=>by
  obtain ⟨h1,h2⟩:=h c (List.mem_cons_self ..)
  obtain ⟨m,e1,e2,e3⟩:=kU r (acc *10+(c.toNat - 48)) (fun d hd=>h d (List.mem_cons_of_mem _ hd))
  refine ⟨m,?_,?_,?_⟩
  ·simp only [Lib.decFrom,Lib.digitVal,h1,h2,and_self,if_true];exact e1
  ·rw [e2,List.foldl_cons]
   congr 1
   omega
  ·refine Nat.lt_of_lt_of_le e3 ?_
   rw [List.length_cons,Nat.pow_succ,←Nat.mul_assoc,Nat.mul_right_comm]
   exact Nat.mul_le_mul_right _ (by omega)
theorem wA {t:Str} (h:oF t):Lib.atoi t=some (iS t)/\0<=iS t/\iS t < 1000000000000000:=by
 obtain ⟨h1,h2,h3⟩:=h
 obtain ⟨m,e1,e2,e3⟩:=kU t 0 h3
 have e4:(m:Int)=iS t:=e2
 refine ⟨?_,by omega,?_⟩
 ·cases t with
  | nil=>exact absurd rfl h1
  | cons c r=>
   have hc:=h3 c (List.mem_cons_self ..)
   have n1:(c ==45)=false:=by rw [beq_eq_false_iff_ne];rintro rfl;simp at hc
   have n2:(c ==43)=false:=by rw [beq_eq_false_iff_ne];rintro rfl;simp at hc
   simp only [Lib.atoi,n1,n2,Bool.false_eq_true,if_false,Lib.decNat,List.isEmpty_cons,e1,Option.map_some,e4]
 ·have:m < 10 ^ t.length:=by simpa using e3
  have h10:10 ^ t.length<=10 ^ 15:=Nat.pow_le_pow_right (by decide) h2
  have:m < 1000000000000000:=Nat.lt_of_lt_of_le this h10
  omega
variable [Tabs] {P:Program} {ρ:Ren}
theorem After.below {w w':World} {pub:Nat→Nat→Prop} {e:Nat→Option CObj} (hp:gZ w pub) (hd:∀id,e id=none) (hb:Below w.heap.size w w'):After w pub e (ah (bz [] [])) w' pub e where
 os:=hb.os
 tape:=hb.tape
 output:=hb.output
 size:=hb.size
 block b h _:=hb.block b h
 cell b o h _:=ab (hb.block b h) o
 kind b h _:=⟨aH (hb.block b h),fun o=>ax (hb.block b h) o⟩
 ext:=⟨fun _ c h=>⟨c,h,CLe.refl c⟩,fun _ _ h=>h,fun b o h=>by obtain ⟨v,hv⟩:=hp b o h;exact ab (hb.block b (aC hv)) o⟩
 fresh b o h:=.inl h
 ok b o h:=by obtain ⟨v,hv⟩:=hp b o h;exact ⟨v,(ab (hb.block b (aC hv)) o).trans hv⟩
 slots id o h:=by simp [bz,ay,aw] at h
 dom id _:=hd id
 inj i j c d b o h:=by rw [hd i] at h;cases h
theorem sK (L:Lays.n172 P ρ) (t:Str) (h:oF t):aW P (ρ.f 172) [.str t] [] ⟨some (oF t),none,.tup [.int .i64 (iS t),.nilif],[]⟩:=by
 intro w pub e vs hp ht hv hs hd hi
 obtain ⟨v,rfl,h1⟩:=VL.one_inv hv
 obtain ⟨rfl,hl⟩:=h1.str_inv
 obtain ⟨a1,a2,a3⟩:=wA h
 refine (Any.strconv_Atoi L ⟨t.toArray⟩ (iS t) (by have:=h.2.1;show t.toArray.size<=18;simp;omega) (by simpa using a1) w).mono ?_
 rintro en w' ⟨rfl,ty,rfl⟩
 refine ⟨pub,e,?_⟩
 refine And.intro (fun b pv u h=>by cases h) (And.intro ?_ (After.below hp (fun id=>hd id rfl) (Lib.bytesWorld_below w _ _)))
 have b1:inR .i64 (iS t):=gD (by omega) (by omega)
 exact V.of_tup (VL.cons (.int _ _ b1.1 b1.2) (VL.cons .nilif .nil))
def xQ:Pat:=p1 .str fun t=>⟨some (oF t),none,.tup [.int .i64 (iS t),.nilif],[]⟩
theorem sL {f:Nat} (L:Lays.n172 P ρ) (hf:ρ.f 172=f) (he:aS P f):aL P f xQ:=by
 subst hf
 exact fg he fun t _ ho=>sK L t (ho _ rfl)
end Go.AL
end
section
namespace Go.Pd
open Go.AL
def xR {α:Type} (F:α→Bool):List α→Nat→Int
 | [],_=>-1
 | x ::r,k=>if F x=true then xR F r (k+1) else (k:Int)
theorem allL_all (f:Shape→Bool):∀l:List Shape,allL f l=l.all (allS f)
 | []=>rfl
 | p ::r=>by rw [List.all_cons,←allL_all f r];rfl
end Go.Pd
end
section
namespace Go.Pd
open Go.AL
def cut (s:Str) (a b:Int):Str:=(s.take b.toNat).drop a.toNat
def kV (r:Str) (k:Nat):Bool:=decide (k < r.length) && decide ((r.getD k 0).toNat / 64=2)
def l8 (r:Str) (k:Nat):Nat:=(r.getD k 0).toNat % 64
def lD (c:Nat):Bool:=decide (c < 1114112) && !(decide (55296<=c) && decide (c < 57344))
def wB:Str→Nat
 | []=>0
 | b ::r=>
  if b.toNat < 128 then 1
  else if b.toNat / 32=6/\kV r 0=true then (if 128<=b.toNat % 32 *64+l8 r 0 then 2 else 0)
  else if b.toNat / 16=14/\kV r 0=true/\kV r 1=true then
   (if 2048<=b.toNat % 16 *4096+l8 r 0 *64+l8 r 1/\lD (b.toNat % 16 *4096+l8 r 0 *64+l8 r 1)=true then 3 else 0)
  else if b.toNat / 8=30/\kV r 0=true/\kV r 1=true/\kV r 2=true then
   (if 65536<=b.toNat % 8 *262144+l8 r 0 *4096+l8 r 1 *64+l8 r 2/\lD (b.toNat % 8 *262144+l8 r 0 *4096+l8 r 1 *64+l8 r 2)=true then 4 else 0)
  else 0
def splitB (c:UInt8):Str→List Str
 | []=>[[]]
 | b ::r=>if b=c then [] ::splitB c r else match splitB c r with | []=>[[b]] | p ::ps=>(b ::p) ::ps
def fO (s:Str):Str:=s.takeWhile fun b=>!decide (b=45)
def jf (s:Str):Str:=s.drop ((fO s).length+1)
def kq (s:Str):Bool:=decide ((fO s).length < s.length)
end Go.Pd
end
section
namespace Go.Pd
open Go.AL
end Go.Pd
namespace Go.Pd
open Go.AL
def nr:Str:=[48,49,50,51,52,53,54,55,56,57]
def kW (b:UInt8):Bool:=ir (bI b)
def nt (s:Str):Str:=(s.reverse.dropWhile kW).reverse.dropWhile kW
def wC (s:Str) (c:Int):Int:=xR (fun b=>!decide (bI b=c)) s 0
def gK (s:Str):Nat × Nat:=if s=[] then (65533,0) else Lib.decodeN s.length (s.getD 0 0).toNat (s.getD 1 0).toNat (s.getD 2 0).toNat (s.getD 3 0).toNat
theorem nV {p:UInt8→Bool}:∀{l:Str},l.dropWhile p=[]↔l.all p=true
 | []=>by simp
 | b ::r=>by
  rw [List.dropWhile_cons]
  split
  ·rename_i h
   rw [nV,List.all_cons,h,Bool.true_and]
  ·rename_i h
   simp [h]
theorem wD (s:Str):(nt s).length<=s.length:=by
 unfold nt
 have h1:=(List.dropWhile_sublist (p:=kW) (l:=(s.reverse.dropWhile kW).reverse)).length_le
 have h2:=(List.dropWhile_sublist (p:=kW) (l:=s.reverse)).length_le
 rw [List.length_reverse] at h1 h2
 omega
def va (n b0 b1 b2 b3:Nat):Nat:=
 if b0 < 128 then 1
 else if b0 / 32=6/\(1 < n/\b1 / 64=2) then (if b0 % 32 *64+b1 % 64≥128 then 2 else 0)
 else if b0 / 16=14/\(1 < n/\b1 / 64=2)/\(2 < n/\b2 / 64=2) then
  (if b0 % 16 *4096+b1 % 64 *64+b2 % 64≥2048/\(b0 % 16 *4096+b1 % 64 *64+b2 % 64 < 55296∨(57344<=b0 % 16 *4096+b1 % 64 *64+b2 % 64/\b0 % 16 *4096+b1 % 64 *64+b2 % 64<=1114111)) then 3 else 0)
 else if b0 / 8=30/\(1 < n/\b1 / 64=2)/\(2 < n/\b2 / 64=2)/\(3 < n/\b3 / 64=2) then
  (if b0 % 8 *262144+b1 % 64 *4096+b2 % 64 *64+b3 % 64≥65536/\(b0 % 8 *262144+b1 % 64 *4096+b2 % 64 *64+b3 % 64 < 55296∨(57344<=b0 % 8 *262144+b1 % 64 *4096+b2 % 64 *64+b3 % 64/\b0 % 8 *262144+b1 % 64 *4096+b2 % 64 *64+b3 % 64<=1114111)) then 4 else 0)
 else 0
theorem qY (n b0 b1 b2 b3:Nat) (h1:b1 < 256) (h2:b2 < 256) (h3:b3 < 256) (h0:b0 < 256) (hn:1<=n) :
  ((Lib.decodeN n b0 b1 b2 b3).1=65533/\(Lib.decodeN n b0 b1 b2 b3).2=1↔va n b0 b1 b2 b3=0)/\(va n b0 b1 b2 b3≠0→(Lib.decodeN n b0 b1 b2 b3).2=va n b0 b1 b2 b3)/\
  (Lib.decodeN n b0 b1 b2 b3).1<=1114111/\1<=(Lib.decodeN n b0 b1 b2 b3).2/\(Lib.decodeN n b0 b1 b2 b3).2<=n:=by
 unfold Lib.decodeN va
 by_cases c1:b0 < 128
 ·simp only [if_pos c1];refine ⟨⟨fun e=>?_,fun e=>?_⟩,fun e=>?_,?_,?_,?_⟩ <;> first | omega | exact ⟨rfl,rfl⟩ | exact ⟨trivial,trivial⟩ | exact (e rfl).elim | exact e.elim | exact (e trivial).elim | simp only at *
 simp only [if_neg c1]
 by_cases c2:b0 / 32=6/\(1 < n/\b1 / 64=2)
 ·simp only [if_pos c2]
  by_cases d:b0 % 32 *64+b1 % 64≥128
  ·simp only [if_pos d];refine ⟨⟨fun e=>?_,fun e=>?_⟩,fun e=>?_,?_,?_,?_⟩ <;> first | omega | exact ⟨rfl,rfl⟩ | exact ⟨trivial,trivial⟩ | exact (e rfl).elim | exact e.elim | exact (e trivial).elim | simp only at *
  ·simp only [if_neg d];refine ⟨⟨fun e=>?_,fun e=>?_⟩,fun e=>?_,?_,?_,?_⟩ <;> first | omega | exact ⟨rfl,rfl⟩ | exact ⟨trivial,trivial⟩ | exact (e rfl).elim | exact e.elim | exact (e trivial).elim | simp only at *
 simp only [if_neg c2]
 by_cases c3:b0 / 16=14/\(1 < n/\b1 / 64=2)/\(2 < n/\b2 / 64=2)
 ·simp only [if_pos c3]
  by_cases d:b0 % 16 *4096+b1 % 64 *64+b2 % 64≥2048/\(b0 % 16 *4096+b1 % 64 *64+b2 % 64 < 55296∨(57344<=b0 % 16 *4096+b1 % 64 *64+b2 % 64/\b0 % 16 *4096+b1 % 64 *64+b2 % 64<=1114111))
  ·simp only [if_pos d];refine ⟨⟨fun e=>?_,fun e=>?_⟩,fun e=>?_,?_,?_,?_⟩ <;> first | omega | exact ⟨rfl,rfl⟩ | exact ⟨trivial,trivial⟩ | exact (e rfl).elim | exact e.elim | exact (e trivial).elim | simp only at *
  ·simp only [if_neg d];refine ⟨⟨fun e=>?_,fun e=>?_⟩,fun e=>?_,?_,?_,?_⟩ <;> first | omega | exact ⟨rfl,rfl⟩ | exact ⟨trivial,trivial⟩ | exact (e rfl).elim | exact e.elim | exact (e trivial).elim | simp only at *
 simp only [if_neg c3]
 by_cases c4:b0 / 8=30/\(1 < n/\b1 / 64=2)/\(2 < n/\b2 / 64=2)/\(3 < n/\b3 / 64=2)
 ·simp only [if_pos c4]
  by_cases d:b0 % 8 *262144+b1 % 64 *4096+b2 % 64 *64+b3 % 64≥65536/\(b0 % 8 *262144+b1 % 64 *4096+b2 % 64 *64+b3 % 64 < 55296∨(57344<=b0 % 8 *262144+b1 % 64 *4096+b2 % 64 *64+b3 % 64/\b0 % 8 *262144+b1 % 64 *4096+b2 % 64 *64+b3 % 64<=1114111))
  ·simp only [if_pos d];refine ⟨⟨fun e=>?_,fun e=>?_⟩,fun e=>?_,?_,?_,?_⟩ <;> first | omega | exact ⟨rfl,rfl⟩ | exact ⟨trivial,trivial⟩ | exact (e rfl).elim | exact e.elim | exact (e trivial).elim | simp only at *
  ·simp only [if_neg d];refine ⟨⟨fun e=>?_,fun e=>?_⟩,fun e=>?_,?_,?_,?_⟩ <;> first | omega | exact ⟨rfl,rfl⟩ | exact ⟨trivial,trivial⟩ | exact (e rfl).elim | exact e.elim | exact (e trivial).elim | simp only at *
 simp only [if_neg c4]
 refine ⟨⟨fun e=>?_,fun e=>?_⟩,fun e=>?_,?_,?_,?_⟩ <;> first | omega | exact ⟨rfl,rfl⟩ | exact ⟨trivial,trivial⟩ | exact (e rfl).elim | exact e.elim | exact (e trivial).elim | simp only at *
theorem qZ (c:Nat):lD c=true↔(c < 55296∨(57344<=c/\c<=1114111)):=by
 unfold lD
 simp only [Bool.and_eq_true,decide_eq_true_eq,Bool.not_eq_true',Bool.and_eq_false_iff,decide_eq_false_iff_not]
 omega
theorem vb (r:Str) (k:Nat):kV r k=true↔(k+1 < r.length+1/\(r.getD k 0).toNat / 64=2):=by
 unfold kV
 simp only [Bool.and_eq_true,decide_eq_true_eq]
 omega
theorem yS (b:UInt8) (r:Str):wB (b ::r)=va (r.length+1) b.toNat (r.getD 0 0).toNat (r.getD 1 0).toNat (r.getD 2 0).toNat:=by
 unfold wB va l8
 simp only [vb,qZ]
theorem wE {s:Str} (h:s≠[]):((gK s).1=65533/\(gK s).2=1↔wB s=0)/\(wB s≠0→(gK s).2=wB s)/\(gK s).1<=1114111/\1<=(gK s).2/\(gK s).2<=s.length:=by
 cases s with
 | nil=>exact absurd rfl h
 | cons b r=>
  have e:gK (b ::r)=Lib.decodeN (r.length+1) b.toNat (r.getD 0 0).toNat (r.getD 1 0).toNat (r.getD 2 0).toNat:=by
   unfold gK
   rw [if_neg h]
   rfl
  rw [e,yS,List.length_cons]
  exact qY _ _ _ _ _ (r.getD 0 0).toNat_lt (r.getD 1 0).toNat_lt (r.getD 2 0).toNat_lt b.toNat_lt (by omega)
end Go.Pd
namespace Go.Pd
open Go.AL
end Go.Pd
namespace Go.Pd
open Go.AL
end Go.Pd
namespace Go.Pd
open Go.AL
theorem iT (c:UInt8):∀s:Str,(splitB c s).length<=s.length+1
 | []=>by simp [splitB]
 | b ::r=>by
  have ih:=iT c r
  unfold splitB
  split
  ·simp only [List.length_cons];omega
  ·split
   ·simp
   ·rename_i e
    rw [e] at ih
    simp only [List.length_cons] at ih ⊢
    omega
end Go.Pd
namespace Go.Pd
open Go.AL
theorem vc (s:Str):(fO s).length<=s.length:=(List.takeWhile_sublist _).length_le
end Go.Pd
namespace Go.Pd
open Go.AL
end Go.Pd
namespace Go.Pd
open Go.AL
end Go.Pd
end
section
namespace Go.AL
open Go.Proofs Go.Shelf Go.RowKit Go.Pd
theorem eP {c:UInt8}:∀{s:Str},Lib.indexByte s c=-1→c∉s
 | [],_=>List.not_mem_nil
 | b ::r,h=>by
  unfold Lib.indexByte at h
  by_cases e:b=c
  ·subst e;simp at h
  ·have e':(b ==c)=false:=beq_eq_false_iff_ne.2 e
   rw [e'] at h
   simp only [Bool.false_eq_true,if_false] at h
   have hg:=Lib.indexByte_ge r c
   split at h
   ·rename_i k
    have:=eP (s:=r) (by simpa using k)
    rw [List.mem_cons,not_or]
    exact ⟨fun q=>e q.symm,this⟩
   ·omega
theorem dI {c:UInt8}:∀{s:Str},Lib.indexByte s c≠-1→∃k:Nat,Lib.indexByte s c=k/\k < s.length/\s=s.take k++c ::s.drop (k+1)/\c∉s.take k
 | [],h=>absurd rfl h
 | b ::r,h=>by
  unfold Lib.indexByte at h ⊢
  by_cases e:b=c
  ·subst e
   refine ⟨0,by simp,by simp,by simp,by simp⟩
  ·have e':(b ==c)=false:=beq_eq_false_iff_ne.2 e
   rw [e'] at h ⊢
   simp only [Bool.false_eq_true,if_false] at h ⊢
   split at h
   ·exact absurd rfl h
   ·rename_i k
    obtain ⟨j,j1,j2,j3,j4⟩:=dI (s:=r) (by simpa using k)
    rw [if_neg k]
    refine ⟨j+1,by rw [j1];rfl,by simp;omega,?_,?_⟩
    ·rw [List.take_succ_cons,List.drop_succ_cons,List.cons_append,←j3]
    ·rw [List.take_succ_cons,List.mem_cons,not_or]
     exact ⟨fun q=>e q.symm,j4⟩
theorem nu {c:UInt8}:∀{s:Str},c∉s→splitB c s=[s]
 | [],_=>rfl
 | b ::r,h=>by
  rw [List.mem_cons,not_or] at h
  unfold splitB
  rw [if_neg (fun e=>h.1 e.symm),nu h.2]
theorem oG {c:UInt8}:∀{a:Str} (r:Str),c∉a→splitB c (a++c ::r)=a ::splitB c r
 | [],r,_=>by rw [List.nil_append,splitB,if_pos rfl]
 | b ::a,r,h=>by
  rw [List.mem_cons,not_or] at h
  rw [List.cons_append,splitB,if_neg (fun e=>h.1 e.symm),oG r h.2]
theorem nv (c:UInt8):∀(n:Nat) (s:Str),s.length<=n→Lib.splitK [c] 0 (s.count c) s=splitB c s
 | n,s,hn=>by
  by_cases h:Lib.indexByte s c=-1
  ·have hm:=eP h
   rw [List.count_eq_zero.2 hm,nu hm]
   rfl
  ·obtain ⟨k,k1,k2,k3,k4⟩:=dI h
   have hc:s.count c=(s.drop (k+1)).count c+1:=by
    have e:=congrArg (List.count c) k3
    rw [List.count_append,List.count_cons_self,List.count_eq_zero.2 k4] at e
    omega
   rw [hc]
   unfold Lib.splitK
   rw [Lib.index_one,if_neg (by simpa using h),k1]
   have hd:(k:Int).toNat+[c].length=k+1:=rfl
   have ht:(k:Int).toNat+0=k:=rfl
   rw [hd,ht]
   cases n with
   | zero=>omega
   | succ n=>
    rw [nv c n (s.drop (k+1)) (by rw [List.length_drop];omega)]
    conv=>rhs;rw [k3]
    rw [oG _ k4]
theorem jD {c:UInt8}:∀{a:Str} (r:Str),c∉a→(a++c ::r).takeWhile (fun b=>!decide (b=c))=a
 | [],r,_=>by simp
 | b ::a,r,h=>by
  rw [List.mem_cons,not_or] at h
  have hb:¬b=c:=fun e=>h.1 e.symm
  rw [List.cons_append,List.takeWhile_cons]
  simp only [hb,decide_false,Bool.not_false,if_true]
  rw [jD r h.2]
theorem nW {c:UInt8} {s:Str} (h:c∉s):s.takeWhile (fun b=>!decide (b=c))=s:=by
 induction s with
 | nil=>rfl
 | cons b r ih=>
  rw [List.mem_cons,not_or] at h
  have hb:¬b=c:=fun e=>h.1 e.symm
  rw [List.takeWhile_cons]
  simp only [hb,decide_false,Bool.not_false,if_true]
  rw [ih h.2]
theorem wF (s:Str):Lib.cut s [45]=(fO s,jf s,kq s):=by
 unfold Lib.cut
 rw [Lib.index_one]
 by_cases h:Lib.indexByte s 45=-1
 ·have hm:=eP h
  rw [h,if_neg (by decide)]
  have e:fO s=s:=nW hm
  unfold jf kq
  rw [e,List.drop_eq_nil_of_le (by omega)]
  simp
 ·obtain ⟨k,k1,k2,k3,k4⟩:=dI h
  rw [k1,if_pos (by omega)]
  have e:fO s=s.take k:=by
   unfold fO
   conv=>lhs;rw [k3]
   exact jD _ k4
  have hl:(s.take k).length=k:=by rw [List.length_take];omega
  unfold jf kq
  rw [e,hl]
  simp [k2]
theorem xS (s:Str) (c:Int) (h0:0<=c) (h1:c<=255):∀k:Nat,xR (fun b=>!decide (bI b=c)) s k=if Lib.indexByte s c.toNat.toUInt8=-1 then -1 else Lib.indexByte s c.toNat.toUInt8+k:=by
 have hb:∀b:UInt8,(bI b=c)↔b=c.toNat.toUInt8:=by
  intro b
  unfold bI
  constructor
  ·intro e
   have:c.toNat=b.toNat:=by omega
   rw [this]
   simp
  ·intro e
   rw [e]
   simp [Nat.toUInt8]
   omega
 induction s with
 | nil=>intro k;rfl
 | cons b r ih=>
  intro k
  rw [xR]
  by_cases e:bI b=c
  ·have e2:=(hb b).1 e
   rw [if_neg (by simp [e])]
   unfold Lib.indexByte
   rw [e2]
   simp
  ·have e2:(b ==c.toNat.toUInt8)=false:=beq_eq_false_iff_ne.2 (fun q=>e ((hb b).2 q))
   rw [if_pos (by simp [e]),ih (k+1)]
   have hg:=Lib.indexByte_ge r c.toNat.toUInt8
   have e3:Lib.indexByte (b ::r) c.toNat.toUInt8=(if b ==c.toNat.toUInt8 then 0 else if Lib.indexByte r c.toNat.toUInt8 ==-1 then -1 else Lib.indexByte r c.toNat.toUInt8+1):=rfl
   rw [e3,e2]
   simp only [Bool.false_eq_true,if_false,beq_iff_eq]
   by_cases q:Lib.indexByte r c.toNat.toUInt8=-1
   ·rw [if_pos q,if_pos q];rfl
   ·rw [if_neg q,if_neg q,if_neg (by omega)]
    omega
theorem r6 (s:Str) (c:UInt8):decide (0<=Lib.indexByte s c)=decide (c∈s):=by
 have hg:=Lib.indexByte_ge s c
 rw [decide_eq_decide]
 by_cases h:Lib.indexByte s c=-1
 ·exact ⟨fun e=>by omega,fun e=>absurd e (eP h)⟩
 ·obtain ⟨k,k1,k2,k3,k4⟩:=dI h
  exact ⟨fun _=>by rw [k3];simp,fun _=>by omega⟩
variable [Tabs] {P:Program} {ρ:Ren}
theorem Below.drawn (w:World) (n:Nat):Below w.heap.size w (w.drewN n):=⟨rfl,rfl,rfl,Nat.le_refl _,fun _ _=>rfl⟩
theorem After.news {w w':World} {pub:Nat→Nat→Prop} {e:Nat→Option CObj} (hp:gZ w pub) (hd:∀id,e id=none) (hb:Below w.heap.size w w') {p:Nat→Prop} (hc:∀o,p o→∃v,w'.cell? ⟨w.heap.size,o,none⟩=some v) :
  After w pub e (ah (bz [] [])) w' (fun b o=>pub b o∨(b=w.heap.size/\p o)) e where
 os:=hb.os
 tape:=hb.tape
 output:=hb.output
 size:=hb.size
 block b h _:=hb.block b h
 cell b o h _:=ab (hb.block b h) o
 kind b h _:=⟨aH (hb.block b h),fun o=>ax (hb.block b h) o⟩
 ext:=⟨fun _ c h=>⟨c,h,CLe.refl c⟩,fun _ _ h=>.inl h,fun b o h=>by obtain ⟨v,hv⟩:=hp b o h;exact ab (hb.block b (aC hv)) o⟩
 fresh b o h:=by
  rcases h with h | ⟨rfl,_⟩
  ·exact .inl h
  ·exact .inr (.inl (Nat.le_refl _))
 ok b o h:=by
  rcases h with h | ⟨rfl,h⟩
  ·obtain ⟨v,hv⟩:=hp b o h;exact ⟨v,(ab (hb.block b (aC hv)) o).trans hv⟩
  ·exact hc o h
 slots id o h:=by simp [bz,ay,aw] at h
 dom id _:=hd id
 inj i j c d b o h:=by rw [hd i] at h;cases h
theorem eH {f:Nat} {args:List AV} {A:AV} {ob:Option Prop} (h:∀(w:World) (pub:Nat→Nat→Prop) (vs:List Value),gT w pub (fun _=>none)→VL ⟨fun _=>none,w,pub⟩ args vs→Calls P f vs.toArray w fun e w'=>(∃v,e=.returned v/\∀Ω,V Ω A v)/\Below w.heap.size w w') :
  aW P f args [] ⟨ob,none,A,[]⟩:=by
 intro w pub e vs hp ht hv hs hd hi
 have he:e=fun _=>none:=funext fun id=>hd id rfl
 subst he
 refine (h w pub vs ht hv).mono ?_
 rintro en w' ⟨⟨v,rfl,hV⟩,hb⟩
 exact ⟨pub,_,And.intro (fun b pv u h=>by cases h) (And.intro (hV _) (After.below hp (fun _=>rfl) hb))⟩
theorem VL.two_str {Ω:Om} {a b:Str} {vs:List Value} (h:VL Ω [.str a,.str b] vs):vs=[.string ⟨a.toArray⟩,.string ⟨b.toArray⟩]/\a.length<=aM/\b.length<=aM:=by
 obtain ⟨v1,v2,rfl,h1,h2⟩:=VL.two_inv h
 obtain ⟨rfl,l1⟩:=h1.str_inv
 obtain ⟨rfl,l2⟩:=h2.str_inv
 exact ⟨rfl,l1,l2⟩
def xT:Pat:=p2 .str .str fun a b=>⟨some (b=nr),none,.str (nt a),[]⟩
set_option maxRecDepth 100000 in
theorem wG (b:UInt8):nr.contains b=kW b:=by
 have h:∀b:Fin 256,nr.contains (UInt8.ofNat b.val)=kW (UInt8.ofNat b.val):=by decide
 have:=h ⟨b.toNat,b.toNat_lt⟩
 simpa using this
theorem sM {f:Nat} (L:Lays.n160 P ρ) (h116:(P.info? (ρ.t 116)).map (fun i=>(i.zero,i.size))=some (some (.agg (Array.replicate 256 (.bool false))),256)) (hf:ρ.f 160=f) (he:aS P f):aL P f xT:=by
 subst hf
 refine fF he fun a b _ _ ho=>?_
 have hb:=ho _ rfl
 subst hb
 refine eH fun w pub vs _ hv=>?_
 obtain ⟨rfl,l1,l2⟩:=VL.two_str hv
 have l1':a.length<=9223372036854775807:=l1
 refine (Any.strings_Trim_laid L h116 ⟨a.toArray⟩ ⟨nr.toArray⟩ w (by simpa [ByteArray.size] using l1') (by decide) (fun j b hj=>?_)).mono ?_
 ·have hd:∀b∈nr,b.toNat < 128:=by decide
  exact hd b (List.mem_of_getElem? hj)
 ·rintro en w' ⟨rfl,hb⟩
  refine ⟨⟨_,rfl,fun Ω=>?_⟩,hb⟩
  have e:Lib.trimS a nr=nt a:=by
   have ef:(fun b=>nr.contains b)=kW:=funext wG
   unfold Lib.trimS Lib.trimLeftS Lib.trimRightS nt
   rw [ef]
  have e2:(⟨a.toArray⟩:ByteArray).data.toList=a:=rfl
  have e3:(⟨nr.toArray⟩:ByteArray).data.toList=nr:=rfl
  rw [e2,e3,e]
  exact .str _ (Nat.le_trans (wD a) l1)
def yT:Pat:=p2 .str .str fun a b=>⟨some (b=[45]/\a.length < 4294967281),none,.tup [.str (fO a),.str (jf a),.bool (kq a)],[]⟩
theorem vd {f:Nat} {m:Int} (L:Lays.n145 P ρ) (hm:Tabs.tab (ρ.g 1) 0 (.int .i64 m)) (hf:ρ.f 145=f) (he:aS P f):aL P f yT:=by
 subst hf
 refine fF he fun a b _ _ ho=>?_
 obtain ⟨hb,hl⟩:=ho _ rfl
 subst hb
 refine eH fun w pub vs ht hv=>?_
 obtain ⟨rfl,l1,l2⟩:=VL.two_str hv
 refine (Any.strings_Cut L ⟨a.toArray⟩ ⟨([45]:Str).toArray⟩ m w (by simpa [ByteArray.size] using hl) (ht.1 _ _ _ hm).2).mono ?_
 rintro en w' ⟨rfl,n,rfl⟩
 refine ⟨⟨_,rfl,fun Ω=>?_⟩,Below.drawn w n⟩
 have e2:(⟨a.toArray⟩:ByteArray).data.toList=a:=rfl
 have e3:(⟨([45]:Str).toArray⟩:ByteArray).data.toList=[45]:=rfl
 rw [e2,e3,wF]
 refine V.of_tup (VL.cons (.str _ ?_) (VL.cons (.str _ ?_) (VL.cons (.bool _) .nil)))
 ·exact Nat.le_trans (vc a) l1
 ·unfold jf
  rw [List.length_drop]
  exact Nat.le_trans (Nat.sub_le _ _) l1
def r8:Pat:=p2 .str .str fun a b=>⟨some (b.length=1),none,.bool (decide (b.getD 0 0∈a)),[]⟩
theorem nw {f:Nat} (L:Lays.n144 P ρ) (hf:ρ.f 144=f) (he:aS P f):aL P f r8:=by
 subst hf
 refine fF he fun a b _ _ ho=>?_
 have hb:b.length=1:=ho _ rfl
 obtain ⟨c,rfl⟩:∃c,b=[c]:=by
  match b,hb with
  | [c],_=>exact ⟨c,rfl⟩
 refine eH fun w pub vs ht hv=>?_
 obtain ⟨rfl,l1,l2⟩:=VL.two_str hv
 refine (Any.strings_Contains_one L ⟨a.toArray⟩ c w).mono ?_
 rintro en w' ⟨rfl,rfl⟩
 refine ⟨⟨_,rfl,fun Ω=>?_⟩,Below.refl _ _⟩
 have e2:(⟨a.toArray⟩:ByteArray).data.toList=a:=rfl
 rw [e2,r6]
 exact .bool _
def pS:Pat:=p2 .str (.int .u8) fun a c=>.ret (.int .i64 (wC a c))
theorem l9 {f:Nat} (L:Lays.n137 P ρ) (hf:ρ.f 137=f) (he:aS P f):aL P f pS:=by
 subst hf
 refine fF he fun a c _ _ ho=>?_
 refine eH fun w pub vs ht hv=>?_
 obtain ⟨v1,v2,rfl,h1,h2⟩:=VL.two_inv hv
 obtain ⟨rfl,l1⟩:=h1.str_inv
 obtain ⟨rfl,c1,c2⟩:=(show V _ (.int .u8 c) v2 from h2).int_inv
 have c1:(0:Int)<=c:=c1
 have c2:c<=(255:Int):=c2
 refine (Any.strings_IndexByte L ⟨a.toArray⟩ c w).mono ?_
 rintro en w' ⟨rfl,rfl⟩
 refine ⟨⟨_,rfl,fun Ω=>?_⟩,Below.refl _ _⟩
 have e2:(⟨a.toArray⟩:ByteArray).data.toList=a:=rfl
 have e:wC a c=Lib.indexByte a c.toNat.toUInt8:=by
  unfold wC
  rw [xS a c c1 c2 0]
  split
  ·rename_i h;exact h.symm
  ·simp
 rw [e2,e]
 have hg:=Lib.indexByte_ge a c.toNat.toUInt8
 have hu:Lib.indexByte a c.toNat.toUInt8<=(a.length:Int):=by
  by_cases q:Lib.indexByte a c.toNat.toUInt8=-1
  ·omega
  ·obtain ⟨k,k1,k2,_⟩:=dI q
   omega
 have l1':a.length<=9223372036854775807:=l1
 have b1:inR .i64 (Lib.indexByte a c.toNat.toUInt8):=gD (by omega) (by omega)
 exact .int _ _ b1.1 b1.2
def wH:Pat:=p2 .str .str fun a b=>⟨some (b=[46]/\a.length < 4294967281),none,.lst .str (splitB 46 a) none,[]⟩
theorem ny (c:UInt8):∀(s:Str),∀x∈splitB c s,x.length<=s.length
 | [],x,h=>by rw [List.mem_singleton.1 h];exact Nat.le_refl _
 | b ::r,x,h=>by
  have ih:=ny c r
  unfold splitB at h
  split at h
  ·rcases List.mem_cons.1 h with e | e
   ·rw [e];exact Nat.zero_le _
   ·have:=ih x e;rw [List.length_cons];omega
  ·split at h
   ·rw [List.mem_singleton.1 h,List.length_cons];simp
   ·rename_i p ps e0
    rcases List.mem_cons.1 h with e | e
    ·have:=ih p (by rw [e0];exact List.mem_cons_self ..)
     rw [e,List.length_cons,List.length_cons]
     omega
    ·have:=ih x (by rw [e0];exact List.mem_cons_of_mem _ e)
     rw [List.length_cons]
     omega
theorem rf {f:Nat} {m:Int} (L:Lays.n146 P ρ) (hi9:(P.info? (ρ.t 9)).map (fun i=>(i.zero,i.size,i.bytes))=some (some (.string ByteArray.empty),1,16)) (hm:Tabs.tab (ρ.g 1) 0 (.int .i64 m)) (hf:ρ.f 146=f) (he:aS P f):aL P f wH:=by
 subst hf
 refine fF he fun a b _ _ ho=>?_
 obtain ⟨hb,hl⟩:=ho _ rfl
 subst hb
 intro w pub e vs hp ht hv hs hd hi
 obtain ⟨rfl,l1,l2⟩:=VL.two_str hv
 have l1':a.length<=9223372036854775807:=l1
 refine (Any.strings_Split L hi9 ⟨a.toArray⟩ ⟨([46]:Str).toArray⟩ m w (by simpa [ByteArray.size] using hl) (ht.1 _ _ _ hm).2 (by decide)).mono ?_
 rintro en w' ⟨rfl,rfl⟩
 have e2:(⟨a.toArray⟩:ByteArray).data.toList=a:=rfl
 have e3:(⟨([46]:Str).toArray⟩:ByteArray).data.toList=[46]:=rfl
 have hcount:Lib.countB ⟨a.toArray⟩ ⟨([46]:Str).toArray⟩=a.count 46:=by
  show Lib.count a [46]=_
  rw [Lib.count_one]
 have hsp:(Lib.splitB ⟨([46]:Str).toArray⟩ 0 (Lib.countB ⟨a.toArray⟩ ⟨([46]:Str).toArray⟩) ⟨a.toArray⟩).map (·.data.toList)=splitB 46 a:=by
  rw [Lib.splitB_data,hcount]
  exact nv 46 a.length a (Nat.le_refl _)
 generalize Lib.splitB ⟨([46]:Str).toArray⟩ 0 (Lib.countB ⟨a.toArray⟩ ⟨([46]:Str).toArray⟩) ⟨a.toArray⟩=bs at hsp
 have hcl:(splitB 46 a).length=Lib.countB ⟨a.toArray⟩ ⟨([46]:Str).toArray⟩+1:=by
  rw [hcount]
  have:∀s:Str,(splitB 46 s).length=s.count 46+1:=by
   intro s
   induction s with
   | nil=>rfl
   | cons b r ih=>
    unfold splitB
    split
    ·rename_i h
     subst h
     rw [List.length_cons,ih,List.count_cons_self]
    ·rename_i h
     rw [List.count_cons_of_ne h]
     split
     ·rename_i e0;rw [e0] at ih;simp at ih
     ·rename_i p ps e0
      rw [e0] at ih
      simpa using ih
  exact this a
 have hbl:bs.length=(splitB 46 a).length:=by rw [←hsp,List.length_map]
 have hsz:=iT 46 a
 rw [←hcl]
 have hnew:(w.alloc (.cells (bs.map Value.string).toArray (ρ.t 9))).heap[w.heap.size]?=some (.cells (bs.map Value.string).toArray (ρ.t 9) (0,0)):=aT _ _
 have hbw:Below w.heap.size w (w.alloc (.cells (bs.map Value.string).toArray (ρ.t 9))):=⟨rfl,rfl,rfl,by simp,fun b hb=>eD _ _ _ hb⟩
 refine ⟨fun b o=>pub b o∨(b=w.heap.size/\o < bs.length),e,And.intro (fun b pv u h=>by cases h) (And.intro ?_ (After.news hp (fun id=>hd id rfl) hbw (p:=fun o=>o < bs.length) (fun o ho=>?_)))⟩
 ·refine my (Ω:=⟨e,w.alloc (.cells (bs.map Value.string).toArray (ρ.t 9)),fun b o=>pub b o∨(b=w.heap.size/\o < bs.length)⟩) (τ:=.str) (xs:=splitB 46 a) (vs:=bs.map Value.string) hnew ?_ ?_ (Nat.le_refl _) (by unfold aM;omega) (fun i hi=>.inr ⟨rfl,by rw [hbl];simpa [a7] using hi⟩) (fun id hid=>by cases hid)
  ·have e1:(splitB 46 a).length *a7 .str=bs.length:=by rw [hbl];exact Nat.mul_one _
   rw [e1]
   exact List.take_of_length_le (by simp)
  ·have ef:flat .str (splitB 46 a)=(splitB 46 a).map AV.str:=by
    unfold flat
    rw [List.map_eq_flatMap]
    rfl
   rw [ef,←hsp]
   refine ⟨by simp,fun j c v hc hv=>?_⟩
   rw [List.map_map,List.getElem?_map,Option.map_eq_some_iff] at hc
   rw [List.getElem?_map,Option.map_eq_some_iff] at hv
   obtain ⟨x,hx,rfl⟩:=hc
   obtain ⟨y,hy,rfl⟩:=hv
   rw [hx] at hy
   cases hy
   have hmem:x.data.toList∈splitB 46 a:=by rw [←hsp];exact List.mem_map_of_mem (List.mem_of_getElem? hx)
   have hle:=ny 46 a _ hmem
   have:=V.str (Ω:=⟨e,w.alloc (.cells (bs.map Value.string).toArray (ρ.t 9)),fun b o=>pub b o∨(b=w.heap.size/\o < bs.length)⟩) x.data.toList (Nat.le_trans hle l1)
   exact this
 ·rw [ae hnew]
  exact ⟨_,Array.getElem?_eq_getElem (by simpa using ho)⟩
def lE [Tabs] (g3 g4:Nat):Prop:=
 (∀c,c < 256→Tabs.tab g3 c (.int .u8 (Lib.firstT c)))/\(∀i,i < 16→Tabs.tab g4 (2 *i) (.int .u8 (Lib.accLo i))/\Tabs.tab g4 (2 *i+1) (.int .u8 (Lib.accHi i)))
theorem lE.tabs {g3 g4:Nat} (h:lE g3 g4) {w:World} {pub:Nat→Nat→Prop} {e:Nat→Option CObj} (ht:gT w pub e):Lib.Utf8Tabs g3 g4 w:=
 ⟨fun c hc=>(ht.1 _ _ _ (h.1 c hc)).2,fun i hi=>⟨(ht.1 _ _ _ (h.2 i hi).1).2,(ht.1 _ _ _ (h.2 i hi).2).2⟩⟩
theorem xU (s:Str) (k:Nat) (h:k < s.length):((⟨s.toArray⟩:ByteArray).get! k)=s.getD k 0:=by
 rw [Utf8W.get!_of_lt _ k (by simpa [ByteArray.size] using h)]
 have:(⟨s.toArray⟩:ByteArray)[k]'(by simpa [ByteArray.size] using h)=s[k]:=rfl
 rw [this]
 simp [List.getD_eq_getElem?_getD,h]
theorem rh (n b0 b1 b2 b3 c1 c2 c3:Nat) (h1:1 < n→b1=c1) (h2:2 < n→b2=c2) (h3:3 < n→b3=c3):Lib.decodeN n b0 b1 b2 b3=Lib.decodeN n b0 c1 c2 c3:=by
 rcases Nat.lt_or_ge 3 n with k | k
 ·rw [h1 (by omega),h2 (by omega),h3 k]
 rcases Nat.lt_or_ge 2 n with k2 | k2
 ·rw [h1 (by omega),h2 k2]
  unfold Lib.decodeN
  have e:¬3 < n:=by omega
  simp only [e,false_and,and_false,if_false]
 rcases Nat.lt_or_ge 1 n with k1 | k1
 ·rw [h1 k1]
  unfold Lib.decodeN
  have e:¬3 < n:=by omega
  have e':¬2 < n:=by omega
  simp only [e,e',false_and,and_false,if_false]
 ·unfold Lib.decodeN
  have e:¬3 < n:=by omega
  have e':¬2 < n:=by omega
  have e'':¬1 < n:=by omega
  simp only [e,e',e'',false_and,and_false,if_false]
theorem ri (s:Str):Lib.decodeGo ⟨s.toArray⟩=gK s:=by
 unfold Lib.decodeGo gK
 have hs:(⟨s.toArray⟩:ByteArray).size=s.length:=by simp [ByteArray.size]
 rw [hs]
 by_cases h:s=[]
 ·subst h;rfl
 have hl:=List.length_pos_iff.2 h
 rw [if_neg (by omega),if_neg h,Lib.decode_at,hs,Nat.sub_zero,xU s 0 hl]
 exact rh _ _ _ _ _ _ _ _ (fun k=>by rw [xU s 1 k]) (fun k=>by rw [xU s 2 k]) (fun k=>by rw [xU s 3 k])
def nX:Pat:=p1 .str fun s=>.ret (.tup [.int .i32 ((gK s).1:Int),.int .i64 ((gK s).2:Int)])
theorem sO (s:Str):(gK s).1<=1114111/\(gK s).2<=s.length:=by
 by_cases h:s=[]
 ·subst h;decide
 ·have:=wE h
  exact ⟨this.2.2.1,this.2.2.2.2⟩
theorem kr {f:Nat} (L:Lays.n197 P ρ) (hu:lE (ρ.g 3) (ρ.g 4)) (hf:ρ.f 197=f) (he:aS P f):aL P f nX:=by
 subst hf
 refine fg he fun s _ ho=>?_
 refine eH fun w pub vs ht hv=>?_
 obtain ⟨v,rfl,h1⟩:=VL.one_inv hv
 obtain ⟨rfl,hl⟩:=h1.str_inv
 have hl':s.length<=9223372036854775807:=hl
 refine (Any.utf8_DecodeRuneInString L ⟨s.toArray⟩ w (hu.tabs ht)).mono ?_
 rintro en w' ⟨rfl,hb⟩
 refine ⟨⟨_,rfl,fun Ω=>?_⟩,hb⟩
 rw [ri]
 obtain ⟨d1,d2⟩:=sO s
 exact V.of_tup (VL.cons (.int .i32 _ (by show (-2147483648:Int)<=_;omega) (by show _<=(2147483647:Int);omega)) (VL.cons (.int .i64 _ (by show (-9223372036854775808:Int)<=_;omega) (by show _<=(9223372036854775807:Int);omega)) .nil))
end Go.AL
end
section
namespace Go.Proofs
open Go.Shelf
def Tryz.lays160_ren:Go.Shelf.Ren:=⟨fun | 160=>119 | 232=>167 | 231=>166 | 227=>168 | 234=>170 | 233=>169 | 236=>172 | 235=>171 | 228=>217 | 271=>219 | 151=>218 | 197=>165 | 120=>261 | 152=>260 | 260=>216 | 137=>175 | 119=>285 | 224=>271 | 225=>270 | 217=>223 | 266=>267 | n=>n,fun | 9=>9 | 4=>4 | 3=>3 | 5=>5 | 117=>218 | 116=>217 | 0=>0 | 124=>221 | 21=>21 | 105=>213 | 46=>161 | 119=>271 | 139=>274 | 138=>273 | n=>n,fun | 3=>0 | 4=>1 | n=>n⟩
theorem Tryz.lays160:Go.Proofs.Lays.n160 Tryz.prog Tryz.lays160_ren:={
 mixed:=by kernel_rfl
 f119:=Xt Tryz.func285
 f120:=Xt Tryz.func261
 f137:=Xt Tryz.func175
 f151:=Xt Tryz.func218
 f152:=Xt Tryz.func260
 f160:=Xt Tryz.func119
 f197:=Xt Tryz.func165
 f217:=Xt Tryz.func223
 f224:=Xt Tryz.func271
 f225:=Xt Tryz.func270
 f227:=Xt Tryz.func168
 f228:=Xt Tryz.func217
 f231:=Xt Tryz.func166
 f232:=Xt Tryz.func167
 f233:=Xt Tryz.func169
 f234:=Xt Tryz.func170
 f235:=Xt Tryz.func171
 f236:=Xt Tryz.func172
 f260:=Xt Tryz.func216
 f266:=Xt Tryz.func267
 f271:=Xt Tryz.func219
 t0:=Tryz.underlying0
 a0:=Tryz.isAgg0
 z0:=Tryz.sizeOf0
 v0:=Tryz.zeroValue0
 t3:=Tryz.underlying3
 a3:=Tryz.isAgg3
 z3:=Tryz.sizeOf3
 v3:=Tryz.zeroValue3
 t4:=Tryz.underlying4
 a4:=Tryz.isAgg4
 z4:=Tryz.sizeOf4
 v4:=Tryz.zeroValue4
 t5:=Tryz.underlying5
 a5:=Tryz.isAgg5
 z5:=Tryz.sizeOf5
 v5:=Tryz.zeroValue5
 t9:=Tryz.underlying9
 a9:=Tryz.isAgg9
 z9:=Tryz.sizeOf9
 v9:=Tryz.zeroValue9
 t21:=Tryz.underlying21
 a21:=Tryz.isAgg21
 z21:=Tryz.sizeOf21
 v21:=Tryz.zeroValue21
 t46:=Tryz.underlying161
 a46:=Tryz.isAgg161
 z46:=Tryz.sizeOf161
 v46:=Tryz.zeroValue161
 t105:=Tryz.underlying213
 a105:=Tryz.isAgg213
 z105:=Tryz.sizeOf213
 v105:=Tryz.zeroValue213
 t116:=Tryz.underlying217
 a116:=Tryz.isAgg217
 z116:=Tryz.sizeOf217
 t117:=Tryz.underlying218
 a117:=Tryz.isAgg218
 z117:=Tryz.sizeOf218
 v117:=Tryz.zeroValue218
 t119:=Tryz.underlying271
 a119:=Tryz.isAgg271
 z119:=Tryz.sizeOf271
 t124:=Tryz.underlying221
 a124:=Tryz.isAgg221
 z124:=Tryz.sizeOf221
 v124:=Tryz.zeroValue221
 t138:=Tryz.underlying273
 a138:=Tryz.isAgg273
 z138:=Tryz.sizeOf273
 v138:=Tryz.zeroValue273
 t139:=Tryz.underlying274
 a139:=Tryz.isAgg274
 z139:=Tryz.sizeOf274
 v139:=Tryz.zeroValue274
 g3:=by kernel_rfl
 g4:=by kernel_rfl}
def Tryz.lays145_ren:Go.Shelf.Ren:=⟨fun | 145=>173 | 220=>220 | 219=>233 | 217=>223 | 225=>270 | 224=>271 | 267=>272 | 266=>267 | 314=>290 | n=>n,fun | 9=>9 | 4=>4 | 59=>222 | 3=>3 | 5=>5 | 46=>161 | 146=>294 | 51=>210 | n=>n,fun | 1=>2 | n=>n⟩
theorem Tryz.lays145:Go.Proofs.Lays.n145 Tryz.prog Tryz.lays145_ren:={
 mixed:=by kernel_rfl
 f145:=Xt Tryz.func173
 f217:=Xt Tryz.func223
 f219:=Xt Tryz.func233
 f220:=Xt Tryz.func220
 f224:=Xt Tryz.func271
 f225:=Xt Tryz.func270
 f266:=Xt Tryz.func267
 f267:=Xt Tryz.func272
 f314:=Xt Tryz.func290
 t3:=Tryz.underlying3
 a3:=Tryz.isAgg3
 z3:=Tryz.sizeOf3
 v3:=Tryz.zeroValue3
 t4:=Tryz.underlying4
 a4:=Tryz.isAgg4
 z4:=Tryz.sizeOf4
 v4:=Tryz.zeroValue4
 t5:=Tryz.underlying5
 a5:=Tryz.isAgg5
 z5:=Tryz.sizeOf5
 v5:=Tryz.zeroValue5
 t9:=Tryz.underlying9
 a9:=Tryz.isAgg9
 z9:=Tryz.sizeOf9
 v9:=Tryz.zeroValue9
 t46:=Tryz.underlying161
 a46:=Tryz.isAgg161
 z46:=Tryz.sizeOf161
 v46:=Tryz.zeroValue161
 t51:=Tryz.underlying210
 a51:=Tryz.isAgg210
 z51:=Tryz.sizeOf210
 v51:=Tryz.zeroValue210
 t59:=Tryz.underlying222
 a59:=Tryz.isAgg222
 z59:=Tryz.sizeOf222
 v59:=Tryz.zeroValue222
 t146:=Tryz.underlying294
 a146:=Tryz.isAgg294
 z146:=Tryz.sizeOf294
 v146:=Tryz.zeroValue294
 g1:=by kernel_rfl}
def Tryz.lays146_ren:Go.Shelf.Ren:=⟨fun | 146=>87 | 221=>132 | 268=>190 | 138=>191 | 143=>192 | 195=>231 | 197=>165 | 218=>232 | 219=>233 | 260=>216 | 217=>223 | 225=>270 | 224=>271 | 267=>272 | 266=>267 | 314=>290 | n=>n,fun | 9=>9 | 31=>24 | 3=>3 | 4=>4 | 0=>0 | 105=>213 | 21=>21 | 5=>5 | 46=>161 | 119=>271 | 139=>274 | 138=>273 | 146=>294 | 51=>210 | n=>n,fun | 1=>2 | 3=>0 | 4=>1 | n=>n⟩
theorem Tryz.lays146:Go.Proofs.Lays.n146 Tryz.prog Tryz.lays146_ren:={
 mixed:=by kernel_rfl
 f138:=Xt Tryz.func191
 f143:=Xt Tryz.func192
 f146:=Xt Tryz.func87
 f195:=Xt Tryz.func231
 f197:=Xt Tryz.func165
 f217:=Xt Tryz.func223
 f218:=Xt Tryz.func232
 f219:=Xt Tryz.func233
 f221:=Xt Tryz.func132
 f224:=Xt Tryz.func271
 f225:=Xt Tryz.func270
 f260:=Xt Tryz.func216
 f266:=Xt Tryz.func267
 f267:=Xt Tryz.func272
 f268:=Xt Tryz.func190
 f314:=Xt Tryz.func290
 t0:=Tryz.underlying0
 a0:=Tryz.isAgg0
 z0:=Tryz.sizeOf0
 v0:=Tryz.zeroValue0
 t3:=Tryz.underlying3
 a3:=Tryz.isAgg3
 z3:=Tryz.sizeOf3
 v3:=Tryz.zeroValue3
 t4:=Tryz.underlying4
 a4:=Tryz.isAgg4
 z4:=Tryz.sizeOf4
 v4:=Tryz.zeroValue4
 t5:=Tryz.underlying5
 a5:=Tryz.isAgg5
 z5:=Tryz.sizeOf5
 v5:=Tryz.zeroValue5
 t9:=Tryz.underlying9
 a9:=Tryz.isAgg9
 z9:=Tryz.sizeOf9
 v9:=Tryz.zeroValue9
 t21:=Tryz.underlying21
 a21:=Tryz.isAgg21
 z21:=Tryz.sizeOf21
 v21:=Tryz.zeroValue21
 t31:=Tryz.underlying24
 a31:=Tryz.isAgg24
 z31:=Tryz.sizeOf24
 v31:=Tryz.zeroValue24
 t46:=Tryz.underlying161
 a46:=Tryz.isAgg161
 z46:=Tryz.sizeOf161
 v46:=Tryz.zeroValue161
 t51:=Tryz.underlying210
 a51:=Tryz.isAgg210
 z51:=Tryz.sizeOf210
 v51:=Tryz.zeroValue210
 t105:=Tryz.underlying213
 a105:=Tryz.isAgg213
 z105:=Tryz.sizeOf213
 v105:=Tryz.zeroValue213
 t119:=Tryz.underlying271
 a119:=Tryz.isAgg271
 z119:=Tryz.sizeOf271
 t138:=Tryz.underlying273
 a138:=Tryz.isAgg273
 z138:=Tryz.sizeOf273
 v138:=Tryz.zeroValue273
 t139:=Tryz.underlying274
 a139:=Tryz.isAgg274
 z139:=Tryz.sizeOf274
 v139:=Tryz.zeroValue274
 t146:=Tryz.underlying294
 a146:=Tryz.isAgg294
 z146:=Tryz.sizeOf294
 v146:=Tryz.zeroValue294
 g1:=by kernel_rfl
 g3:=by kernel_rfl
 g4:=by kernel_rfl}
def Tryz.lays144_ren:Go.Shelf.Ren:=⟨fun | 144=>177 | 143=>192 | 219=>233 | 217=>223 | 225=>270 | 224=>271 | 267=>272 | 266=>267 | 314=>290 | n=>n,fun | 9=>9 | 4=>4 | 3=>3 | 5=>5 | 46=>161 | 146=>294 | 51=>210 | n=>n,fun | 1=>2 | n=>n⟩
theorem Tryz.lays144:Go.Proofs.Lays.n144 Tryz.prog Tryz.lays144_ren:={
 mixed:=by kernel_rfl
 f143:=Xt Tryz.func192
 f144:=Xt Tryz.func177
 f217:=Xt Tryz.func223
 f219:=Xt Tryz.func233
 f224:=Xt Tryz.func271
 f225:=Xt Tryz.func270
 f266:=Xt Tryz.func267
 f267:=Xt Tryz.func272
 f314:=Xt Tryz.func290
 t3:=Tryz.underlying3
 a3:=Tryz.isAgg3
 z3:=Tryz.sizeOf3
 v3:=Tryz.zeroValue3
 t4:=Tryz.underlying4
 a4:=Tryz.isAgg4
 z4:=Tryz.sizeOf4
 v4:=Tryz.zeroValue4
 t5:=Tryz.underlying5
 a5:=Tryz.isAgg5
 z5:=Tryz.sizeOf5
 v5:=Tryz.zeroValue5
 t9:=Tryz.underlying9
 a9:=Tryz.isAgg9
 z9:=Tryz.sizeOf9
 v9:=Tryz.zeroValue9
 t46:=Tryz.underlying161
 a46:=Tryz.isAgg161
 z46:=Tryz.sizeOf161
 v46:=Tryz.zeroValue161
 t51:=Tryz.underlying210
 a51:=Tryz.isAgg210
 z51:=Tryz.sizeOf210
 v51:=Tryz.zeroValue210
 t146:=Tryz.underlying294
 a146:=Tryz.isAgg294
 z146:=Tryz.sizeOf294
 v146:=Tryz.zeroValue294
 g1:=by kernel_rfl}
def Tryz.lays137_ren:Go.Shelf.Ren:=⟨fun | 137=>175 | 217=>223 | 266=>267 | n=>n,fun | 9=>9 | 5=>5 | 3=>3 | n=>n,fun | n=>n⟩
theorem Tryz.lays137:Go.Proofs.Lays.n137 Tryz.prog Tryz.lays137_ren:={
 mixed:=by kernel_rfl
 f137:=Xt Tryz.func175
 f217:=Xt Tryz.func223
 f266:=Xt Tryz.func267
 t3:=Tryz.underlying3
 a3:=Tryz.isAgg3
 z3:=Tryz.sizeOf3
 v3:=Tryz.zeroValue3
 t5:=Tryz.underlying5
 a5:=Tryz.isAgg5
 z5:=Tryz.sizeOf5
 v5:=Tryz.zeroValue5
 t9:=Tryz.underlying9
 a9:=Tryz.isAgg9
 z9:=Tryz.sizeOf9
 v9:=Tryz.zeroValue9}
def Tryz.lays197_ren:Go.Shelf.Ren:=⟨fun | 197=>165 | 260=>216 | n=>n,fun | 9=>9 | 21=>21 | 3=>3 | 4=>4 | 5=>5 | 105=>213 | 119=>271 | 0=>0 | 46=>161 | 139=>274 | 138=>273 | n=>n,fun | 3=>0 | 4=>1 | n=>n⟩
theorem Tryz.lays197:Go.Proofs.Lays.n197 Tryz.prog Tryz.lays197_ren:={
 mixed:=by kernel_rfl
 f197:=Xt Tryz.func165
 f260:=Xt Tryz.func216
 t0:=Tryz.underlying0
 a0:=Tryz.isAgg0
 z0:=Tryz.sizeOf0
 v0:=Tryz.zeroValue0
 t3:=Tryz.underlying3
 a3:=Tryz.isAgg3
 z3:=Tryz.sizeOf3
 v3:=Tryz.zeroValue3
 t4:=Tryz.underlying4
 a4:=Tryz.isAgg4
 z4:=Tryz.sizeOf4
 v4:=Tryz.zeroValue4
 t5:=Tryz.underlying5
 a5:=Tryz.isAgg5
 z5:=Tryz.sizeOf5
 v5:=Tryz.zeroValue5
 t9:=Tryz.underlying9
 a9:=Tryz.isAgg9
 z9:=Tryz.sizeOf9
 v9:=Tryz.zeroValue9
 t21:=Tryz.underlying21
 a21:=Tryz.isAgg21
 z21:=Tryz.sizeOf21
 v21:=Tryz.zeroValue21
 t46:=Tryz.underlying161
 a46:=Tryz.isAgg161
 z46:=Tryz.sizeOf161
 v46:=Tryz.zeroValue161
 t105:=Tryz.underlying213
 a105:=Tryz.isAgg213
 z105:=Tryz.sizeOf213
 v105:=Tryz.zeroValue213
 t119:=Tryz.underlying271
 a119:=Tryz.isAgg271
 z119:=Tryz.sizeOf271
 t138:=Tryz.underlying273
 a138:=Tryz.isAgg273
 z138:=Tryz.sizeOf273
 v138:=Tryz.zeroValue273
 t139:=Tryz.underlying274
 a139:=Tryz.isAgg274
 z139:=Tryz.sizeOf274
 v139:=Tryz.zeroValue274
 g3:=by kernel_rfl
 g4:=by kernel_rfl}
def Tryz.lays196_ren:Go.Shelf.Ren:=⟨fun | 196=>276 | 259=>291 | n=>n,fun | 9=>9 | 4=>4 | 3=>3 | 5=>5 | 12=>12 | 119=>271 | 0=>0 | 46=>161 | 139=>274 | 138=>273 | 53=>212 | n=>n,fun | 3=>0 | 4=>1 | n=>n⟩
theorem Tryz.lays196:Go.Proofs.Lays.n196 Tryz.prog Tryz.lays196_ren:={
 mixed:=by kernel_rfl
 f196:=Xt Tryz.func276
 f259:=Xt Tryz.func291
 t0:=Tryz.underlying0
 a0:=Tryz.isAgg0
 z0:=Tryz.sizeOf0
 v0:=Tryz.zeroValue0
 t3:=Tryz.underlying3
 a3:=Tryz.isAgg3
 z3:=Tryz.sizeOf3
 v3:=Tryz.zeroValue3
 t4:=Tryz.underlying4
 a4:=Tryz.isAgg4
 z4:=Tryz.sizeOf4
 v4:=Tryz.zeroValue4
 t5:=Tryz.underlying5
 a5:=Tryz.isAgg5
 z5:=Tryz.sizeOf5
 v5:=Tryz.zeroValue5
 t9:=Tryz.underlying9
 a9:=Tryz.isAgg9
 z9:=Tryz.sizeOf9
 v9:=Tryz.zeroValue9
 t12:=Tryz.underlying12
 a12:=Tryz.isAgg12
 z12:=Tryz.sizeOf12
 v12:=Tryz.zeroValue12
 t46:=Tryz.underlying161
 a46:=Tryz.isAgg161
 z46:=Tryz.sizeOf161
 v46:=Tryz.zeroValue161
 t53:=Tryz.underlying212
 a53:=Tryz.isAgg212
 z53:=Tryz.sizeOf212
 v53:=Tryz.zeroValue212
 t119:=Tryz.underlying271
 a119:=Tryz.isAgg271
 z119:=Tryz.sizeOf271
 t138:=Tryz.underlying273
 a138:=Tryz.isAgg273
 z138:=Tryz.sizeOf273
 v138:=Tryz.zeroValue273
 t139:=Tryz.underlying274
 a139:=Tryz.isAgg274
 z139:=Tryz.sizeOf274
 v139:=Tryz.zeroValue274
 g3:=by kernel_rfl
 g4:=by kernel_rfl}
end Go.Proofs
end
section
namespace Go.Proofs
open Go.Shelf
def Tryz.lays190_ren:Go.Shelf.Ren:=⟨fun | 190=>144 | 125=>100 | 258=>205 | 128=>154 | 129=>155 | 302=>244 | 303=>245 | 304=>246 | 305=>247 | 306=>248 | 307=>249 | 308=>250 | 309=>251 | 310=>252 | 333=>280 | 329=>207 | 330=>208 | 334=>281 | 335=>282 | 336=>60 | 344=>293 | n=>n,fun | 31=>24 | 9=>9 | 3=>3 | 46=>161 | 0=>0 | 51=>210 | 53=>212 | 4=>4 | 183=>203 | 182=>202 | 131=>207 | 5=>5 | 218=>247 | 222=>251 | 228=>265 | 229=>197 | n=>n,fun | n=>n⟩
theorem Tryz.lays190:Go.Proofs.Lays.n190 Tryz.prog Tryz.lays190_ren:={
 mixed:=by kernel_rfl
 f125:=Xt Tryz.func100
 f128:=Xt Tryz.func154
 f129:=Xt Tryz.func155
 f190:=Xt Tryz.func144
 f258:=Xt Tryz.func205
 f302:=Xt Tryz.func244
 f303:=Xt Tryz.func245
 f304:=Xt Tryz.func246
 f305:=Xt Tryz.func247
 f306:=Xt Tryz.func248
 f307:=Xt Tryz.func249
 f308:=Xt Tryz.func250
 f309:=Xt Tryz.func251
 f310:=Xt Tryz.func252
 f329:=Xt Tryz.func207
 f330:=Xt Tryz.func208
 f333:=Xt Tryz.func280
 f334:=Xt Tryz.func281
 f335:=Xt Tryz.func282
 f336:=Xt Tryz.func60
 f344:=Xt Tryz.func293
 t0:=Tryz.underlying0
 a0:=Tryz.isAgg0
 z0:=Tryz.sizeOf0
 v0:=Tryz.zeroValue0
 t3:=Tryz.underlying3
 a3:=Tryz.isAgg3
 z3:=Tryz.sizeOf3
 v3:=Tryz.zeroValue3
 t4:=Tryz.underlying4
 a4:=Tryz.isAgg4
 z4:=Tryz.sizeOf4
 v4:=Tryz.zeroValue4
 t5:=Tryz.underlying5
 a5:=Tryz.isAgg5
 z5:=Tryz.sizeOf5
 v5:=Tryz.zeroValue5
 t9:=Tryz.underlying9
 a9:=Tryz.isAgg9
 z9:=Tryz.sizeOf9
 v9:=Tryz.zeroValue9
 t31:=Tryz.underlying24
 a31:=Tryz.isAgg24
 z31:=Tryz.sizeOf24
 v31:=Tryz.zeroValue24
 t46:=Tryz.underlying161
 a46:=Tryz.isAgg161
 z46:=Tryz.sizeOf161
 v46:=Tryz.zeroValue161
 t51:=Tryz.underlying210
 a51:=Tryz.isAgg210
 z51:=Tryz.sizeOf210
 v51:=Tryz.zeroValue210
 t53:=Tryz.underlying212
 a53:=Tryz.isAgg212
 z53:=Tryz.sizeOf212
 v53:=Tryz.zeroValue212
 t131:=Tryz.underlying207
 a131:=Tryz.isAgg207
 z131:=Tryz.sizeOf207
 v131:=Tryz.zeroValue207
 t182:=Tryz.underlying202
 a182:=Tryz.isAgg202
 z182:=Tryz.sizeOf202
 v182:=Tryz.zeroValue202
 t183:=Tryz.underlying203
 a183:=Tryz.isAgg203
 z183:=Tryz.sizeOf203
 v183:=Tryz.zeroValue203
 t218:=Tryz.underlying247
 a218:=Tryz.isAgg247
 z218:=Tryz.sizeOf247
 v218:=Tryz.zeroValue247
 t222:=Tryz.underlying251
 a222:=Tryz.isAgg251
 z222:=Tryz.sizeOf251
 v222:=Tryz.zeroValue251
 t228:=Tryz.underlying265
 a228:=Tryz.isAgg265
 z228:=Tryz.sizeOf265
 v228:=Tryz.zeroValue265
 t229:=Tryz.underlying197
 a229:=Tryz.isAgg197
 z229:=Tryz.sizeOf197
 v229:=Tryz.zeroValue197}
def Tryz.lays194_ren:Go.Shelf.Ren:=⟨fun | 194=>97 | n=>n,fun | 31=>24 | 9=>9 | 3=>3 | 4=>4 | 0=>0 | n=>n,fun | n=>n⟩
theorem Tryz.lays194:Go.Proofs.Lays.n194 Tryz.prog Tryz.lays194_ren:={
 mixed:=by kernel_rfl
 f194:=Xt Tryz.func97
 t0:=Tryz.underlying0
 a0:=Tryz.isAgg0
 z0:=Tryz.sizeOf0
 v0:=Tryz.zeroValue0
 t3:=Tryz.underlying3
 a3:=Tryz.isAgg3
 z3:=Tryz.sizeOf3
 v3:=Tryz.zeroValue3
 t4:=Tryz.underlying4
 a4:=Tryz.isAgg4
 z4:=Tryz.sizeOf4
 v4:=Tryz.zeroValue4
 t9:=Tryz.underlying9
 a9:=Tryz.isAgg9
 z9:=Tryz.sizeOf9
 v9:=Tryz.zeroValue9
 t31:=Tryz.underlying24
 a31:=Tryz.isAgg24
 z31:=Tryz.sizeOf24
 v31:=Tryz.zeroValue24}
def Tryz.lays172_ren:Go.Shelf.Ren:=⟨fun | 172=>174 | 244=>221 | 245=>222 | 247=>262 | 279=>263 | 280=>264 | 281=>265 | 282=>266 | 287=>286 | 316=>287 | 171=>289 | 205=>288 | 321=>295 | 322=>296 | 243=>297 | 246=>300 | 283=>301 | 284=>302 | 285=>303 | 286=>304 | 129=>155 | 317=>305 | 318=>306 | 319=>307 | 320=>308 | 337=>309 | 338=>310 | n=>n,fun | 9=>9 | 3=>3 | 75=>226 | 76=>227 | 4=>4 | 5=>5 | 167=>276 | 37=>229 | 0=>0 | 85=>277 | 2=>2 | 168=>279 | 53=>212 | 175=>288 | 46=>161 | 210=>292 | 127=>301 | 145=>304 | 143=>302 | 21=>21 | 171=>306 | 173=>308 | 212=>311 | 51=>210 | 20=>20 | 213=>312 | 232=>313 | 233=>314 | 80=>315 | n=>n,fun | 15=>3 | 16=>4 | 17=>5 | 18=>6 | 19=>7 | n=>n⟩
theorem Tryz.lays172:Go.Proofs.Lays.n172 Tryz.prog Tryz.lays172_ren:={
 mixed:=by kernel_rfl
 f129:=Xt Tryz.func155
 f171:=Xt Tryz.func289
 f172:=Xt Tryz.func174
 f205:=Xt Tryz.func288
 f243:=Xt Tryz.func297
 f244:=Xt Tryz.func221
 f245:=Xt Tryz.func222
 f246:=Xt Tryz.func300
 f247:=Xt Tryz.func262
 f279:=Xt Tryz.func263
 f280:=Xt Tryz.func264
 f281:=Xt Tryz.func265
 f282:=Xt Tryz.func266
 f283:=Xt Tryz.func301
 f284:=Xt Tryz.func302
 f285:=Xt Tryz.func303
 f286:=Xt Tryz.func304
 f287:=Xt Tryz.func286
 f316:=Xt Tryz.func287
 f317:=Xt Tryz.func305
 f318:=Xt Tryz.func306
 f319:=Xt Tryz.func307
 f320:=Xt Tryz.func308
 f321:=Xt Tryz.func295
 f322:=Xt Tryz.func296
 f337:=Xt Tryz.func309
 f338:=Xt Tryz.func310
 t0:=Tryz.underlying0
 a0:=Tryz.isAgg0
 z0:=Tryz.sizeOf0
 v0:=Tryz.zeroValue0
 t2:=Tryz.underlying2
 a2:=Tryz.isAgg2
 z2:=Tryz.sizeOf2
 v2:=Tryz.zeroValue2
 t3:=Tryz.underlying3
 a3:=Tryz.isAgg3
 z3:=Tryz.sizeOf3
 v3:=Tryz.zeroValue3
 t4:=Tryz.underlying4
 a4:=Tryz.isAgg4
 z4:=Tryz.sizeOf4
 v4:=Tryz.zeroValue4
 t5:=Tryz.underlying5
 a5:=Tryz.isAgg5
 z5:=Tryz.sizeOf5
 v5:=Tryz.zeroValue5
 t9:=Tryz.underlying9
 a9:=Tryz.isAgg9
 z9:=Tryz.sizeOf9
 v9:=Tryz.zeroValue9
 t20:=Tryz.underlying20
 a20:=Tryz.isAgg20
 z20:=Tryz.sizeOf20
 v20:=Tryz.zeroValue20
 t21:=Tryz.underlying21
 a21:=Tryz.isAgg21
 z21:=Tryz.sizeOf21
 v21:=Tryz.zeroValue21
 t37:=Tryz.underlying229
 a37:=Tryz.isAgg229
 z37:=Tryz.sizeOf229
 v37:=Tryz.zeroValue229
 t46:=Tryz.underlying161
 a46:=Tryz.isAgg161
 z46:=Tryz.sizeOf161
 v46:=Tryz.zeroValue161
 t51:=Tryz.underlying210
 a51:=Tryz.isAgg210
 z51:=Tryz.sizeOf210
 v51:=Tryz.zeroValue210
 t53:=Tryz.underlying212
 a53:=Tryz.isAgg212
 z53:=Tryz.sizeOf212
 v53:=Tryz.zeroValue212
 t75:=Tryz.underlying226
 a75:=Tryz.isAgg226
 z75:=Tryz.sizeOf226
 v75:=Tryz.zeroValue226
 t76:=Tryz.underlying227
 a76:=Tryz.isAgg227
 z76:=Tryz.sizeOf227
 v76:=Tryz.zeroValue227
 t85:=Tryz.underlying277
 a85:=Tryz.isAgg277
 z85:=Tryz.sizeOf277
 v85:=Tryz.zeroValue277
 t127:=Tryz.underlying301
 a127:=Tryz.isAgg301
 z127:=Tryz.sizeOf301
 v127:=Tryz.zeroValue301
 t143:=Tryz.underlying302
 a143:=Tryz.isAgg302
 z143:=Tryz.sizeOf302
 v143:=Tryz.zeroValue302
 t145:=Tryz.underlying304
 a145:=Tryz.isAgg304
 z145:=Tryz.sizeOf304
 v145:=Tryz.zeroValue304
 t167:=Tryz.underlying276
 a167:=Tryz.isAgg276
 z167:=Tryz.sizeOf276
 v167:=Tryz.zeroValue276
 t168:=Tryz.underlying279
 a168:=Tryz.isAgg279
 z168:=Tryz.sizeOf279
 v168:=Tryz.zeroValue279
 t171:=Tryz.underlying306
 a171:=Tryz.isAgg306
 z171:=Tryz.sizeOf306
 v171:=Tryz.zeroValue306
 t173:=Tryz.underlying308
 a173:=Tryz.isAgg308
 z173:=Tryz.sizeOf308
 v173:=Tryz.zeroValue308
 t175:=Tryz.underlying288
 a175:=Tryz.isAgg288
 z175:=Tryz.sizeOf288
 v175:=Tryz.zeroValue288
 t210:=Tryz.underlying292
 a210:=Tryz.isAgg292
 z210:=Tryz.sizeOf292
 v210:=Tryz.zeroValue292
 t212:=Tryz.underlying311
 a212:=Tryz.isAgg311
 z212:=Tryz.sizeOf311
 v212:=Tryz.zeroValue311
 t213:=Tryz.underlying312
 a213:=Tryz.isAgg312
 z213:=Tryz.sizeOf312
 t232:=Tryz.underlying313
 a232:=Tryz.isAgg313
 z232:=Tryz.sizeOf313
 v232:=Tryz.zeroValue313
 t233:=Tryz.underlying314
 a233:=Tryz.isAgg314
 z233:=Tryz.sizeOf314
 v233:=Tryz.zeroValue314
 g15:=by kernel_rfl
 g16:=by kernel_rfl
 g17:=by kernel_rfl
 g18:=by kernel_rfl
 g19:=by kernel_rfl}
def Tryz.sorted200_ren:Go.Shelf.Ren:=⟨fun | 6=>95 | 8=>143 | 9=>144 | 11=>204 | 13=>100 | 12=>205 | 23=>154 | 24=>155 | 14=>244 | 15=>245 | 16=>246 | 17=>247 | 18=>248 | 19=>249 | 20=>250 | 21=>251 | 22=>252 | 25=>280 | 26=>207 | 27=>208 | 28=>281 | 29=>282 | 30=>60 | 31=>293 | n=>n,fun | 26=>9 | 28=>156 | 24=>24 | 0=>0 | 3=>3 | 37=>161 | 48=>210 | 50=>212 | 4=>4 | 40=>203 | 39=>202 | 45=>207 | 5=>5 | 9=>9 | 51=>247 | 55=>251 | 57=>265 | 58=>197 | 33=>113 | n=>n,fun | n=>n⟩
theorem Tryz.sorted200:Go.Proofs.SlLaysZ.n6 Tryz.prog Tryz.sorted200_ren:={
 mixed:=by kernel_rfl
 f6:=⟨Tryz.f95.name,by decide,Xt Tryz.func95⟩
 f8:=⟨Tryz.f143.name,by decide,Xt Tryz.func143⟩
 f11:=⟨Tryz.f204.name,by decide,Xt Tryz.func204⟩
 t0:=Tryz.underlying0
 a0:=Tryz.isAgg0
 z0:=Tryz.sizeOf0
 v0:=Tryz.zeroValue0
 t24:=Tryz.underlying24
 a24:=Tryz.isAgg24
 z24:=Tryz.sizeOf24
 v24:=Tryz.zeroValue24
 t26:=Tryz.underlying9
 a26:=Tryz.isAgg9
 z26:=Tryz.sizeOf9
 v26:=Tryz.zeroValue9
 t28:=Tryz.underlying156
 a28:=Tryz.isAgg156
 z28:=Tryz.sizeOf156
 v28:=Tryz.zeroValue156
 i26:=by kernel_rfl}
end Go.Proofs
end
section
namespace Go.Proofs
open Go.RowKit Go.Shelf Go.AL
variable [Tabs]
attribute [local go_sem] Oper.semAt_some
set_option maxRecDepth 100000 in
set_option maxHeartbeats 2000000 in
theorem Tryz.values1 (F:Fence) (n:Nat) (h7:F.fn 145) (hro:F.round=none) (hn:1<=n) (l Bs Bo b off len cap:Nat) (zs:List Str) (hreach:len<=maxLen) (J:List Str→World→Prop) (hBl:∀pre W,J pre W→W.cell? ⟨Bs,Bo,none⟩=some (.slice (some ⟨b,off,none⟩) len cap)/\∀j,j < len→W.cell? ⟨b,off+j,none⟩=some (encStr (zs[j]?.getD [])))
  (hY:∀pre x W,J pre W→pre.length < len→YieldAt F (n - 1) Tryz.prog l #[encStr x] W fun e W'=>e=.returned (.bool true)/\J (pre++[x]) W')
  (W:World) (h0:J [] W) :
  CallsIn F n Tryz.prog 145 #[.func (.yield l) #[] #[],.pointer (some ⟨Bs,Bo,none⟩)] W fun e W'=>(∃v,e=.returned v)/\∃ys,ys=upto (fun j=>zs[j]?.getD []) len/\J ys W':=by
 obtain ⟨hBs,hc⟩:=hBl _ _ h0
 refine callsIn_of_wp Tryz.func145 rfl h7 ?_ hro
 simp only [Tryz.ntmps145,List.size_toArray,List.length_cons,List.length_nil,Nat.reduceAdd,Nat.reduceSub,Array.replicate_succ,Array.replicate_zero,List.push_toArray,List.append_toArray,List.nil_append,List.cons_append]
 gi_wp2
 gi_loopw [7] (fun i wr=>∃k:Nat,k<=len/\i=.int .i64 k/\J (upto (fun j=>zs[j]?.getD []) k) wr)
  (fun i _=>len - (intOf i).toNat)
 case atStart=>exact ⟨0,Nat.zero_le _,rfl,h0⟩
 case round=>
  obtain ⟨k,hk,rfl,hJs⟩:=hrel
  have hcx:k < len→wr.cell? ⟨b,off+k,none⟩=some (encStr (zs[k]?.getD [])):=fun h=>(hBl _ _ hJs).2 k h
  by_cases hlt:k < len
  ·obtain ⟨fn,tmps,assign,body,hy,hR⟩:=hY _ (zs[k]?.getD []) wr hJs (by rw [qR];exact hlt)
   have hcx':=hcx hlt
   have hsmall:(k:Int)+1<=9223372036854775807:=by unfold maxLen at hreach;omega
   gi_wp2
   refine hR.mono ?_
   rintro e W3 ⟨rfl,hJ3⟩
   gi_wp2
   go_roundw
   case rel=>exact ⟨k+1,by omega,by simp,by rw [v8];exact hJ3⟩
   case measure=>simp [intOf];omega
  ·obtain rfl:k=len:=by omega
   gi_wp2
   go_end0
   exact ⟨⟨_,rfl⟩,_,rfl,hJs⟩
set_option maxRecDepth 100000 in
set_option maxHeartbeats 1000000 in
theorem Tryz.values1_nil (F:Fence) (n:Nat) (h7:F.fn 145) (hro:F.round=none) (l Bs Bo cap:Nat) (a:Option Addr) (J:List Str→World→Prop) (W:World) (hBs:W.cell? ⟨Bs,Bo,none⟩=some (.slice a 0 cap)) (h0:J [] W) :
  CallsIn F n Tryz.prog 145 #[.func (.yield l) #[] #[],.pointer (some ⟨Bs,Bo,none⟩)] W fun e W'=>(∃v,e=.returned v)/\J [] W':=by
 refine callsIn_of_wp Tryz.func145 rfl h7 ?_ hro
 simp only [Tryz.ntmps145,List.size_toArray,List.length_cons,List.length_nil,Nat.reduceAdd,Nat.reduceSub,Array.replicate_succ,Array.replicate_zero,List.push_toArray,List.append_toArray,List.nil_append,List.cons_append]
 gi_wp2
 gi_loopw [7] (fun i wr=>i=.int .i64 0/\J [] wr) (fun _ _=>0)
 case atStart=>exact ⟨rfl,h0⟩
 case round=>
  obtain ⟨rfl,hJs⟩:=hrel
  gi_wp2
  go_end0
  exact ⟨⟨_,rfl⟩,hJs⟩
theorem Tryz.valuesL:pM Tryz.prog 145:=by
 intro w b o sv zs hz hc hs l J W a1 a2 a3 a4 a5
 have hb:=aC hc
 rcases hs with ⟨⟨a,cap,rfl⟩,rfl⟩ | ⟨g,off,cap,rfl,hg,hcs⟩
 ·refine (Tryz.values1_nil Fence.wide 2 trivial rfl l b o cap a J W ((a1.cell (p:=⟨b,o,none⟩) hb).trans hc) a5).mono ?_
  rintro e W' ⟨h1,h2⟩
  exact ⟨h1,[],rfl,h2⟩
 ·refine (Tryz.values1 Fence.wide 2 trivial rfl (by omega) l b o g off zs.length cap zs hz J (fun pre W1 hJ=>⟨((a3 _ _ hJ).cell (p:=⟨b,o,none⟩) hb).trans hc,fun j hj=>((a3 _ _ hJ).cell (p:=⟨g,off+j,none⟩) hg).trans (hcs j hj)⟩)
   (fun pre x W1 h1 h2=>(a4 pre x W1 h1 h2).mono fun e W' h=>⟨h.1,h.2.1⟩) W a5).mono ?_
  rintro e W' ⟨h1,ys,h2,h3⟩
  exact ⟨h1,ys,by rw [h2,wz],h3⟩
end Go.Proofs
end
section
namespace Go.AL.Seat
open Go Go.AL Go.Proofs Go.Shelf Go.Pd
variable [Tabs]
theorem zo:SortL Tryz.prog Tryz.sorted200_ren:=
 ⟨Tryz.sorted200,⟨fun blk off cap ss W hH hblk hsz=>callsIn_wide.2 (Any.slices_Sort_string Tryz.lays190 blk off cap ss W hH hblk hsz),fun p cap W=>callsIn_wide.2 (Any.slices_Sort_string_none Tryz.lays190 p cap W)⟩,enters_of Tryz.func144 (by kernel_rfl) rfl⟩
theorem sP:aL Tryz.prog 95 (jd 145):=
 nT zo rfl (enters_of Tryz.func145 (by kernel_rfl) rfl) Tryz.valuesL (aS.mk' Tryz.func95 (by kernel_rfl))
theorem rl:aL Tryz.prog 97 je:=nU Tryz.lays194 rfl (aS.mk' Tryz.func97 (by kernel_rfl))
theorem wI:aL Tryz.prog 174 (p1 .str fun t=>⟨some (oF t),none,.tup [.int .i64 (iS t),.nilif],[]⟩):=sL Tryz.lays172 rfl (aS.mk' Tryz.func174 (by kernel_rfl))
end Go.AL.Seat
end
section
namespace Go.AL.Seat
open Go Go.AL Go.Proofs Go.Shelf Go.Pd
class SeatLaid [Tabs]:Prop where
 max:∃m:Int,Tabs.tab 2 0 (.int .i64 m)
 utf:lE 0 1
variable [Tabs] [SeatLaid]
theorem wJ:aL Tryz.prog 119 (p2 .str .str fun a b=>⟨some (b=nr),none,.str (nt a),[]⟩):=sM Tryz.lays160 (by kernel_rfl) rfl (aS.mk' Tryz.func119 (by kernel_rfl))
theorem xV:aL Tryz.prog 173 (p2 .str .str fun a b=>⟨some (b=[45]/\a.length < 4294967281),none,.tup [.str (fO a),.str (jf a),.bool (kq a)],[]⟩):=
 let ⟨_,hm⟩:=SeatLaid.max;vd Tryz.lays145 hm rfl (aS.mk' Tryz.func173 (by kernel_rfl))
theorem ve:aL Tryz.prog 87 (p2 .str .str fun a b=>⟨some (b=[46]/\a.length < 4294967281),none,.lst .str (splitB 46 a) none,[]⟩):=
 let ⟨_,hm⟩:=SeatLaid.max;rf Tryz.lays146 (by kernel_rfl) hm rfl (aS.mk' Tryz.func87 (by kernel_rfl))
theorem pT:aL Tryz.prog 177 (p2 .str .str fun a b=>⟨some (b.length=1),none,.bool (decide (b.getD 0 0∈a)),[]⟩):=nw Tryz.lays144 rfl (aS.mk' Tryz.func177 (by kernel_rfl))
theorem nY:aL Tryz.prog 175 (p2 .str (.int .u8) fun a c=>.ret (.int .i64 (wC a c))):=l9 Tryz.lays137 rfl (aS.mk' Tryz.func175 (by kernel_rfl))
theorem nz:aL Tryz.prog 165 (p1 .str fun s=>.ret (.tup [.int .i32 ((gK s).1:Int),.int .i64 ((gK s).2:Int)])):=kr Tryz.lays197 SeatLaid.utf rfl (aS.mk' Tryz.func165 (by kernel_rfl))
end Go.AL.Seat
end
section
namespace Go.Proofs.YtbhedkjcdhgkhaaGreatDoor.Join
open Go.AL Go.AL.Seat Go.ChangeShapes Go.WideShapes Go.RowKit Go.Lib Go.Shelf
set_option maxRecDepth 1000000
theorem own:ownKnob Tryz.prog.godebug=none:=by kernel_rfl
theorem xW:laidOutB Tryz.prog=true:=by kernel_rfl
theorem undB:Tryz.prog.underlying 4=some .bool:=by kernel_rfl
theorem undI:Tryz.prog.underlying 3=some (.int .i64):=by kernel_rfl
def laid:List (String × DataW Unit):=Rows.usageFindsRow.laid
theorem zp:(Rows.laid_unicode_utf8_acceptRanges:DataW Unit)=acceptData:=by kernel_rfl
theorem zq {W:World} (h:W.ShapedOpen Tryz.prog):∃m,W.cell? ⟨2,0,none⟩=some (.int .i64 m):=
 cell_of_shapedOpen_int (t:=3) (zero:=#[.int .i64 0]) h (Xo (by kernel_rfl)) (by kernel_rfl) rfl (by kernel_rfl) (by kernel_rfl) undI
theorem zr {W:World} (h:laidMet Tryz.prog laid W):Utf8Tabs 0 1 W:=
 utf8Tabs_of_readsT (ρ:=Tryz.lays196_ren) (U8Types.of196 Tryz.lays196) ⟨by kernel_rfl,by kernel_rfl,by kernel_rfl,by kernel_rfl,by kernel_rfl,by kernel_rfl,by kernel_rfl⟩
  (Pinned.utf8First_eq ▸ laidMet.reads h (by simp [laid,Rows.usageFindsRow,Rows.laid_unicode_utf8_first])) (zp ▸ laidMet.reads h (by simp [laid,Rows.usageFindsRow]))
theorem wK {W:World} (h:laidMet Tryz.prog laid W) (hs:W.ShapedOpen Tryz.prog):@SeatLaid (nk W):=by
 letI:Tabs:=nk W
 obtain ⟨m,hm⟩:=zq hs
 obtain ⟨u1,u2⟩:=zr h
 exact ⟨⟨m,by decide,hm⟩,fun c hc=>⟨by decide,u1 c hc⟩,fun i hi=>⟨⟨by decide,(u2 i hi).1⟩,by decide,(u2 i hi).2⟩⟩
def z32:List Int:=[0,1,28,2,29,14,24,3,30,22,20,15,25,17,4,8,31,27,13,23,21,19,16,7,26,12,18,6,11,5,10,9]
def z64:List Int:=[0,1,56,2,57,49,28,3,61,58,42,50,38,29,17,4,62,47,59,36,45,43,51,22,53,39,33,30,24,18,12,5,63,55,48,27,60,41,37,16,46,35,44,21,52,32,23,11,54,26,40,15,34,20,31,10,25,14,19,9,13,8,7,6]
def zPow:List Int:=[1,10,100,1000,10000,100000,1000000,10000000,100000000,1000000000,10000000000,100000000000,1000000000000,10000000000000,100000000000000,1000000000000000,10000000000000000,100000000000000000,1000000000000000000,10000000000000000000]
def zAcc:List Int:=[128,191,160,191,128,159,144,191,128,143,0,0,0,0,0,0,0,0,0,0,0,0,0,0,0,0,0,0,0,0,0,0]
def yU:List Int:=List.map Int.ofNat Pinned.utf8FirstZ
noncomputable def iK (os:Os):World:=
 let N:=(World.settled Tryz.prog os).heap.size
 let w0:=World.holding Tryz.prog os ⟨#[.cells #[.string ⟨#[118,97,108,117,101,32,111,117,116,32,111,102,32,114,97,110,103,101]⟩] 304,.cells #[.string ⟨#[105,110,118,97,108,105,100,32,115,121,110,116,97,120]⟩] 304],#[],[]⟩
 let put (h:Array Obj) (g:Nat) (cs:Array Value):Array Obj:=h.modify g fun
  | .cells _ t frozen=>.cells cs t frozen
  | o=>o
 let h0:=put (put w0.heap 3 #[.iface 302 (.pointer (some ⟨N+1,0,none⟩))]) 4 #[.iface 302 (.pointer (some ⟨N,0,none⟩))]
 let h1:=put (put (put h0 5 (zPow.map (Value.int .u64)).toArray) 6 (z32.map (Value.int .u8)).toArray) 7 (z64.map (Value.int .u8)).toArray
 let h2:=put (put h1 0 (yU.map (Value.int .u8)).toArray) 1 (zAcc.map (Value.int .u8)).toArray
 {w0 with heap:=h2}
noncomputable abbrev N0:Nat:=(World.settled Tryz.prog default).heap.size
theorem yV (os:Os) (args:Array Value):LaidIn Tryz.prog ((iK os).forCall (fun _ _=>0) ⟨#[],args,[]⟩).memory laid [6,7,5,1,4,N0,3,N0+1,0]:=
 LaidIn.of_run [6,7,5,1,4,N0,3,N0+1,0] 10 (by kernel_rfl) (by kernel_rfl) (by kernel_rfl) (by kernel_rfl)
theorem wL (os:Os) (args:Array Value):laidMet Tryz.prog laid ((iK os).forCall (fun _ _=>0) ⟨#[],args,[]⟩).memory:=(yV os args).met
end Go.Proofs.YtbhedkjcdhgkhaaGreatDoor.Join
end
noncomputable section
namespace Go.AL
open Go.ChangeShapes Go.WideShapes Go.RowKit
variable [Tabs]
variable {H:Type} {enc:TypeId × Value→H} {P:Program} {w:World} {base:Nat} {held:Bool}
structure UseAt (P:Program) (t:TypeId):Prop where
 ex:∃(f0 f1:Field),P.underlying t=some (.struct #[f0,f1])/\P.cellsOf t=2/\(f0.offset=0/\f1.offset=1)/\(P.cellsOf f0.type=1/\P.cellsOf f1.type=1)/\P.underlying f0.type=some .string/\P.underlying f1.type=some .string
theorem zt {t:TypeId} (hs:UseAt P t) (fuel:Nat) (cs:List Value) (x:DataW H × List MemPlace) (h:DataW.trod enc P w base (fun _=>true) held fuel t cs=some x):∃s:Nam,VL (Om0 w) (cells (.st .nm) s) cs:=by
 obtain ⟨f0,f1,ht,hc,⟨o0,o1⟩,⟨c0,c1⟩,u0,u1⟩:=hs
 obtain ⟨n,hn,hl,hf⟩:=xO ht h
 rw [hc] at hl
 obtain ⟨y0,h0⟩:=hf 0 f0 rfl
 obtain ⟨y1,h1⟩:=hf 1 f1 rfl
 match cs,hl with
 | [a0,a1],_=>
  rw [o0,c0] at h0
  rw [o1,c1] at h1
  simp only [List.drop_zero,List.drop_succ_cons,List.take_succ_cons,List.take_zero] at h0 h1
  obtain ⟨p,v',e0,v0⟩:=nj u0 h0
  obtain ⟨q,v,e1,v1⟩:=nj u1 h1
  simp only [List.cons.injEq,and_true] at e0 e1
  subst e0 e1
  exact ⟨⟨p,q⟩,VL.cons v0 (VL.cons v1 .nil)⟩
theorem yW {t e:TypeId} (ht:P.underlying t=some (.slice e)) (hi:UseAt P e) {r:Reach} {b0 fuel:Nat} {v:Value} {x:DataW H × List MemPlace} (hv:Value.okWide P w r b0 t v)
  (h:DataW.trod enc P w base (fun _=>true) held fuel t v.cells.toList=some x):∃l:List Nam,V (Om0 w) (.lst (.st .nm) l none) v:=by
 obtain ⟨l,u,e',hl⟩:=zn (τ:=.st .nm) ht (by obtain ⟨_,_,_,hc,_⟩:=hi;rw [hc];rfl) h (fun n ds y _ hy=>zt hi n ds y hy) (wx ht hv)
 rw [xN ht hv] at e'
 simp only [List.cons.injEq,and_true] at e'
 subst e'
 exact ⟨l,hl⟩
structure ChgAt (P:Program) (t:TypeId):Prop where
 ex:∃(f0 f1:Field),P.underlying t=some (.struct #[f0,f1])/\P.cellsOf t=2/\(f0.offset=0/\f1.offset=1)/\(P.cellsOf f0.type=1/\P.cellsOf f1.type=1)/\P.underlying f0.type=some (.int .i64)/\P.underlying f1.type=some .string
end Go.AL
end
section
namespace Go.Proofs.YtbhedkjcdhgkhaaGreatDoor.Join
open Go.AL Go.AL.Seat Go.ChangeShapes Go.WideShapes Go.RowKit Go.Lib Go.Shelf
set_option maxRecDepth 1000000
theorem zu:Tryz.prog.underlying 31=some (.slice 77):=by kernel_rfl
theorem zw:UseAt Tryz.prog 77:=⟨_,_,Tryz.underlying77,by kernel_rfl,⟨rfl,rfl⟩,⟨by kernel_rfl,by kernel_rfl⟩,by kernel_rfl,by kernel_rfl⟩
theorem zx:Tryz.prog.readableRec 31=true:=by kernel_rfl
theorem yx:100 < Tryz.prog.types.size:=Xo (by kernel_rfl)
end Go.Proofs.YtbhedkjcdhgkhaaGreatDoor.Join
end
noncomputable section
namespace Go.AL
open Go.ChangeShapes Go.WideShapes Go.RowKit
variable [Tabs]
structure GoodR {H:Type} (P:Program) (N M:Nat) (g:TypeId→DataW H→Prop):Prop where
 str:∀t s,P.underlying t=some .string→g t (.lit (.string s))→s.length<=M
 len:∀t e es sp,P.underlying t=some (.slice e)→g t (.slice es sp)→16<=P.bytesOf e→es.length<=N
 el:∀t e es sp,P.underlying t=some (.slice e)→g t (.slice es sp)→∀x∈es,g e x
 part:∀t fs ps,P.underlying t=some (.struct fs)→g t (.agg ps)→∀(i:Nat) (f:Field) p,fs[i]?=some f→ps[i]?=some p→g f.type p
variable {H:Type} {enc:TypeId × Value→H} {P:Program} {w:World} {base:Nat} {held:Bool}
theorem yX {N M:Nat} {g:TypeId→DataW H→Prop} (hb:GoodR P N M g) {t e:TypeId} {τ:Ty} {Q:den τ→Prop} {fuel:Nat} {cs:List Value} {x:DataW H × List MemPlace} (ht:P.underlying t=some (.slice e)) (hc:P.cellsOf e=a7 τ) (h:DataW.trod enc P w base (fun _=>true) held fuel t cs=some x) (hg:g t x.1)
  (hel:∀(n:Nat) (ds:List Value) (y:DataW H × List MemPlace),fuel=n+1→DataW.trod enc P w base (fun _=>true) held n e ds=some y→g e y.1→∃z:den τ,VL (Om0 w) (cells τ z) ds/\Q z)
  (hsp:∀a len cap,cs=[.slice (some a) len cap]→a.spot=none):∃(l:List (den τ)) (v:Value),cs=[v]/\V (Om0 w) (.lst τ l none) v/\(16<=P.bytesOf e→l.length<=N)/\∀z∈l,Q z:=by
 rcases DataW.trod_slice ht h with ⟨rfl,_⟩ | ⟨a,len,cap,elems,rest,n,hfu,rfl,hx,_,hlc,hcm,hlen,hels,_,_⟩
 ·exact ⟨[],_,rfl,.lstNil τ none (fun id hid=>by cases hid),fun _=>Nat.zero_le _,fun z hz=>by cases hz⟩
 ·have hs:=hsp a len cap rfl
  obtain ⟨bl,off,spot⟩:=a
  simp only at hs
  subst hs
  have each:∀i,i < len→∃z:den τ,∃ds:List Value,ds.length=a7 τ/\(∀j,j < a7 τ→w.cell? ⟨bl,off+(i *a7 τ+j),none⟩=ds[j]?)/\VL (Om0 w) (cells τ z) ds/\Q z:=by
   intro i hi
   have h1:=hels i hi
   obtain ⟨y,hy⟩:∃y,elems[i]?=some y:=⟨_,List.getElem?_eq_getElem (by omega)⟩
   rw [hy,hc,Option.bind_eq_some_iff] at h1
   obtain ⟨ds,hd,hy'⟩:=h1
   obtain ⟨_,hdl,hdc⟩:=World.cells?_some hd
   obtain ⟨z,hz,hq⟩:=hel n ds y hfu hy' (by
    rw [hx] at hg
    exact hb.el _ _ _ _ ht hg _ (List.mem_map_of_mem (List.mem_of_getElem? hy)))
   refine ⟨z,ds,hdl,fun j hj=>?_,hz,hq⟩
   have:=hdc j hj
   have ha:∀(o n:Nat),(⟨bl,o,none⟩:Addr).add n=⟨bl,o+n,none⟩:=by
    intro o n
    unfold Addr.add
    by_cases h0:n=0
    ·subst h0;rfl
    ·rw [if_neg h0]
   rw [ha,ha,Nat.add_assoc] at this
   exact this
  have hz:∃l:List (den τ),l.length=len/\∀i z,l[i]?=some z→∃ds:List Value,ds.length=a7 τ/\(∀j,j < a7 τ→w.cell? ⟨bl,off+(i *a7 τ+j),none⟩=ds[j]?)/\VL (Om0 w) (cells τ z) ds/\Q z:=by
   refine ⟨(List.range len).attach.map fun i=>(each i.1 (List.mem_range.1 i.2)).choose,by simp,fun i z hi=>?_⟩
   have hil:i < len:=by
    have:=(List.getElem?_eq_some_iff.1 hi).1
    simpa using this
   simp only [List.getElem?_map,Option.map_eq_some_iff] at hi
   obtain ⟨⟨k,hk⟩,h1,h2⟩:=hi
   have hki:k=i:=by
    have:=List.getElem?_eq_some_iff.1 h1
    obtain ⟨_,e⟩:=this
    have:=congrArg Subtype.val e
    simpa using this.symm
   subst hki
   rw [←h2]
   exact (each k (List.mem_range.1 hk)).choose_spec
  obtain ⟨l,hll,hle⟩:=hz
  have hQ:∀z∈l,Q z:=fun z hz=>by
   obtain ⟨i,hi⟩:=List.getElem?_of_mem hz
   obtain ⟨_,_,_,_,hq⟩:=hle i z hi
   exact hq
  have hL:16<=P.bytesOf e→l.length<=N:=fun h16=>by
   rw [hx] at hg
   rw [hll,←hlen]
   have:=hb.len _ _ _ _ ht hg h16
   rwa [List.length_map] at this
  refine ⟨l,_,rfl,?_,hL,hQ⟩
  have key:=V.lst (Ω:=Om0 w) τ l none bl off cap (fun i j=>(w.cell? ⟨bl,off+(i *a7 τ+j),none⟩).getD undef) (by omega) (by unfold maxLen at hcm;unfold aM;omega) (fun id hid=>by cases hid) (fun i z hz j c hj=>?_) (fun i z hz j c hj=>?_)
  ·rw [hll] at key
   exact key
  ·obtain ⟨ds,d1,d2,d3,_⟩:=hle i z hz
   have hjw:j < a7 τ:=by
    rw [←az τ z]
    exact (List.getElem?_eq_some_iff.1 hj).1
   have hv:w.cell? ⟨bl,off+(i *a7 τ+j),none⟩=some ds[j]:=by rw [d2 j hjw];exact List.getElem?_eq_getElem (by omega)
   refine ⟨⟨_,hv⟩,?_⟩
   show w.cell? _=_
   rw [hv];rfl
  ·obtain ⟨ds,d1,d2,d3,_⟩:=hle i z hz
   have hjw:j < a7 τ:=by
    rw [←az τ z]
    exact (List.getElem?_eq_some_iff.1 hj).1
   have hd:ds[j]?=some ds[j]:=List.getElem?_eq_getElem (by omega)
   rw [d2 j hjw,hd]
   exact d3.2 j c ds[j] hj hd
theorem pU {N M:Nat} {g:TypeId→DataW H→Prop} (hb:GoodR P N M g) {t e:TypeId} {τ:Ty} {Q:den τ→Prop} {fuel:Nat} {cs:List Value} {x:DataW H × List MemPlace} (ht:P.underlying t=some (.slice e)) (hc:P.cellsOf e=a7 τ) (hw:0 < a7 τ)
  (h:DataW.trod enc P w base (fun _=>true) held fuel t cs=some x) (hg:g t x.1)
  (hel:∀(n:Nat) (ds:List Value) (y:DataW H × List MemPlace),fuel=n+1→DataW.trod enc P w base (fun _=>true) held n e ds=some y→g e y.1→∃z:den τ,VL (Om0 w) (cells τ z) ds/\Q z) :
  ∃(l:List (den τ)) (v:Value),cs=[v]/\V (Om0 w) (.lst τ l none) v/\(16<=P.bytesOf e→l.length<=N)/\∀z∈l,Q z:=by
 have h0:=h
 rcases DataW.trod_slice ht h with ⟨rfl,_⟩ | ⟨a,len,cap,elems,rest,n,hfu,rfl,_,_,hlc,hcm,hlen,hels,hrest,_⟩
 ·exact ⟨[],_,rfl,.lstNil τ none (fun id hid=>by cases hid),fun _=>Nat.zero_le _,fun z hz=>by cases hz⟩
 ·by_cases hcap:cap=0
  ·have:len=0:=by omega
   subst hcap this
   exact ⟨[],_,rfl,.lstVoid τ a,fun _=>Nat.zero_le _,fun z hz=>by cases hz⟩
  ·refine yX hb ht hc h0 hg hel fun a' len' cap' e'=>?_
   simp only [List.cons.injEq,Value.slice.injEq,Xs,and_true] at e'
   obtain ⟨rfl,rfl,rfl⟩:=e'
   have hr:∃(ad:Addr) (y:DataW H × List MemPlace),ad=a/\(w.cells? base ad (P.cellsOf e)).bind (DataW.trod enc P w base (fun _=>true) held n e)=some y:=by
    by_cases hl:len=0
    ·obtain ⟨r1,r2⟩:=hrest rfl
     have:=r2 0 (by omega)
     rw [hl] at this
     refine ⟨_,_,?_,this.trans (List.getElem?_eq_getElem (by omega))⟩
     simp [Addr.add]
    ·have:=hels 0 (by omega)
     refine ⟨_,_,?_,this.trans (List.getElem?_eq_getElem (by omega))⟩
     simp [Addr.add]
   obtain ⟨ad,y,rfl,hy⟩:=hr
   rw [Option.bind_eq_some_iff] at hy
   obtain ⟨ds,hd,_⟩:=hy
   obtain ⟨_,hdl,hdc⟩:=World.cells?_some hd
   have:=hdc 0 (by rw [hc];exact hw)
   have ha:ad.add 0=ad:=by simp [Addr.add]
   rw [ha,List.getElem?_eq_getElem (by rw [hdl,hc];exact hw)] at this
   unfold World.cell? at this
   split at this
   ·split at this
    ·cases this
    ·rename_i hs
     cases hsp:ad.spot
     ·rfl
     ·rw [hsp] at hs;exact absurd rfl hs
   ·cases this
theorem nA {N M:Nat} {g:TypeId→DataW H→Prop} (hb:GoodR P N M g) {sp:Nat→Bool} {t:TypeId} {fs:Array Field} {fuel:Nat} {cs:List Value} {x:DataW H × List MemPlace} (ht:P.underlying t=some (.struct fs)) (h:DataW.trod enc P w base sp held fuel t cs=some x) (hg:g t x.1) :
  ∃n,fuel=n+1/\cs.length=P.cellsOf t/\∀(i:Nat) (f:Field),fs[i]?=some f→∃y,DataW.trod enc P w base sp held n f.type ((cs.drop f.offset).take (P.cellsOf f.type))=some y/\g f.type y.1:=by
 obtain ⟨xs,n,hn,hx,hl,hs,hf⟩:=DataW.trod_struct ht h
 refine ⟨n,hn,hl,fun i f hif=>?_⟩
 have hi:i < xs.length:=by
  rw [hs]
  rcases Nat.lt_or_ge i fs.size with k | k
  ·exact k
  ·rw [Array.getElem?_eq_none k] at hif;cases hif
 refine ⟨xs[i],by rw [hf i f hif];exact List.getElem?_eq_getElem hi,?_⟩
 rw [hx] at hg
 exact hb.part _ _ _ ht hg i f _ hif (by rw [List.getElem?_map,List.getElem?_eq_getElem hi];rfl)
structure TermAt (P:Program) (t:TypeId):Prop where
 ex:∃(f0 f1 f2 f3 f4 f5 f6 f7 f8:Field) (e g:TypeId),P.underlying t=some (.struct #[f0,f1,f2,f3,f4,f5,f6,f7,f8])/\P.cellsOf t=9/\
  (f0.offset=0/\f1.offset=1/\f2.offset=2/\f3.offset=3/\f4.offset=4/\f5.offset=5/\f6.offset=6/\f7.offset=7/\f8.offset=8)/\
  (P.cellsOf f0.type=1/\P.cellsOf f1.type=1/\P.cellsOf f2.type=1/\P.cellsOf f3.type=1/\P.cellsOf f4.type=1/\P.cellsOf f5.type=1/\P.cellsOf f6.type=1/\P.cellsOf f7.type=1/\P.cellsOf f8.type=1)/\
  (P.underlying f0.type=some (.int .i64)/\P.underlying f1.type=some .string/\P.underlying f2.type=some .string/\P.underlying f3.type=some (.int .i64)/\P.underlying f4.type=some (.slice e)/\P.underlying f5.type=some (.slice e)/\
   P.underlying f6.type=some (.slice g)/\P.underlying f7.type=some (.slice t)/\P.underlying f8.type=some (.int .i64))/\(P.underlying e=some .string/\P.cellsOf e=1/\P.bytesOf e=16)/\ShapeAt P g
end Go.AL
end
noncomputable section
namespace Go.AL
open Go.ChangeShapes Go.WideShapes Go.RowKit
variable [Tabs]
variable {H:Type} {enc:TypeId × Value→H} {P:Program} {w:World} {base:Nat} {held:Bool}
def nmB (N:Nat) (s:Shape):Bool:=decide (s.names.length<=N) && decide (s.parts.length<=N)
def sQ (P:Program) (t:TypeId):Prop:=∀(fs:Array Field) (i:Nat) (f:Field) (e:TypeId),P.underlying t=some (.struct fs)→fs[i]?=some f→P.underlying f.type=some (.slice e)→16<=P.bytesOf e
theorem wM {N M:Nat} {g:TypeId→DataW H→Prop} (hb:GoodR P N M g) {t:TypeId} (hs:ShapeAt P t) (h16:sQ P t):∀(fuel:Nat) (cs:List Value) (x:DataW H × List MemPlace),DataW.trod enc P w base (fun _=>true) held fuel t cs=some x→g t x.1→∃s:Shape,VL (Om0 w) (cells (.st .shape) s) cs/\Pd.allS (nmB N) s=true:=by
 obtain ⟨f0,f1,f2,f3,f4,e,ht,hc,⟨o0,o1,o2,o3,o4⟩,⟨c0,c1,c2,c3,c4⟩,u0,u1,u2,u3,us,ce,u4⟩:=hs
 intro fuel
 induction fuel using Nat.strongRecOn with
 | _ fuel ih=>
 intro cs x h hg
 obtain ⟨n,hn,hl,hf⟩:=nA hb ht h hg
 rw [hc] at hl
 obtain ⟨y0,h0,_⟩:=hf 0 f0 rfl
 obtain ⟨y1,h1,_⟩:=hf 1 f1 rfl
 obtain ⟨y2,h2,_⟩:=hf 2 f2 rfl
 obtain ⟨y3,h3,b3⟩:=hf 3 f3 rfl
 obtain ⟨y4,h4,b4⟩:=hf 4 f4 rfl
 match cs,hl with
 | [a0,a1,a2,a3,a4],_=>
  rw [o0,c0] at h0
  rw [o1,c1] at h1
  rw [o2,c2] at h2
  rw [o3,c3] at h3
  rw [o4,c4] at h4
  simp only [List.drop_zero,List.drop_succ_cons,List.take_succ_cons,List.take_zero] at h0 h1 h2 h3 h4
  obtain ⟨k,e0,v0⟩:=yu u0 h0
  obtain ⟨p,v,e1,v1⟩:=nj u1 h1
  obtain ⟨m,v',e2,v2⟩:=nj u2 h2
  obtain ⟨ns,v'',e3,v3,q3,_⟩:=pU (τ:=.str) (Q:=fun _=>True) hb u3 (by rw [ce];rfl) (by decide) h3 b3 fun n' ds y _ hy _=>by
   obtain ⟨s,v,rfl,hv⟩:=nj us hy
   exact ⟨s,VL.cons hv .nil,trivial⟩
  obtain ⟨ps,v''',e4,v4,p4,q4⟩:=pU (τ:=.st .shape) (Q:=fun s:Shape=>Pd.allS (nmB N) s=true) hb u4 (by rw [hc];rfl) (by decide) h4 b4 fun n' ds y hn' hy hq=>ih n' (by omega) ds y hy hq
  simp only [List.cons.injEq,and_true] at e0 e1 e2 e3 e4
  subst e0 e1 e2 e3 e4
  refine ⟨⟨k,p,m,ns,ps⟩,VL.cons v0 (VL.cons v1 (VL.cons v2 (VL.cons v3 (VL.cons v4 .nil)))),?_⟩
  rw [Pd.allS_eq,Bool.and_eq_true,Pd.allL_all,List.all_eq_true]
  refine ⟨?_,q4⟩
  rw [nmB,Bool.and_eq_true]
  exact ⟨Xd (q3 (h16 _ 3 f3 e ht rfl u3)),Xd (p4 (h16 _ 4 f4 t ht rfl u4))⟩
structure ItemAtQ (P:Program) (t:TypeId):Prop where
 ex:∃(f0 f1 f2:Field),P.underlying t=some (.struct #[f0,f1,f2])/\P.cellsOf t=7/\(f0.offset=0/\f1.offset=1/\f2.offset=2)/\
  (P.cellsOf f0.type=1/\P.cellsOf f1.type=1/\P.cellsOf f2.type=5)/\P.underlying f0.type=some (.int .i64)/\P.underlying f1.type=some .string/\ShapeAt P f2.type/\sQ P f2.type
theorem xX {N M:Nat} {g:TypeId→DataW H→Prop} (hb:GoodR P N M g) {t:TypeId} (hs:ItemAtQ P t) (fuel:Nat) (cs:List Value) (x:DataW H × List MemPlace) (h:DataW.trod enc P w base (fun _=>true) held fuel t cs=some x) (hg:g t x.1) :
  ∃s:AL.Item,VL (Om0 w) (cells (.st .item) s) cs/\Pd.allS (nmB N) s.shape=true:=by
 obtain ⟨f0,f1,f2,ht,hc,⟨o0,o1,o2⟩,⟨c0,c1,c2⟩,u0,u1,u2,u3⟩:=hs
 obtain ⟨n,hn,hl,hf⟩:=nA hb ht h hg
 rw [hc] at hl
 obtain ⟨y0,h0,_⟩:=hf 0 f0 rfl
 obtain ⟨y1,h1,_⟩:=hf 1 f1 rfl
 obtain ⟨y2,h2,b2⟩:=hf 2 f2 rfl
 match cs,hl with
 | [a0,a1,a2,a3,a4,a5,a6],_=>
  rw [o0,c0] at h0
  rw [o1,c1] at h1
  rw [o2,c2] at h2
  simp only [List.drop_zero,List.drop_succ_cons,List.take_succ_cons,List.take_zero] at h0 h1 h2
  obtain ⟨k,e0,v0⟩:=yu u0 h0
  obtain ⟨p,v,e1,v1⟩:=nj u1 h1
  obtain ⟨s,v2,q2⟩:=wM hb u2 u3 _ _ _ h2 b2
  simp only [List.cons.injEq,and_true] at e0 e1
  subst e0 e1
  exact ⟨⟨k,p,s⟩,VL.cons v0 (VL.cons v1 v2),q2⟩
structure DepAt (P:Program) (t:TypeId):Prop where
 ex:∃(f0 f1:Field) (e:TypeId),P.underlying t=some (.struct #[f0,f1])/\P.cellsOf t=2/\(f0.offset=0/\f1.offset=1)/\(P.cellsOf f0.type=1/\P.cellsOf f1.type=1)/\P.underlying f0.type=some .string/\P.underlying f1.type=some (.slice e)/\ItemAtQ P e/\16<=P.bytesOf e
theorem wN {N M:Nat} {g:TypeId→DataW H→Prop} (hb:GoodR P N M g) {t:TypeId} (hs:DepAt P t) {r:Reach} {b0:Nat} {v:Value} {d:DataW H} {ps:List MemPlace} (hv:Value.okWide P w r b0 t v) (h:DataW.Trod enc P w base (fun _=>true) held t v d ps) (hg:g t d) :
  ∃s:Depd,V (Om0 w) (.st .dep s) v/\s.items.length<=N/\∀x∈s.items,Pd.allS (nmB N) x.shape=true:=by
 obtain ⟨fu,h⟩:=h
 obtain ⟨f0,f1,e,ht,hc,⟨o0,o1⟩,⟨c0,c1⟩,u0,u1,hi,h16⟩:=hs
 have fin:∀cs,v.cells.toList=cs→∃s:Depd,VL (Om0 w) (cells (.st .dep) s) cs/\s.items.length<=N/\∀x∈s.items,Pd.allS (nmB N) x.shape=true:=by
  intro cs hcs
  rw [hcs] at h
  obtain ⟨n,hn,hl,hf⟩:=nA hb ht h hg
  rw [hc] at hl
  obtain ⟨y0,h0,_⟩:=hf 0 f0 rfl
  obtain ⟨y1,h1,b1⟩:=hf 1 f1 rfl
  match cs,hl with
  | [a0,a1],_=>
   rw [o0,c0] at h0
   rw [o1,c1] at h1
   simp only [List.drop_zero,List.drop_succ_cons,List.take_succ_cons,List.take_zero] at h0 h1
   obtain ⟨p,v',e0,v0⟩:=nj u0 h0
   obtain ⟨l,w1,e1,v1,p1,q1⟩:=pU (τ:=.st .item) (Q:=fun x:AL.Item=>Pd.allS (nmB N) x.shape=true) hb u1 (by obtain ⟨_,_,_,_,hc',_⟩:=hi;rw [hc'];rfl) (by decide) h1 b1 (fun n ds y _ hy hq=>xX hb hi n ds y hy hq)
   simp only [List.cons.injEq,and_true] at e0 e1
   subst e0 e1
   exact ⟨⟨p,l⟩,VL.cons v0 (VL.cons v1 .nil),p1 h16,q1⟩
 obtain ⟨s,hs',hq⟩:=fin _ rfl
 refine ⟨s,.st .dep s v ?_,hq⟩
 have hl:=hs'.1
 have hc:(cells (.st .dep) s).length=2:=rfl
 rw [hc] at hl
 cases v with
 | agg vs=>
  have:=V.of_agg hs'
  simpa [Value.cells] using this
 | _=>simp [Value.cells] at hl
end Go.AL
end
noncomputable section
namespace Go.Pd
open Go Go.AL
def ltU (a b:Nam):Bool:=decide (a.pkg < b.pkg) || (decide (a.pkg=b.pkg) && decide (a.name < b.name))
def xY (l:List Nam):Prop:=l.Pairwise fun a b=>ltU a b=true
theorem gE (a:Nam):ltU a a=false:=by
 unfold ltU;simp [List.lt_irrefl]
theorem ku {a b c:Nam} (h:ltU a b=true) (k:ltU b c=true):ltU a c=true:=by
 unfold ltU at *
 simp only [Bool.or_eq_true,Bool.and_eq_true,decide_eq_true_eq] at *
 rcases h with h | ⟨h1,h2⟩ <;> rcases k with k | ⟨k1,k2⟩
 ·exact .inl (List.lt_trans h k)
 ·exact .inl (k1 ▸ h)
 ·exact .inl (h1 ▸ k)
 ·exact .inr ⟨h1.trans k1,List.lt_trans h2 k2⟩
theorem jE (a b:Nam):ltU a b=true∨a=b∨ltU b a=true:=by
 unfold ltU
 simp only [Bool.or_eq_true,Bool.and_eq_true,decide_eq_true_eq]
 rcases List.le_total a.pkg b.pkg with h | h
 all_goals
  by_cases e:a.pkg=b.pkg
  ·rcases List.le_total a.name b.name with k | k <;> by_cases f:a.name=b.name
   ·right;left;cases a;cases b;simp_all
   ·left;right;exact ⟨e,Decidable.byContradiction fun q=>f (List.le_antisymm k (List.not_lt.1 q))⟩
   ·right;left;cases a;cases b;simp_all
   ·right;right;right;exact ⟨e.symm,Decidable.byContradiction fun q=>f (List.le_antisymm (List.not_lt.1 q) k)⟩
 ·left;left;exact Decidable.byContradiction fun q=>e (List.le_antisymm h (List.not_lt.1 q))
 ·right;right;left;exact Decidable.byContradiction fun q=>e (List.le_antisymm (List.not_lt.1 q) h)
theorem tX:∀{a b:List Nam},xY a→xY b→(∀v,v∈a↔v∈b)→a=b
 | [],[],_,_,_=>rfl
 | [],y ::_,_,_,h=>nomatch (h y).2 (List.mem_cons_self ..)
 | x ::_,[],_,_,h=>nomatch (h x).1 (List.mem_cons_self ..)
 | x ::r,y ::s,ha,hb,h=>by
  have a1:=List.pairwise_cons.1 ha
  have b1:=List.pairwise_cons.1 hb
  have e:x=y:=by
   rcases List.mem_cons.1 ((h x).1 (List.mem_cons_self ..)) with q | q
   ·exact q
   ·rcases List.mem_cons.1 ((h y).2 (List.mem_cons_self ..)) with p | p
    ·exact p.symm
    ·have:=ku (a1.1 y p) (b1.1 x q)
     rw [gE] at this;cases this
  subst e
  rw [tX a1.2 b1.2 fun v=>?_]
  have n1:x∉r:=fun q=>by have:=a1.1 x q;rw [gE] at this;cases this
  have n2:x∉s:=fun q=>by have:=b1.1 x q;rw [gE] at this;cases this
  refine ⟨fun q=>?_,fun q=>?_⟩
  ·rcases List.mem_cons.1 ((h v).1 (List.mem_cons_of_mem _ q)) with e | p
   ·subst e;exact absurd q n1
   ·exact p
  ·rcases List.mem_cons.1 ((h v).2 (List.mem_cons_of_mem _ q)) with e | p
   ·subst e;exact absurd q n2
   ·exact p
def leU (a b:Nam):Bool:=!ltU b a
def fh (l:List Nam):List Nam:=l.mergeSort leU
theorem vf {l:List Nam} (h:l.Nodup):xY (fh l):=by
 have h1:(fh l).Pairwise fun a b=>leU a b=true:=List.pairwise_mergeSort (fun a b c p q=>by
  unfold leU at *
  rw [Bool.not_eq_true'] at *
  rcases Bool.eq_false_or_eq_true (ltU c a) with k | k
  ·rcases jE a b with t | t | t
   ·rw [ku k t] at q;cases q
   ·subst t;rw [k] at q;cases q
   ·rw [t] at p;cases p
  ·exact k) (fun a b=>by
  unfold leU
  rcases jE a b with t | t | t
  ·have:ltU b a=false:=by
    rcases Bool.eq_false_or_eq_true (ltU b a) with k | k
    ·have:=ku t k;rw [gE] at this;cases this
    ·exact k
   rw [this];rfl
  ·subst t;rw [gE];rfl
  ·have:ltU a b=false:=by
    rcases Bool.eq_false_or_eq_true (ltU a b) with k | k
    ·have:=ku t k;rw [gE] at this;cases this
    ·exact k
   rw [this];cases ltU b a <;> rfl) l
 have h2:(fh l).Nodup:=(List.mergeSort_perm l leU).nodup_iff.2 h
 refine List.Pairwise.imp (fun {a b} q=>?_) (h1.and h2)
 obtain ⟨q1,q2⟩:=q
 rcases jE a b with t | t | t
 ·exact t
 ·exact absurd t q2
 ·unfold leU at q1;rw [t] at q1;cases q1
end Go.Pd
end
section
namespace Go.Pd
open Go.AL
mutual
def sizeF:Shape→Int→Int
 | ⟨_,_,_,_,ps⟩,m=>sizeL ps 1 m
def sizeL:List Shape→Int→Int→Int
 | [],n,_=>n
 | p ::r,n,m=>if n<=m then sizeL r (n+sizeF p (m - n)) m else n
end
mutual
theorem sizeF_bd:∀(s:Shape) (m:Int),0<=m→1<=sizeF s m/\sizeF s m<=m+1
 | ⟨_,_,_,_,ps⟩,m,h=>by
  simp only [sizeF]
  exact sizeL_bd ps 1 m (by omega) (by omega)
theorem sizeL_bd:∀(l:List Shape) (n m:Int),1<=n→n<=m+1→1<=sizeL l n m/\sizeL l n m<=m+1
 | [],n,m,h1,h2=>by simp only [sizeL];omega
 | p ::r,n,m,h1,h2=>by
  simp only [sizeL]
  split
  ·have:=sizeF_bd p (m - n) (by omega)
   exact sizeL_bd r _ m (by omega) (by omega)
  ·omega
end
end Go.Pd
end
section
namespace Go.Pd
open Go.AL
def p0 (A:Ans):Pat
 | [],[]=>some A
 | _,_=>none
theorem zy [Tabs] {P:Program} {f:Nat} {A:Ans} (he:aS P f) (h:aW P f [] [] A):aL P f (p0 A):=by
 intro args S A' hA _ _
 unfold p0 at hA
 split at hA
 ·simp only [Xs] at hA
  subst hA
  exact ⟨he,h⟩
 ·cases hA
end Go.Pd
end
section
namespace Go.Pd
open Go.AL
mutual
theorem eqS_refl:∀a:Shape,eqS a a=true
 | ⟨k,p,n,ns,ps⟩=>by simp [eqS,eqL_refl ps]
theorem eqL_refl:∀a:List Shape,eqL a a=true
 | []=>rfl
 | a ::r=>by simp [eqL,eqS_refl a,eqL_refl r]
end
end Go.Pd
end
section
namespace Go.Pd
open Go.AL
def szI:List AL.Item→Nat
 | []=>0
 | x ::r=>max (sz x.shape) (szI r)
theorem pV:∀(l:List AL.Item) (x:AL.Item),x∈l→sz x.shape<=szI l
 | a ::r,x,h=>by
  simp only [szI]
  rcases List.mem_cons.1 h with rfl | h
  ·exact Nat.le_max_left _ _
  ·exact Nat.le_trans (pV r x h) (Nat.le_max_right _ _)
end Go.Pd
end
noncomputable section
namespace Go.Pd
open Go Go.AL
def gF:List Nam→Nam→Int→Int
 | [],_,_=>-1
 | a ::r,v,i=>if a=v then i else gF r v (i+1)
theorem rm:∀(a:List Nam) (v:Nam) (i:Int),0<=i→(0<=gF a v i↔v∈a)
 | [],v,i,_=>by simp [gF]
 | x ::r,v,i,hi=>by
  simp only [gF,List.mem_cons]
  by_cases e:x=v
  ·rw [if_pos e];exact ⟨fun _=>.inl e.symm,fun _=>hi⟩
  ·rw [if_neg e,rm r v (i+1) (by omega)]
   exact ⟨.inr,fun h=>h.elim (fun q=>absurd q.symm e) id⟩
def isU:List Nam→Str→Str→Bool
 | [],_,_=>false
 | x ::r,g,q=>(decide (x.pkg=g) && decide (x.name=q)) || isU r g q
theorem tY (x y:Nam):(decide (x.pkg=y.pkg) && (decide (x.name=y.name) && true))=decide (x=y):=by
 cases x;cases y
 rw [Bool.eq_iff_iff]
 simp
theorem tZ:∀(u:List Nam) (v:Nam),isU u v.pkg v.name=decide (v∈u)
 | [],_=>rfl
 | x ::r,v=>by
  have e:=tY x v
  rw [Bool.and_true] at e
  rw [isU,tZ r v,e,Bool.eq_iff_iff,Bool.or_eq_true,decide_eq_true_iff,decide_eq_true_iff,decide_eq_true_iff,List.mem_cons]
  exact or_congr eq_comm Iff.rfl
def aG (g:Str) (us:List Nam):List AL.Item→List AL.Item
 | []=>[]
 | x ::r=>if isU us g x.name then x ::aG g us r else aG g us r
theorem oH (g:Str) (us:List Nam):∀a b:List AL.Item,aG g us (a++b)=aG g us a++aG g us b
 | [],_=>rfl
 | c ::r,b=>by
  rw [List.cons_append,aG,aG,oH g us r b]
  split <;> rfl
theorem kx (g:Str) (us:List Nam):∀a:List AL.Item,(aG g us a).length<=a.length
 | []=>Nat.le_refl _
 | c ::r=>by
  have:=kx g us r
  rw [aG]
  split <;> simp only [List.length_cons] <;> omega
theorem rn (g:Str) (us:List Nam) (l:List AL.Item) (k:Nat) (d:AL.Item) (h:k < l.length) :
  aG g us (l.take (k+1))=if isU us g (l.getD k d).name then aG g us (l.take k)++[l.getD k d] else aG g us (l.take k):=by
 rw [ko l k d h,oH,aG]
 split
 ·rfl
 ·rw [aG,List.append_nil]
def sR:List AL.Item→Int→Int × Bool
 | [],n=>(n,true)
 | x ::r,n=>if 4000 < n+(20+sizeF x.shape 800) then (n,false) else sR r (n+(20+sizeF x.shape 800))
def fo:List Depd→Int→Int→Bool
 | [],_,_=>true
 | d ::r,n,i=>if 20<=i then false else if (sR d.items n).2 then fo r (sR d.items n).1 (i+1) else false
def fj:List AL.Item→List AL.Item→Bool
 | [],[]=>true
 | x ::r,y ::q=>(decide (x.kind=y.kind) && (decide (x.name=y.name) && eqS x.shape y.shape)) && fj r q
 | _,_=>false
theorem oI:∀l:List AL.Item,fj l l=true
 | []=>rfl
 | x ::r=>by rw [fj,oI r,Xd rfl,Xd rfl,eqS_refl x.shape];rfl
theorem rq:∀{a b:List AL.Item},a.length≠b.length→fj a b=false
 | [],[],h=>absurd rfl h
 | [],_ ::_,_=>rfl
 | _ ::_,[],_=>rfl
 | x ::r,y ::q,h=>by rw [fj,rq (a:=r) (b:=q) (fun e=>h (by simp [e])),Bool.and_false]
def sS (l:List Depd) (i k:Nat) (n:Int):Bool:=if (sR ((l.getD i (dfl (.st .dep))).items.drop k) n).2 then fo (l.drop (i+1)) (sR ((l.getD i (dfl (.st .dep))).items.drop k) n).1 (i+1) else false
def szD:List Depd→Nat
 | []=>0
 | d ::r=>max (szI d.items) (szD r)
theorem wO:∀(l:List Depd) (d:Depd),d∈l→∀x∈d.items,sz x.shape<=szD l
 | d ::r,e,h,x,hx=>by
  rw [szD]
  rcases List.mem_cons.1 h with rfl | h
  ·exact Nat.le_trans (pV _ x hx) (Nat.le_max_left _ _)
  ·exact Nat.le_trans (wO r e h x hx) (Nat.le_max_right _ _)
def nmU (s:Shape):Bool:=decide (s.names.length<=1048576) && decide (s.parts.length<=1048576)
end Go.Pd
end
section
namespace Go.Proofs.YtbhedkjcdhgkhaaGreatDoor.Join
open Go.AL Go.AL.Seat Go.Pd Go.ChangeShapes Go.WideShapes Go.RowKit Go.Lib Go.Shelf
set_option maxRecDepth 1000000
theorem xZ:ShapeAt Tryz.prog 53:=⟨_,_,_,_,_,9,Tryz.underlying53,by kernel_rfl,⟨rfl,rfl,rfl,rfl,rfl⟩,⟨by kernel_rfl,by kernel_rfl,by kernel_rfl,by kernel_rfl,by kernel_rfl⟩,by kernel_rfl,by kernel_rfl,by kernel_rfl,by kernel_rfl,by kernel_rfl,by kernel_rfl,by kernel_rfl⟩
def yy (P:Program) (t:TypeId):Bool:=match P.underlying t with
 | some (.struct fs)=>fs.toList.all fun f=>match P.underlying f.type with
  | some (.slice e)=>decide (16<=P.bytesOf e)
  | _=>true
 | _=>true
theorem y5 {P:Program} {t:TypeId} (h:yy P t=true):sQ P t:=by
 intro fs i f e h1 h2 h3
 unfold yy at h
 rw [h1] at h
 have:=List.all_eq_true.1 h f (List.mem_of_getElem? (by rw [Array.getElem?_toList];exact h2))
 simp only [h3] at this
 exact Xo this
theorem y7:ItemAtQ Tryz.prog 73:=⟨_,_,_,Tryz.underlying73,by kernel_rfl,⟨rfl,rfl,rfl⟩,⟨by kernel_rfl,by kernel_rfl,by kernel_rfl⟩,by kernel_rfl,by kernel_rfl,xZ,y5 (by kernel_rfl)⟩
theorem zA:DepAt Tryz.prog 38:=⟨_,_,73,Tryz.underlying38,by kernel_rfl,⟨rfl,rfl⟩,⟨by kernel_rfl,by kernel_rfl⟩,by kernel_rfl,by kernel_rfl,y7,Xo (by kernel_rfl)⟩
theorem zB:Tryz.prog.readableRec 38=true:=by kernel_rfl
theorem vg {d:Depd} (h:d.items.length<=1048576/\∀x∈d.items,allS (nmB 1048576) x.shape=true):d.items.length<=1048576/\∀x∈d.items,allS nmU x.shape=true:=h
variable {H:Type}
theorem wP (d:DataW H):1<=Rows.uptoBulk d:=by
 cases d with
 | lit l=>cases l <;> (unfold Rows.uptoBulk;omega)
 | _=>unfold Rows.uptoBulk;omega
theorem rr:∀l:List (DataW H),l.length<=Rows.uptoBulkAll l
 | []=>Nat.zero_le _
 | d ::r=>by
  have:=rr r
  have:=wP d
  unfold Rows.uptoBulkAll
  rw [List.length_cons]
  omega
theorem jF {d:DataW H}:∀{l:List (DataW H)},d∈l→Rows.uptoBulk d<=Rows.uptoBulkAll l
 | x ::r,h=>by
  unfold Rows.uptoBulkAll
  rcases List.mem_cons.1 h with rfl | h
  ·omega
  ·have:=jF h;omega
theorem vh (P:Program):GoodR (H:=H) P 1048576 1048576 (fun _ d=>Rows.uptoBulk d<=1048576) where
 str t s ht h:=by unfold Rows.uptoBulk at h;omega
 len t e es sp ht h h16:=by
  have:=rr es
  unfold Rows.uptoBulk at h
  omega
 el t e es sp ht h x hx:=by
  have:=jF hx
  unfold Rows.uptoBulk at h
  omega
 part t fs ps ht h i f p hf hp:=by
  have:=jF (List.mem_of_getElem? hp)
  unfold Rows.uptoBulk at h
  omega
theorem wQ {ds:List (DataW H)} (h:Rows.uptoSmall H ds=true) {d:DataW H} (hd:d∈ds):Rows.uptoBulk d<=1048576:=by
 have:=jF hd
 have:=Xo h
 omega
end Go.Proofs.YtbhedkjcdhgkhaaGreatDoor.Join
end
noncomputable section
namespace Go.AL
def evN {α:Type} (n:Nat) (k:Nat→α):α:=match n with | 0=>k 0 | m+1=>k (m+1)
def evI {α:Type} (n:Int) (k:Int→α):α:=match n with | .ofNat m=>evN m fun m=>k (.ofNat m) | .negSucc m=>evN m fun m=>k (.negSucc m)
def evL {α β:Type}:List β→(List β→α)→α
 | [],k=>k []
 | a ::r,k=>evL r fun r=>k (a ::r)
theorem aZ {α:Type} (n:Nat) (k:Nat→α):evN n k=k n:=by cases n <;> rfl
theorem sT {α:Type} (n:Int) (k:Int→α):evI n k=k n:=by
 cases n <;> (unfold evI;exact aZ _ _)
theorem cK {α β:Type}:∀(l:List β) (k:List β→α),evL l k=k l
 | [],_=>rfl
 | a ::r,k=>by rw [evL,cK r]
mutual
def evV {α:Type}:AV→(AV→α)→α
 | .int κ n,k=>evI n fun n=>k (.int κ n)
 | .bool true,k=>k (.bool true)
 | .bool false,k=>k (.bool false)
 | .str s,k=>evL s fun s=>k (.str s)
 | .lst τ xs none,k=>evL xs fun xs=>k (.lst τ xs none)
 | .lst τ xs (some i),k=>evL xs fun xs=>k (.lst τ xs (some i))
 | .row τ xs,k=>evL xs fun xs=>k (.row τ xs)
 | .arr i n w,k=>evN n fun n=>k (.arr i n w)
 | .aptr i n w o,k=>evN n fun n=>evN o fun o=>k (.aptr i n w o)
 | .cptr c,k=>evV c fun c=>k (.cptr c)
 | .agg cs,k=>evVs cs fun cs=>k (.agg cs)
 | .tup cs,k=>evVs cs fun cs=>k (.tup cs)
 | .fn f cs,k=>evVs cs fun cs=>k (.fn f cs)
 | .iface t a,k=>evV a fun a=>k (.iface t a)
 | .lstp τ xs i,k=>evL xs fun xs=>k (.lstp τ xs i)
 | .glst s n i,k=>evN s fun s=>evN n fun n=>k (.glst s n i)
 | .gptr i s n w o,k=>evN s fun s=>evN n fun n=>evN w fun w=>evN o fun o=>k (.gptr i s n w o)
 | .undef,k=>k .undef
 | .nils,k=>k .nils
 | .ptr i o,k=>k (.ptr i o)
 | .nilp,k=>k .nilp
 | .st n x,k=>k (.st n x)
 | .map i,k=>k (.map i)
 | .bptr i,k=>k (.bptr i)
 | .nilif,k=>k .nilif
 | .nilm,k=>k .nilm
 | .pt n x,k=>k (.pt n x)
 | .tptr τ n i,k=>k (.tptr τ n i)
def evVs {α:Type}:List AV→(List AV→α)→α
 | [],k=>k []
 | a ::r,k=>evV a fun a=>evVs r fun r=>k (a ::r)
end
mutual
theorem evV_eq {α:Type}:∀(a:AV) (k:AV→α),evV a k=k a
 | .int κ n,k=>by rw [evV,sT]
 | .bool true,k=>rfl
 | .bool false,k=>rfl
 | .str s,k=>by rw [evV,cK]
 | .lst τ xs none,k=>by rw [evV,cK]
 | .lst τ xs (some i),k=>by rw [evV,cK]
 | .row τ xs,k=>by rw [evV,cK]
 | .arr i n w,k=>by rw [evV,aZ]
 | .aptr i n w o,k=>by rw [evV,aZ,aZ]
 | .cptr c,k=>by rw [evV,evV_eq c]
 | .agg cs,k=>by rw [evV,evVs_eq cs]
 | .tup cs,k=>by rw [evV,evVs_eq cs]
 | .fn f cs,k=>by rw [evV,evVs_eq cs]
 | .iface t a,k=>by rw [evV,evV_eq a]
 | .lstp τ xs i,k=>by rw [evV,cK]
 | .glst _ _ _,k=>by rw [evV,aZ,aZ]
 | .gptr _ _ _ _ _,k=>by rw [evV,aZ,aZ,aZ,aZ]
 | .undef,k=>rfl
 | .nils,k=>rfl
 | .ptr _ _,k=>rfl
 | .nilp,k=>rfl
 | .st _ _,k=>rfl
 | .map _,k=>rfl
 | .bptr _,k=>rfl
 | .nilif,k=>rfl
 | .nilm,k=>rfl
 | .pt _ _,k=>rfl
 | .tptr _ _ _,k=>rfl
theorem evVs_eq {α:Type}:∀(l:List AV) (k:List AV→α),evVs l k=k l
 | [],k=>rfl
 | a ::r,k=>by rw [evVs,evV_eq a,evVs_eq r]
end
def evA {α:Type} (a:AV) (k:AV→α):α:=
 match a with
 | .int κ n=>evI n fun n=>k (.int κ n)
 | .bool b=>(match b with | true=>k (.bool true) | false=>k (.bool false))
 | .str s=>evL s fun s=>k (.str s)
 | .lst τ xs o=>evL xs fun xs=>(match o with | none=>k (.lst τ xs none) | some i=>k (.lst τ xs (some i)))
 | .row τ xs=>evL xs fun xs=>k (.row τ xs)
 | .arr i n w=>evN n fun n=>k (.arr i n w)
 | .aptr i n w o=>evN n fun n=>evN o fun o=>k (.aptr i n w o)
 | .ptr i o=>evN o fun o=>k (.ptr i o)
 | .cptr c=>evV c fun c=>k (.cptr c)
 | .agg cs=>evVs cs fun cs=>k (.agg cs)
 | .tup cs=>evVs cs fun cs=>k (.tup cs)
 | .fn f cs=>evVs cs fun cs=>k (.fn f cs)
 | .iface t a=>evV a fun a=>k (.iface t a)
 | .lstp τ xs i=>evL xs fun xs=>k (.lstp τ xs i)
 | .glst s n i=>evN s fun s=>evN n fun n=>k (.glst s n i)
 | .gptr i s n w o=>evN s fun s=>evN n fun n=>evN w fun w=>evN o fun o=>k (.gptr i s n w o)
 | a=>k a
theorem yY {α:Type} (a:AV) (k:AV→α):evA a k=k a:=by
 unfold evA
 split
 ·exact sT _ _
 ·split <;> rfl
 ·exact cK _ _
 ·rw [cK];split <;> rfl
 ·exact cK _ _
 ·exact aZ _ _
 ·rw [aZ,aZ]
 ·exact aZ _ _
 ·exact evV_eq _ _
 ·exact evVs_eq _ _
 ·exact evVs_eq _ _
 ·exact evVs_eq _ _
 ·exact evV_eq _ _
 ·exact cK _ _
 ·rw [aZ,aZ]
 ·rw [aZ,aZ,aZ,aZ]
 ·rfl
mutual
def evW {α:Type}:AV→(AV→α)→α
 | .int κ n,k=>evI n fun n=>k (.int κ n)
 | .bool true,k=>k (.bool true)
 | .bool false,k=>k (.bool false)
 | .lst τ xs none,k=>k (.lst τ xs none)
 | .lst τ xs (some i),k=>k (.lst τ xs (some i))
 | .row τ xs,k=>evL xs fun xs=>k (.row τ xs)
 | .arr i n w,k=>evN n fun n=>k (.arr i n w)
 | .aptr i n w o,k=>evN n fun n=>evN o fun o=>k (.aptr i n w o)
 | .cptr c,k=>evW c fun c=>k (.cptr c)
 | .agg cs,k=>evWs cs fun cs=>k (.agg cs)
 | .tup cs,k=>evWs cs fun cs=>k (.tup cs)
 | .fn f cs,k=>evWs cs fun cs=>k (.fn f cs)
 | .iface t a,k=>evW a fun a=>k (.iface t a)
 | .lstp τ xs i,k=>evL xs fun xs=>k (.lstp τ xs i)
 | .glst s n i,k=>evN s fun s=>evN n fun n=>k (.glst s n i)
 | .gptr i s n w o,k=>evN s fun s=>evN n fun n=>evN w fun w=>evN o fun o=>k (.gptr i s n w o)
 | .str s,k=>k (.str s)
 | .undef,k=>k .undef
 | .nils,k=>k .nils
 | .ptr i o,k=>evN o fun o=>k (.ptr i o)
 | .nilp,k=>k .nilp
 | .st n x,k=>k (.st n x)
 | .map i,k=>k (.map i)
 | .bptr i,k=>k (.bptr i)
 | .nilif,k=>k .nilif
 | .nilm,k=>k .nilm
 | .pt n x,k=>k (.pt n x)
 | .tptr τ n i,k=>k (.tptr τ n i)
def evWs {α:Type}:List AV→(List AV→α)→α
 | [],k=>k []
 | a ::r,k=>evW a fun a=>evWs r fun r=>k (a ::r)
end
mutual
theorem evW_eq {α:Type}:∀(a:AV) (k:AV→α),evW a k=k a
 | .int κ n,k=>by rw [evW,sT]
 | .bool true,k=>rfl
 | .bool false,k=>rfl
 | .str s,k=>rfl
 | .lst τ xs none,k=>rfl
 | .lst τ xs (some i),k=>rfl
 | .row τ xs,k=>by rw [evW,cK]
 | .arr i n w,k=>by rw [evW,aZ]
 | .aptr i n w o,k=>by rw [evW,aZ,aZ]
 | .cptr c,k=>by rw [evW,evW_eq c]
 | .agg cs,k=>by rw [evW,evWs_eq cs]
 | .tup cs,k=>by rw [evW,evWs_eq cs]
 | .fn f cs,k=>by rw [evW,evWs_eq cs]
 | .iface t a,k=>by rw [evW,evW_eq a]
 | .lstp τ xs i,k=>by rw [evW,cK]
 | .glst _ _ _,k=>by rw [evW,aZ,aZ]
 | .gptr _ _ _ _ _,k=>by rw [evW,aZ,aZ,aZ,aZ]
 | .undef,k=>rfl
 | .nils,k=>rfl
 | .ptr _ o,k=>by rw [evW,aZ]
 | .nilp,k=>rfl
 | .st _ _,k=>rfl
 | .map _,k=>rfl
 | .bptr _,k=>rfl
 | .nilif,k=>rfl
 | .nilm,k=>rfl
 | .pt _ _,k=>rfl
 | .tptr _ _ _,k=>rfl
theorem evWs_eq {α:Type}:∀(l:List AV) (k:List AV→α),evWs l k=k l
 | [],k=>rfl
 | a ::r,k=>by rw [evWs,evW_eq a,evWs_eq r]
end
def y8:Op→Bool
 | .load _ _=>true
 | .move _=>true
 | _=>false
def evQ {α:Type} (o:Oper) (a:AV) (k:AV→α):α:=match y8 o.op with | true=>evW a k | false=>evA a k
theorem yZ {α:Type} (o:Oper) (a:AV) (k:AV→α):evQ o a k=k a:=by
 unfold evQ
 split
 ·exact evW_eq _ _
 ·exact yY _ _
def evO {α:Type}:SObj→(SObj→α)→α
 | .box c,k=>evW c fun c=>k (.box c)
 | .tail τ n,k=>evN n fun n=>k (.tail τ n)
 | .map κ τ m,k=>evL m fun m=>k (.map κ τ m)
 | .bld t u l,k=>evL l fun l=>k (.bld t u l)
 | .tailp τ n x,k=>evN n fun n=>k (.tailp τ n x)
 | .grow τ s xs,k=>evN s fun s=>evL xs fun xs=>k (.grow τ s xs)
theorem z6 {α:Type} (o:SObj) (k:SObj→α):evO o k=k o:=by
 cases o with
 | box c=>exact evW_eq _ _
 | tail τ n=>unfold evO;exact aZ _ _
 | map κ τ m=>exact cK _ _
 | bld t u l=>exact cK _ _
 | tailp τ n x=>unfold evO;exact aZ _ _
 | grow τ s xs=>show evN s (fun s=>evL xs fun xs=>k (.grow τ s xs))=_;rw [aZ,cK]
def evB {α:Type}:List (Nat × SObj)→(List (Nat × SObj)→α)→α
 | [],k=>k []
 | (i,o) ::r,k=>evO o fun o=>evB r fun r=>k ((i,o) ::r)
theorem pW {α:Type}:∀(l:List (Nat × SObj)) (k:List (Nat × SObj)→α),evB l k=k l
 | [],k=>rfl
 | (i,o) ::r,k=>by rw [evB,z6,pW r]
def evS {α:Type} (s:St) (k:St→α):α:=evL s.t fun t=>evB s.b fun b=>k ⟨t,b⟩
theorem wR {α:Type} (s:St) (k:St→α):evS s k=k s:=by rw [evS,cK,pW]
theorem vi {ob:Option DP} {q:Prop} (h:okO ob=true) (hq:q):lZ ob q:=by
 cases ob with
 | none=>exact hq
 | some d=>exact ⟨d.h h,hq⟩
def u5 {α:Sort _} (ops:List Oper) (o:Oper) (T:Nat→AV) (bad:α) (on off:Unit→α):α:=
 match o.guard with
 | none=>on ()
 | some (j,want)=>
  match (nth ops j).bind (·.dst) with
  | none=>bad
  | some d=>
   match T d with
   | .bool true=>if want then on () else off ()
   | .bool false=>if want then off () else on ()
   | .tup []=>off ()
   | _=>bad
theorem sU {α:Type} {ops:List Oper} {o:Oper} {T:Nat→AV} {y:α} {on off:Unit→Option α} {on' off':Unit→Prop} (hon:on ()=some y→on' ()) (hoff:off ()=some y→off' ())
  (h:u5 ops o T none on off=some y):u5 ops o T False on' off':=by
 unfold u5 at h ⊢
 cases hg:o.guard with
 | none=>simp only [hg] at h ⊢;exact hon h
 | some p=>
  obtain ⟨j,want⟩:=p
  simp only [hg] at h ⊢
  cases hd:(nth ops j).bind (·.dst) with
  | none=>simp only [hd] at h;cases h
  | some d=>
   simp only [hd] at h ⊢
   generalize T d=v at h ⊢
   split at h
   ·split at h
    ·rename_i hw;exact (if_pos hw).symm ▸ hon h
    ·rename_i hw;exact (if_neg hw).symm ▸ hoff h
   ·split at h
    ·rename_i hw;exact (if_pos hw).symm ▸ hoff h
    ·rename_i hw;exact (if_neg hw).symm ▸ hon h
   ·exact hoff h
   ·cases h
def gdB (ops:List Oper) (g:Bool) (i:Nat):Bool:=match g with | true=>dz ops i | false=>false
def wS (ops:List Oper):Bool:=ops.any fun o=>o.guard.isSome
theorem z7 (ops:List Oper) (i:Nat):gdB ops (wS ops) i=dz ops i:=by
 unfold gdB
 cases h:wS ops with
 | true=>rfl
 | false=>
  show false=dz ops i
  symm
  unfold wS at h
  rw [List.any_eq_false] at h
  unfold dz
  rw [List.any_eq_false]
  intro o ho
  have:=h o ho
  cases hg:o.guard with
  | none=>simp
  | some x=>rw [hg] at this;exact absurd rfl this
def ru (C:Cfg) (ops:List Oper) (g:Bool):List Oper→Nat→St→List aV→Option (St × List aV)
 | [],_,s,fs=>some (s,fs.reverse)
 | o ::r,i,s,fs=>
  u5 ops o (aJ s.t) none
   (fun _=>
    match aj C o (aJ s.t) (ah s.b) with
    | none=>none
    | some e=>
     match okO e.ob,bd C o (aJ s.t) (ah s.b) with
     | true,none=>
      (match gdB ops g i,e.val with
      | true,.bool b=>(match b with
       | true=>ru C ops g r (i+1) ⟨lY s.t o.dst (.bool true),bz s.b e.upd⟩ ((ar C o (aJ s.t) (ah s.b),e.upd.map (·.1)) ::fs)
       | false=>ru C ops g r (i+1) ⟨lY s.t o.dst (.bool false),bz s.b e.upd⟩ ((ar C o (aJ s.t) (ah s.b),e.upd.map (·.1)) ::fs))
      | true,_=>none
      | false,v=>evQ o v fun v=>ru C ops g r (i+1) ⟨lY s.t o.dst v,bz s.b e.upd⟩ ((ar C o (aJ s.t) (ah s.b),e.upd.map (·.1)) ::fs))
     | _,_=>none)
   (fun _=>ru C ops g r (i+1) ⟨lY s.t o.dst (.tup []),s.b⟩ (([],[]) ::fs))
theorem u6 {C:Cfg} {ops:List Oper} {draw:Bool} {kp:AV→St→Prop} {k:St→List aV→Prop} {s':St} {fs':List aV} (hk:k s' fs') :
  ∀(l:List Oper) (i:Nat) (s:St) (fs:List aV),ru C ops (wS ops) l i s fs=some (s',fs')→b5 C ops draw kp l i s fs k
 | [],_,s,fs,h=>by
  simp only [ru,Xs,Prod.mk.injEq] at h
  obtain ⟨rfl,rfl⟩:=h
  exact hk
 | o ::r,i,s,fs,h=>by
  have ih:=u6 (C:=C) (ops:=ops) (draw:=draw) (kp:=kp) hk r
  rw [ru,z7] at h
  refine sU (on':=fun _=>
   match aj C o (aJ s.t) (ah s.b) with
   | none=>False
   | some e=>
    lZ e.ob
    (match bd C o (aJ s.t) (ah s.b) with
    | none=>
     (match dz ops i,e.val with
     | true,.bool b=>
      sp b (b5 C ops draw kp r (i+1) (s.put o.dst {e with val:=.bool true}) ((ar C o (aJ s.t) (ah s.b),e.upd.map (·.1)) ::fs) k)
       (b5 C ops draw kp r (i+1) (s.put o.dst {e with val:=.bool false}) ((ar C o (aJ s.t) (ah s.b),e.upd.map (·.1)) ::fs) k)
     | true,_=>False
     | false,_=>b5 C ops draw kp r (i+1) (s.put o.dst e) ((ar C o (aJ s.t) (ah s.b),e.upd.map (·.1)) ::fs) k)
    | some (b,pv,u)=>
     (match dz ops i with
     | true=>False
     | false=>sp b (pa C ops draw kp r i s fs (ar C o (aJ s.t) (ah s.b),e.upd.map (·.1)) pv u) (b5 C ops draw kp r (i+1) (s.put o.dst e) ((ar C o (aJ s.t) (ah s.b),e.upd.map (·.1)) ::fs) k))))
   (off':=fun _=>b5 C ops draw kp r (i+1) ⟨lY s.t o.dst (.tup []),s.b⟩ (([],[]) ::fs) k) ?_ (fun h=>ih _ _ _ h) h
  intro h
  split at h
  ·cases h
  ·rename_i e he
   split at h
   ·rename_i ho hp
    refine vi ho ?_
    try simp only [hp]
    split at h
    ·rename_i b hg hv
     try simp only [hg,hv]
     split at h
     ·exact ih _ _ _ h
     ·exact ih _ _ _ h
    ·cases h
    ·rename_i v hg
     simp only [yZ] at h
     try simp only [hg]
     exact ih _ _ _ h
   ·cases h
def y9 (ops:List Oper) (i j:Nat):Bool:=((cJ ops).getD j 0).testBit i
def iU:Nat→List aV→List (Nat × aV)
 | _,[]=>[]
 | i,f ::r=>match f with | ([],[])=>iU (i+1) r | f=>(i,f) ::iU (i+1) r
def yb (ops:List Oper) (i j:Nat):Bool:=match nth ops i,nth ops j with | some x,some y=>jR x y | _,_=>false
def ky (ops:List Oper):List (Nat × aV)→Bool
 | []=>true
 | x ::r=>r.all (fun p=>y9 ops x.1 p.1 || (bP x.2 p.2 || yb ops x.1 p.1)) && ky ops r
def u7 (ops:List Oper):Bool:=
 ((List.range ops.length).all fun j=>(List.range j).all fun i=>y9 ops i j || (match nth ops i,nth ops j with | some x,some y=>dA ops x y | _,_=>false)) &&
 (ops.zipIdx.all fun (o,j)=>o.after.all fun e=>!Region.binds .any e || Nat.blt e.on j)
def sV (ops:List Oper) (fs:List aV):Bool:=u7 ops && du fs ops.length && ky ops (iU 0 fs)
theorem nB {α:Type}:∀{l:List α} {i:Nat},i < l.length→∃x,nth l i=some x
 | a ::_,0,_=>⟨a,rfl⟩
 | _ ::r,i+1,h=>nB (l:=r) (Nat.lt_of_succ_lt_succ h)
theorem oJ:∀{fs:List aV} {i0 k:Nat} {f:aV},nth fs k=some f→f≠([],[])→(i0+k,f)∈iU i0 fs
 | g ::r,i0,0,f,h,hf=>by
  cases h
  unfold iU
  split
  ·exact absurd rfl hf
  ·exact List.mem_cons_self ..
 | g ::r,i0,k+1,f,h,hf=>by
  have ih:=oJ (fs:=r) (i0:=i0+1) (k:=k) h hf
  rw [show i0+(k+1)=i0+1+k by omega]
  unfold iU
  split
  ·exact ih
  ·exact List.mem_cons_of_mem _ ih
theorem kX {ops:List Oper}:∀{fs:List aV} {i0 a b:Nat} {f g:aV},ky ops (iU i0 fs)=true→a < b→nth fs a=some f→nth fs b=some g→f≠([],[])→g≠([],[])→(y9 ops (i0+a) (i0+b) || (bP f g || yb ops (i0+a) (i0+b)))=true
 | x ::r,i0,0,b+1,f,g,h,_,hf,hg,h1,h2=>by
  cases hf
  have hm:=oJ (fs:=r) (i0:=i0+1) (k:=b) hg h2
  unfold iU at h
  split at h
  ·exact absurd rfl h1
  ·unfold ky at h
   rw [Bool.and_eq_true,List.all_eq_true] at h
   have:=h.1 _ hm
   rwa [show i0+1+b=i0+(b+1) by omega] at this
 | x ::r,i0,a+1,b+1,f,g,h,hab,hf,hg,h1,h2=>by
  have hr:ky ops (iU (i0+1) r)=true:=by
   unfold iU at h
   split at h
   ·exact h
   ·unfold ky at h
    rw [Bool.and_eq_true] at h
    exact h.2
  have:=kX (fs:=r) (i0:=i0+1) (a:=a) (b:=b) hr (by omega) hf hg h1 h2
  rwa [show i0+1+a=i0+(a+1) by omega,show i0+1+b=i0+(b+1) by omega] at this
theorem sW (g:aV):bP ([],[]) g=true:=by
 unfold bP mb
 simp
theorem rv (f:aV):bP f ([],[])=true:=by
 unfold bP mb
 simp
theorem jG {α:Type}:∀{l:List α} {n:Nat},du l n=true→l.length=n
 | [],0,_=>rfl
 | _ ::r,n+1,h=>by rw [List.length_cons,jG (l:=r) h]
theorem vj {ops:List Oper} {fs:List aV} (h:sV ops fs=true):cN ops fs=true:=by
 unfold sV u7 at h
 simp only [Bool.and_eq_true,List.all_eq_true,List.mem_range] at h
 obtain ⟨⟨⟨h1,h2⟩,h3⟩,h4⟩:=h
 have hl:=jG h3
 unfold cN
 rw [Bool.and_eq_true]
 refine ⟨?_,by rw [List.all_eq_true];intro p hp;have:=h2 p hp;exact (by obtain ⟨o,j⟩:=p;simpa using this)⟩
 rw [List.all_eq_true]
 intro j hj
 rw [List.all_eq_true]
 intro i hi
 rw [List.mem_range] at hj hi
 have k:=h1 j hj i hi
 rw [Bool.or_eq_true] at k ⊢
 rcases k with k | k
 ·exact .inl k
 obtain ⟨x,hx⟩:=nB (l:=ops) (i:=i) (by omega)
 obtain ⟨y,hy⟩:=nB (l:=ops) (i:=j) hj
 obtain ⟨f,hf⟩:=nB (l:=fs) (i:=i) (by omega)
 obtain ⟨g,hg⟩:=nB (l:=fs) (i:=j) (by omega)
 rw [hx,hy] at k
 rw [hx,hy,hf,hg]
 have q:y9 ops i j=true∨(bP f g || yb ops i j)=true:=by
  by_cases c1:f=([],[])
  ·rw [c1];exact .inr (by rw [sW g];rfl)
  ·by_cases c2:g=([],[])
   ·rw [c2];exact .inr (by rw [rv f];rfl)
   ·have:=kX h4 hi hf hg c1 c2
    rw [Nat.zero_add,Nat.zero_add,Bool.or_eq_true] at this
    exact this
 rcases q with q | q
 ·exact .inl q
 ·unfold yb at q
  rw [hx,hy] at q
  exact .inr (by rw [Bool.and_eq_true];exact ⟨k,q⟩)
end Go.AL
end
noncomputable section
namespace Go.AL
variable [Tabs]
def wT:List (Nat × SObj)→Nat→Nat
 | [],m=>m *1000+998
 | (i,_) ::r,m=>wT r (match Nat.ble m (i / 1000) with | true=>i / 1000+1 | false=>m)
def pX:List Nat→St→Option St
 | [],s=>some s
 | i ::r,s=>(match vT i (wT s.b 100) s with | some s=>pX r s | none=>none)
theorem jH {F:Fr} {a:Act}:∀(l:List Nat) {s s':St} {Ω:Om},Holds F s.abs a Ω→pX l s=some s'→∃Ω',Ω'.w=Ω.w/\Holds F s'.abs a Ω'
 | [],s,s',Ω,h,hr=>by cases hr;exact ⟨Ω,rfl,h⟩
 | i ::r,s,s',Ω,h,hr=>by
  unfold pX at hr
  split at hr
  ·rename_i s1 h1
   obtain ⟨Ω1,e1,g1⟩:=j8 h h1
   obtain ⟨Ω2,e2,g2⟩:=jH r g1 hr
   exact ⟨Ω2,e2.trans e1,g2⟩
  ·cases hr
def sX (ops:List Oper) (s:St):Option St:=
 match enter ops s with
 | some s'=>some s'
 | none=>(match pX ((s.b.map (·.1)).filter fun i=>tE (me ops) (pb ops) i && !b9 i) s with | some s'=>enter ops s' | none=>none)
theorem pY {F:Fr} {ops:List Oper} {s s':St} {a:Act} {Ω:Om} (h:Holds F s.abs a Ω) (he:sX ops s=some s'):∃Ω',Ω'.w=Ω.w/\Holds F s'.abs a Ω':=by
 unfold sX at he
 split at he
 ·rename_i s1 h1;cases he;exact ie h h1
 ·split at he
  ·rename_i s1 h1
   obtain ⟨Ω1,e1,g1⟩:=jH _ h h1
   obtain ⟨Ω2,e2,g2⟩:=ie g1 he
   exact ⟨Ω2,e2.trans e1,g2⟩
  ·cases he
end Go.AL
end
noncomputable section
namespace Go.AL
def wU (k:Nat) (s:St):Option St:=
 match ah s.b k with
 | some (.tailp τ n x)=>
  if ((s.t.flatMap (fun y=>lensV k y.2)++s.b.flatMap (fun y=>yq k y.2)).all fun m=>Nat.beq m n)=true then
   some ⟨s.t.map fun y=>(y.1,finV k τ x y.2),(l6 s.b k (.tail τ (n+1))).map fun y=>(y.1,um k τ x y.2)⟩ else none
 | _=>some s
def u9:List Nat→St→Option St
 | [],s=>some s
 | k ::r,s=>(match wU k s with | some s=>u9 r s | none=>none)
theorem oK {n:Nat} {q:Prop} (hq:q):∀l:List Nat,(l.all fun m=>Nat.beq m n)=true→pd n l q
 | [],_=>hq
 | m ::r,h=>by
  rw [List.all_cons,Bool.and_eq_true] at h
  exact ⟨Nat.eq_of_beq_eq_true h.1,oK hq r h.2⟩
theorem wV {k:Nat} {s s':St} {Q:St→Prop} (h:wU k s=some s') (hq:Q s'):rW k s Q:=by
 unfold wU at h
 unfold rW
 generalize hb:ah s.b k=b at h ⊢
 cases b with
 | none=>cases h;exact hq
 | some o=>
  cases o with
  | tailp τ n x=>
   dsimp only at h ⊢
   split at h
   ·rename_i ha
    cases h
    exact oK hq _ ha
   ·cases h
  | _=>cases h;exact hq
theorem ry {Q:St→Prop} {s':St} (hq:Q s'):∀(l:List Nat) (s:St),u9 l s=some s'→rX l s Q
 | [],s,h=>by cases h;exact hq
 | k ::r,s,h=>by
  unfold u9 at h
  split at h
  ·rename_i s1 h1
   exact wV h1 (ry hq r s1 h)
  ·cases h
def trimM (keep:Nat) (s:St):St:=⟨s.t.filter fun x=>Nat.beq (Nat.land (Nat.shiftRight keep x.1) 1) 1,s.b⟩
def z8 (C:Cfg) (keep:Nat) (ops:Array Oper) (draw:Bool) (s:St):Option St:=
 match ru C ops.toList (wS ops.toList) ops.toList 0 s [] with
 | none=>none
 | some (s,fs)=>
  match u9 (lx s.b) s with
  | none=>none
  | some s=>
   match draw with
   | false=>evS (trimM keep s) some
   | true=>(match sV ops.toList fs with | true=>evS (trimM keep s) some | false=>none)
theorem Holds.trimM [Tabs] {F:Fr} {s:St} {a:Act} {Ω:Om} (h:Holds F s.abs a Ω) (keep:Nat):Holds F (trimM keep s).abs a Ω:=by
 refine ⟨fun i=>?_,h.size,h.defers,h.slots,h.dom,h.inj,h.pubok,h.keep,h.frame⟩
 have e:(AL.trimM keep s).abs.T i=if Nat.beq (Nat.land (Nat.shiftRight keep i) 1) 1=true then aJ s.t i else .undef:=fD s.t (fun i=>Nat.beq (Nat.land (Nat.shiftRight keep i) 1) 1) i
 rw [e]
 split
 ·exact h.tmps i
 ·exact .undef _
theorem sY [Tabs] {P:Program} {C:Cfg} {F:Fr} (hm:P.follows .mixedOrders=true) (hT:aE P C.tbl) (hS:ba P C.spec) {keep:Nat} {id:Nat} {ops:Array Oper} {draw:Bool} {s s':St} {a:Act} {Ω:Om}
  (hdst:∀(o:Oper),o∈ops.toList→∀d,o.dst=some d→d < F.n) (h:z8 C keep ops draw s=some s') (hh:Holds F s.abs a Ω):(Code.region id ops draw).wp P (QL F fun y t=>y=.normal/\t=s') a Ω.w:=by
 have key:b5 C ops.toList draw (fun _ _=>False) ops.toList 0 s [] fun s2 fs=>yJ s2 fun s3=>s'=trimM keep s3/\(draw=true→cN ops.toList fs=true):=by
  unfold z8 at h
  split at h
  ·cases h
  ·rename_i s1 fs h1
   refine u6 ?_ _ _ _ _ h1
   split at h
   ·cases h
   ·rename_i s2 h2
    refine ry ?_ _ _ h2
    split at h
    ·rw [wR] at h
     cases h
     exact ⟨rfl,fun q=>by cases q⟩
    ·split at h
     ·rename_i hi
      rw [wR] at h
      cases h
      exact ⟨rfl,fun _=>vj hi⟩
     ·cases h
 refine jz hm hT hS hdst key (fun hdr s2 fs hk=>let ⟨s3,h3⟩:=ki _ hk;h3.2 hdr) hh (fun s2 fs a' Ω' hk h'=>
   let ⟨s3,Ω3,g1,g2,g3⟩:=n9 h' hk
   ⟨.normal,trimM keep s3,Ω3,rfl,g1,g2.trimM keep,rfl,g3.1.symm⟩)
  (fun pv s2 a' Ω' v hk _ _=>hk.elim)
def ua (f:St→Option (SX × St)):Nat→St→Option (SX × St)
 | 0,_=>none
 | n+1,s=>
  match f s with
  | some (.normal,s')=>ua f n s'
  | r=>r
def ga (C:Cfg) (keep:Nat) (pubs:List (Nat × List Nat)) (N:Nat):Code→St→Option (SX × St)
 | .skip,s=>some (.normal,s)
 | .seq a b,s=>
  (match ga C keep pubs N a s with
  | some (.normal,s')=>ga C keep pubs N b s'
  | r=>r)
 | .cond c a b,s=>
  (match opd (aJ s.t) c with
  | .bool true=>ga C keep pubs N a s
  | .bool false=>ga C keep pubs N b s
  | _=>none)
 | .block id c,s=>
  (match ga C keep pubs N c s with
  | some (.exit j,s')=>if j ==id then some (.normal,s') else some (.exit j,s')
  | r=>r)
 | .exit id,s=>some (.exit id,s)
 | .scope c,s=>ga C keep pubs N c s
 | .label _,s=>some (.normal,s)
 | .ret,s=>some (.ret,s)
 | .region id ops draw,s=>
  (match jT (mf pubs id) s with
  | none=>none
  | some s=>
   match sX ops.toList s with
   | none=>none
   | some s=>
    match z8 C keep ops draw s with
    | some s=>some (.normal,s)
    | none=>none)
 | .loop c,s=>ua (ga C keep pubs N c) N s
 | _,_=>none
variable [Tabs]
variable {P:Program} {C:Cfg} {F:Fr}
theorem sZ (hm:P.follows .mixedOrders=true) (hT:aE P C.tbl) (hS:ba P C.spec) (keep:Nat) (pubs:List (Nat × List Nat)) (N:Nat) :
  ∀(c:Code) (s:St) (x:SX) (s':St) (a:Act) (Ω:Om),ga C keep pubs N c s=some (x,s')→bj F.n c=true→Holds F s.abs a Ω→c.wp P (QL F fun y t=>y=x/\t=s') a Ω.w:=by
 intro c
 induction c with
 | skip=>intro s x s' a Ω h _ hh;cases h;exact wp_skip ⟨.normal,s,Ω,rfl,rfl,hh,rfl,rfl⟩
 | region id ops draw=>
  intro s x s' a Ω h hd hh
  unfold ga at h
  split at h
  ·cases h
  ·rename_i s0 h0
   obtain ⟨Ω0,e0,g0⟩:=gA _ hh h0
   split at h
   ·cases h
   ·rename_i s1 h1
    obtain ⟨Ω1,e1,g1⟩:=pY g0 h1
    have hdst:∀(o:Oper),o∈ops.toList→∀d,o.dst=some d→d < F.n:=by
     intro o ho d hod
     simp only [bj,List.all_eq_true] at hd
     have:=hd o ho
     rw [hod] at this
     simpa using this
    split at h
    ·rename_i s2 h2
     cases h
     rw [←e0,←e1]
     exact sY hm hT hS hdst h2 g1
    ·cases h
 | seq x y ihx ihy=>
  intro s z s' a Ω h hd hh
  simp only [bj,Bool.and_eq_true] at hd
  unfold ga at h
  cases h1:ga C keep pubs N x s with
  | none=>rw [h1] at h;cases h
  | some r=>
   obtain ⟨e1,s1⟩:=r
   rw [h1] at h
   refine wp_seq (wp_mono (ihx s e1 s1 a Ω h1 hd.1 hh) ?_)
   intro e a' w' hq
   obtain ⟨e2,s2,Ω',g1,g2,g3,g4,g5⟩:=hq
   subst g2 g4 g5
   cases e2 with
   | normal=>cases g1;exact ihy _ z s' a' Ω' h hd.2 g3
   | exit id=>cases g1;cases h;exact ⟨.exit id,_,Ω',rfl,rfl,g3,rfl,rfl⟩
   | ret=>cases g1;cases h;exact ⟨.ret,_,Ω',rfl,rfl,g3,rfl,rfl⟩
   | pan pv=>obtain ⟨v,rfl,hv⟩:=g1;cases h;exact ⟨.pan pv,_,Ω',⟨v,rfl,hv⟩,rfl,g3,rfl,rfl⟩
 | cond c x y ihx ihy=>
  intro s z s' a Ω h hd hh
  simp only [bj,Bool.and_eq_true] at hd
  unfold ga at h
  have hv:=aF hh c
  split at h
  ·rename_i hb
   have hb':opd s.abs.T c=.bool true:=hb
   rw [hb'] at hv
   exact wp_cond hv.bool_inv (ihx _ z s' a Ω h hd.1 hh)
  ·rename_i hb
   have hb':opd s.abs.T c=.bool false:=hb
   rw [hb'] at hv
   exact wp_cond hv.bool_inv (ihy _ z s' a Ω h hd.2 hh)
  ·cases h
 | block id c ih=>
  intro s z s' a Ω h hd hh
  simp only [bj] at hd
  unfold ga at h
  cases h1:ga C keep pubs N c s with
  | none=>rw [h1] at h;cases h
  | some r=>
   obtain ⟨e1,s1⟩:=r
   rw [h1] at h
   refine wp_block (wp_mono (ih s e1 s1 a Ω h1 hd hh) ?_)
   intro e a' w' hq
   obtain ⟨e2,s2,Ω',g1,g2,g3,g4,g5⟩:=hq
   subst g2 g4 g5
   cases e2 with
   | normal=>cases g1;cases h;exact ⟨.normal,_,Ω',rfl,rfl,g3,rfl,rfl⟩
   | ret=>cases g1;cases h;exact ⟨.ret,_,Ω',rfl,rfl,g3,rfl,rfl⟩
   | pan pv=>obtain ⟨v,rfl,hv⟩:=g1;cases h;exact ⟨.pan pv,_,Ω',⟨v,rfl,hv⟩,rfl,g3,rfl,rfl⟩
   | exit j=>
    cases g1
    simp only [sG,Exit.inBlock]
    by_cases hj:j=id
    ·subst hj
     simp only [beq_self_eq_true,if_true] at h
     cases h
     simp only [if_true]
     exact ⟨.normal,_,Ω',rfl,rfl,g3,rfl,rfl⟩
    ·simp only [beq_iff_eq,hj,if_false] at h
     cases h
     rw [if_neg hj]
     exact ⟨.exit j,_,Ω',rfl,rfl,g3,rfl,rfl⟩
 | loop c ih=>
  intro s z s' a Ω h hd hh
  simp only [bj] at hd
  unfold ga at h
  refine wp_loop_rounds N ?_
  have key:∀(n:Nat) (s:St) (a:Act) (Ω:Om),ua (ga C keep pubs N c) n s=some (z,s')→Holds F s.abs a Ω→Code.rounds P c (QL F fun y t=>y=z/\t=s') n a Ω.w:=by
   intro n
   induction n with
   | zero=>intro s a Ω h _;cases h
   | succ n ihn=>
    intro s a Ω h hh
    rw [rounds_succ]
    unfold ua at h
    cases h1:ga C keep pubs N c s with
    | none=>rw [h1] at h;cases h
    | some r=>
     obtain ⟨e1,s1⟩:=r
     rw [h1] at h
     refine wp_mono (ih s e1 s1 a Ω h1 hd hh) ?_
     intro e a' w' hq
     obtain ⟨e2,s2,Ω',g1,g2,g3,g4,g5⟩:=hq
     subst g2 g4 g5
     cases e2 with
     | normal=>cases g1;exact ihn _ a' Ω' h g3
     | exit id=>cases g1;cases h;exact ⟨.exit id,_,Ω',rfl,rfl,g3,rfl,rfl⟩
     | ret=>cases g1;cases h;exact ⟨.ret,_,Ω',rfl,rfl,g3,rfl,rfl⟩
     | pan pv=>obtain ⟨v,rfl,hv⟩:=g1;cases h;exact ⟨.pan pv,_,Ω',⟨v,rfl,hv⟩,rfl,g3,rfl,rfl⟩
  exact key N s a Ω h hh
 | exit id=>intro s x s' a Ω h _ hh;cases h;exact wp_exit ⟨.exit id,s,Ω,rfl,rfl,hh,rfl,rfl⟩
 | ret=>intro s x s' a Ω h _ hh;cases h;exact wp_ret ⟨.ret,s,Ω,rfl,rfl,hh,rfl,rfl⟩
 | rangeFunc g ps x y _ _=>intro s z s' a Ω h;cases h
 | scope c ih=>
  intro s z s' a Ω h hd hh
  simp only [bj] at hd
  unfold ga at h
  refine wp_scope_straight (wp_mono (ih s z s' a Ω h hd hh) ?_)
  intro e a' w' hq
  obtain ⟨e2,s2,Ω',h1,h2,h3,h4⟩:=hq
  cases e2 with
  | normal=>cases h1;exact ⟨.normal,_,Ω',rfl,h2,h3,h4⟩
  | exit id=>cases h1;exact ⟨.exit id,_,Ω',rfl,h2,h3,h4⟩
  | ret=>cases h1;exact ⟨.ret,_,Ω',rfl,h2,h3,h4⟩
  | pan pv=>obtain ⟨v,rfl,hv⟩:=h1;exact ⟨.pan pv,_,Ω',⟨v,rfl,hv⟩,h2,h3,h4⟩
 | label l=>intro s x s' a Ω h _ hh;cases h;exact wp_label ⟨.normal,s,Ω,rfl,rfl,hh,rfl,rfl⟩
 | goto l=>intro s z s' a Ω h;cases h
 | refuse why=>intro s z s' a Ω h;cases h
end Go.AL
end
noncomputable section
namespace Go.AL
variable [Tabs]
structure RC where
 r0:Code
 rest:Code
 crest:Code
 t5:Nat
 caps:List Operand
 t6:Nat
 t3:Nat
theorem oL:∀(u S:List (Nat × SObj)) (i:Nat),aO (u.map (·.1))=true→ah (bz S u) i=(ah u i).or (ah S i)
 | [],S,i,_=>by simp [bz,ay,aw]
 | (j,o) ::r,S,i,h=>by
  simp only [List.map_cons,aO,Bool.and_eq_true,Bool.not_eq_true'] at h
  simp only [bz]
  rw [oL r _ i h.2,eV]
  simp only [ay,aw]
  by_cases e:j=i
  ·subst e
   have:ah r j=none:=by
    cases hb:ah r j with
    | none=>rfl
    | some o'=>
     have:=bH r j o' hb
     have h1:=h.1
     simp only [List.contains_eq_mem,decide_eq_false_iff_not,List.mem_map,not_exists,not_and] at h1
     exact absurd rfl (h1 _ this)
   simp [this]
  ·simp [e]
section
variable {P:Program} {C:Cfg}
structure RCcode (g:Nat) (R:RC) (c cc:Code):Prop where
 code:∃i1 i2 ty1 ps1 af1 ty2 ps2 af2 ts2 ty3 ps3 af3 ts3 ty4 ps4 af4,
  c=.seq R.r0 (.seq (.region i1 #[⟨some R.t5,.makeFunc (.func g) #[] R.caps.toArray,ty1,ps1,af1,none⟩,⟨none,.defer ⟨.value (.tmp R.t5),#[],ts2⟩,ty2,ps2,af2,none⟩] false) R.rest)/\
  cc=.seq (.region i2 #[⟨some R.t6,.call ⟨.builtin .recover,#[],ts3⟩,ty3,ps3,af3,none⟩,⟨some R.t3,.assign (.tmp R.t6),ty4,ps4,af4,none⟩] false) R.crest
end
end Go.AL
end
