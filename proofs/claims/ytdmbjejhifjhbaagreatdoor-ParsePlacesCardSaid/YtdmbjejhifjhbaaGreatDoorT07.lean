/- The layer: Go code as conditions, and that they are sound. No condition. -/
import Derived.Test.YtdmbjejhifjhbaaGreatDoorT06
set_option linter.unusedVariables false
set_option linter.unusedSimpArgs false
set_option linter.unnecessarySimpa false
set_option linter.deprecated false
set_option linter.unusedSectionVars false
set_option maxRecDepth 100000
section
namespace Go.AL
variable [Tabs]
theorem v8:∀(L:List dQ) (i j k:Nat) (r:Option (Nat × Nat)),idx L i j=some (k,r)→j<=k/\nth L (k - j)=some (i,r)
 | [],i,j,k,r,h=>by simp [idx] at h
 | (m,q) ::l,i,j,k,r,h=>by
  simp only [idx] at h
  by_cases hm:m=i
  ·subst hm
   simp at h
   obtain ⟨rfl,rfl⟩:=h
   simp [nth]
  ·simp only [beq_iff_eq,hm,if_false] at h
   obtain ⟨h1,h2⟩:=v8 l i (j+1) k r h
   refine ⟨by omega,?_⟩
   rw [show k - j=(k - (j+1))+1 by omega]
   exact h2
theorem tE {α:Type}:∀(l:List α) (k:Nat) (x:α),nth l k=some x→x∈l
 | [],k,x,h=>by simp [nth] at h
 | a ::l,0,x,h=>by simp [nth] at h;simp [h]
 | a ::l,k+1,x,h=>List.mem_cons_of_mem _ (tE l k x h)
theorem l9:∀(L:List dQ) (i j k:Nat) (r:Option (Nat × Nat)),bX (L.map (·.1))=true→nth L k=some (i,r)→idx L i j=some (j+k,r)
 | [],i,j,k,r,_,h=>by simp [nth] at h
 | (m,q) ::l,i,j,0,r,_,h=>by simp [nth] at h;obtain ⟨rfl,rfl⟩:=h;simp [idx]
 | (m,q) ::l,i,j,k+1,r,hd,h=>by
  simp only [List.map_cons,bX,Bool.and_eq_true,Bool.not_eq_true'] at hd
  have hm:(i,r)∈l:=tE l k _ h
  have hne:¬m=i:=by
   intro e
   subst e
   have:m∈l.map (·.1):=List.mem_map.2 ⟨(m,r),hm,rfl⟩
   have h1:=hd.1
   rw [List.contains_eq_mem] at h1
   simp only [decide_eq_false_iff_not] at h1
   exact h1 this
  simp only [idx,beq_iff_eq,hne,if_false]
  rw [l9 l i (j+1) k r hd.2 h]
  congr 2
  omega
theorem fo {L:List dQ} {k:Nat} {x:dQ} (h:bj L k=some x):900<=k/\nth L (k - 900)=some x:=by
 unfold bj at h
 split at h
 ·rename_i hk;exact ⟨by simpa using hk,h⟩
 ·cases h
theorem cR {L:List dQ} {i k:Nat} {r:Option (Nat × Nat)} (h:idx L i 900=some (k,r)):bj L k=some (i,r):=by
 obtain ⟨h1,h2⟩:=v8 L i 900 k r h
 unfold bj
 split
 ·exact h2
 ·rename_i hk
  simp at hk
  omega
theorem dH {L:List dQ} (hd:bX (L.map (·.1))=true) {i k:Nat} {r:Option (Nat × Nat)} (h:bj L k=some (i,r)):idx L i 900=some (k,r):=by
 obtain ⟨h1,h2⟩:=fo h
 have:=l9 L i 900 _ r hd h2
 rwa [show 900+(k - 900)=k by omega] at this
def dy (L:List dQ) (e:Nat→Option CObj) (k:Nat):Option CObj:=
 match bj L k with
 | some (i,none)=>e i
 | some (i,some (off,len))=>(match e i with | some (.box b o _)=>some (.box b (o+off) len) | _=>none)
 | none=>none
theorem kz (L:List dQ) (e:Nat→Option CObj):Names (toP L) (toI L) (toI L) e (dy L e):=by
 have hi:∀i i',toI L i=some i'→∀c,e i=some c→dy L e i'=some c:=by
  intro i i' h c hc
  unfold toI at h
  split at h
  ·rename_i k hk
   simp at h
   subst h
   simp only [dy,cR hk,hc]
  ·cases h
 refine ⟨fun i o i' o' h b p l he=>?_,hi,hi⟩
 unfold toP at h
 split at h
 ·rename_i k hk
  simp at h
  obtain ⟨rfl,rfl⟩:=h
  exact ⟨p,l,by simp only [dy,cR hk,he],rfl⟩
 ·rename_i k off len hk
  split at h
  ·rename_i hb
   simp at h hb
   obtain ⟨rfl,rfl⟩:=h
   exact ⟨p+off,len,by simp only [dy,cR hk,he],by omega⟩
  ·cases h
 ·cases h
theorem ib {look:Nat→Option SObj} {L:List dQ}:∀(l:List dQ) (j:Nat) (S:List (Nat × SObj)),mH look L l j=some S→
  (∀id o',ax S id=some o'→∃q i r o,id=j+q/\nth l q=some (i,r)/\look i=some o/\fP L r o=some o')/\
  (∀q i r,nth l q=some (i,r)→∃o o',look i=some o/\fP L r o=some o'/\ax S (j+q)=some o')/\(∀x∈S,j<=x.1/\x.1 < j+l.length)
 | [],j,S,h=>by simp [mH] at h;subst h;exact ⟨fun id o' h=>by simp [ax] at h,fun q i r h=>by simp [nth] at h,fun x hx=>by simp at hx⟩
 | (i,r) ::l,j,S,h=>by
  simp only [mH] at h
  split at h
  ·rename_i o ho
   split at h
   ·rename_i o' S' h1 h2
    simp at h
    subst h
    obtain ⟨k1,k2,k3⟩:=ib l (j+1) S' h2
    refine ⟨fun id o2 hb=>?_,fun q i2 r2 hq=>?_,fun x hx=>?_⟩
    ·simp only [ax] at hb
     by_cases hj:j=id
     ·subst hj
      simp at hb
      subst hb
      exact ⟨0,i,r,o,rfl,rfl,ho,h1⟩
     ·simp only [beq_iff_eq,hj,if_false] at hb
      obtain ⟨q,i2,r2,o3,e1,e2,e3,e4⟩:=k1 id o2 hb
      exact ⟨q+1,i2,r2,o3,by omega,e2,e3,e4⟩
    ·cases q with
     | zero=>simp [nth] at hq;obtain ⟨rfl,rfl⟩:=hq;exact ⟨o,o',ho,h1,by simp [ax]⟩
     | succ q=>
      obtain ⟨o3,o4,e1,e2,e3⟩:=k2 q i2 r2 hq
      refine ⟨o3,o4,e1,e2,?_⟩
      have:¬j=j+(q+1):=by omega
      simp only [ax,beq_iff_eq,this,if_false]
      rw [show j+(q+1)=j+1+q by omega]
      exact e3
    ·simp at hx
     rcases hx with rfl | hx
     ·simp
     ·have:=k3 x hx
      simp
      omega
   ·cases h
  ·cases h
theorem pX {c c1:AV} {r:Option (Nat × Nat)} (h:Cz c r=some c1):match r with | none=>c1=c | some (off,len)=>sub (aa c) off len=some (aa c1):=by
 have fO:∀{c c1:AV} {off len:Nat},Cy c off len=some c1→sub (aa c) off len=some (aa c1):=by
  intro c c1 off len h
  unfold Cy at h
  split at h
  ·rename_i cs hcs;simp at h;subst h;exact hcs
  ·cases h
 cases r with
 | none=>simp [Cz] at h;exact h.symm
 | some x=>
  obtain ⟨off,len⟩:=x
  cases c with
  | st n x=>
   simp only [Cz] at h
   split at h
   ·rename_i m y hs
    split at h
    ·rename_i hw
     simp at h
     subst h
     have:=kq hs
     rw [hw] at this
     exact this
    ·exact fO h
   ·exact fO h
  | _=>exact fO (by simpa only [Cz] using h)
theorem bv.own_of {Ω:Om} {own own':Nat→Nat→Prop} {id:Nat} {o:SObj} (h:bv Ω own id o) (hc:∀c b o,Ω.e id=some c→occ c b o→own' b o):bv Ω own' id o:=by
 cases o with
 | box c=>
  obtain ⟨b,off,e1,e2⟩:=h
  refine ⟨b,off,e1,fun j c' hj=>?_⟩
  obtain ⟨_,k⟩:=e2 j c' hj
  have hl:j < (aa c).length:=by
   rcases Nat.lt_or_ge j (aa c).length with k | k
   ·exact k
   ·rw [List.getElem?_eq_none k] at hj;cases hj
  exact ⟨hc _ _ _ e1 ⟨rfl,by omega,by omega⟩,k⟩
 | tail τ n=>
  obtain ⟨base,cap,e1,e2,e3,e4,e5⟩:=h
  exact ⟨base,cap,e1,e2,e3,e4,fun b hb=>⟨fun o=>hc _ _ _ e1 hb,(e5 b hb).2⟩⟩
 | map κ τ m=>
  obtain ⟨r,e1,_,e3⟩:=h
  exact ⟨r,e1,fun o=>hc _ _ _ e1 rfl,e3⟩
 | bld t u l=>
  obtain ⟨b,g,e1,e2,e3⟩:=h
  exact ⟨b,g,e1,fun b' hb o=>⟨hc _ _ _ e1 hb,(e2 b' hb o).2⟩,e3⟩
 | tailp τ n x=>
  obtain ⟨b,cap,e1,e2,e3,e4,e5⟩:=h
  exact ⟨b,cap,e1,e2,e3,fun o=>hc _ _ _ e1 rfl,e5⟩
theorem bv.owns {Ω:Om} {own:Nat→Nat→Prop} {id:Nat} {ob:SObj} (h:bv Ω own id ob) {c:CObj} (hc:Ω.e id=some c) {b o:Nat} (ho:occ c b o):own b o:=by
 cases ob with
 | box x=>
  obtain ⟨b',off,e1,e2⟩:=h
  rw [hc] at e1
  simp at e1
  subst e1
  obtain ⟨rfl,h1,h2⟩:=ho
  have hj:o - off < (aa x).length:=by omega
  have:=(e2 (o - off) _ (List.getElem?_eq_getElem hj)).1
  rwa [show off+(o - off)=o by omega] at this
 | tail τ n=>
  obtain ⟨base,cap,e1,e2,e3,e4,e5⟩:=h
  rw [hc] at e1
  simp at e1
  subst e1
  exact (e5 b ho).1 o
 | map κ τ m=>
  obtain ⟨r,e1,e2,_⟩:=h
  rw [hc] at e1
  simp at e1
  subst e1
  have:b=r:=ho
  subst this
  exact e2 o
 | bld t u l=>
  obtain ⟨b',g,e1,e2,_⟩:=h
  rw [hc] at e1
  simp at e1
  subst e1
  exact (e2 b ho o).1
 | tailp τ n x=>
  obtain ⟨b',cap,e1,e2,e3,e4,e5⟩:=h
  rw [hc] at e1
  simp at e1
  subst e1
  have:b'=b:=by simpa [occ] using ho
  subst this
  exact e4 o
theorem Holds.owns {F:Fr} {s:AS} {a:Act} {Ω:Om} (h:Holds F s a Ω) {id:Nat} {c:CObj} (hc:Ω.e id=some c) {b o:Nat} (ho:occ c b o):F.own b o:=by
 cases hB:s.B id with
 | none=>rw [h.dom id hB] at hc;cases hc
 | some ob=>exact (h.slots id ob hB).owns hc ho
theorem vd {Ω:Om} {own:Nat→Nat→Prop} {L:List dQ} {k i:Nat} {r:Option (Nat × Nat)} {o o':SObj} (hk:bj L k=some (i,r)) (hs:bv Ω own i o) (hc:fP L r o=some o') :
  bv ⟨dy L Ω.e,Ω.w,Ω.pub⟩ (fun _ _=>True) k o':=by
 cases o with
 | box c=>
  simp only [fP] at hc
  split at hc
  ·rename_i c1 h1
   split at hc
   ·rename_i c2 h2
    simp at hc
    subst hc
    obtain ⟨b,off,e1,e2⟩:=hs
    obtain ⟨m1,m2⟩:=jI h2
    have hp:=pX h1
    cases r with
    | none=>
     simp only at hp
     subst hp
     refine ⟨b,off,by simp only [dy,hk,e1,m1],fun j c' hj=>?_⟩
     have hl:j < (aa c1).length:=by
      rw [m1]
      rcases Nat.lt_or_ge j (aa c2).length with k | k
      ·exact k
      ·rw [List.getElem?_eq_none k] at hj;cases hj
     obtain ⟨k1,k2,k3,v,k4,k5⟩:=e2 j _ (List.getElem?_eq_getElem hl)
     exact ⟨trivial,k2,k3,v,k4,k5.mapV (kz L Ω.e) (m2 j _ c' (List.getElem?_eq_getElem hl) hj)⟩
    | some x=>
     obtain ⟨o2,len⟩:=x
     simp only at hp
     obtain ⟨s1,s2⟩:=i9 hp
     have hlen:(aa c1).length=len:=by rw [s2];simp;omega
     refine ⟨b,off+o2,by simp only [dy,hk,e1];rw [←m1,hlen],fun j c' hj=>?_⟩
     have hl:j < (aa c1).length:=by
      rw [m1]
      rcases Nat.lt_or_ge j (aa c2).length with k | k
      ·exact k
      ·rw [List.getElem?_eq_none k] at hj;cases hj
     obtain ⟨x,hx⟩:∃x,(aa c1)[j]?=some x:=⟨_,List.getElem?_eq_getElem hl⟩
     have hcj:(aa c)[o2+j]?=some x:=by
      have:=hx
      rw [s2,List.getElem?_take] at this
      split at this
      ·rw [List.getElem?_drop] at this
       exact this
      ·cases this
     obtain ⟨k1,k2,k3,v,k4,k5⟩:=e2 _ _ hcj
     rw [Nat.add_assoc]
     exact ⟨trivial,k2,k3,v,k4,k5.mapV (kz L Ω.e) (m2 j _ c' hx hj)⟩
   ·cases hc
  ·cases hc
 | tail τ n=>
  cases r with
  | some _=>simp [fP] at hc
  | none=>
   simp [fP] at hc
   subst hc
   obtain ⟨base,cap,e1,e2,e3,e4,e5⟩:=hs
   exact ⟨base,cap,by simp only [dy,hk,e1],e2,e3,e4,fun b hb=>⟨fun _=>trivial,(e5 b hb).2⟩⟩
 | map κ τ m=>
  cases r with
  | some _=>simp [fP] at hc
  | none=>
   simp [fP] at hc
   subst hc
   obtain ⟨r,e1,e2,es,clock,e3,e4⟩:=hs
   exact ⟨r,by simp only [dy,hk,e1],fun _=>trivial,es,clock,e3,e4.data⟩
 | bld t u l=>
  cases r with
  | some _=>simp [fP] at hc
  | none=>
   simp [fP] at hc
   subst hc
   obtain ⟨b,g,e1,e2,e3⟩:=hs
   exact ⟨b,g,by simp only [dy,hk,e1],fun b' hb o=>⟨trivial,(e2 b' hb o).2⟩,e3⟩
 | tailp _ _ _=>simp [fP] at hc
theorem kA {L:List dQ} {Ω:Om} {own:Nat→Nat→Prop} {B:Nat→Option SObj} (hs:∀id o,B id=some o→bv Ω own id o) (hL:∀q i r,nth L q=some (i,r)→∃o o',B i=some o/\fP L r o=some o')
  {k:Nat} {c:CObj} (h:dy L Ω.e k=some c):∃i r c0,bj L k=some (i,r)/\Ω.e i=some c0/\∀b o,occ c b o→occ c0 b o:=by
 unfold dy at h
 split at h
 ·rename_i i hk
  exact ⟨i,none,c,hk,h,fun _ _ ho=>ho⟩
 ·rename_i i off len hk
  split at h
  ·rename_i b p l he
   simp at h
   subst h
   refine ⟨i,_,_,hk,he,fun b' o ho=>?_⟩
   obtain ⟨h1,h2,h3⟩:=ho
   subst h1
   obtain ⟨_,hn⟩:=fo hk
   obtain ⟨ob,ob',hB,hc⟩:=hL _ _ _ hn
   cases ob with
   | box x=>
    simp only [fP] at hc
    split at hc
    ·rename_i c1 h1
     have hp:=pX h1
     simp only at hp
     obtain ⟨s1,_⟩:=i9 hp
     obtain ⟨b2,off2,e1,_⟩:=hs i _ hB
     rw [he] at e1
     simp at e1
     obtain ⟨rfl,rfl,rfl⟩:=e1
     exact ⟨rfl,by omega,by omega⟩
    ·cases hc
   | tail _ _=>simp [fP] at hc
   | map _ _ _=>simp [fP] at hc
   | bld _ _ _=>simp [fP] at hc
   | tailp _ _ _=>simp [fP] at hc
  ·cases h
 ·cases h
end Go.AL
end
section
namespace Go.AL
variable [Tabs]
theorem ve {n:SN} {off:Nat} {x:SD n} {a d:AV} (h:Cx n off x a=some d):splice (cells (.st n) x) off (aa a)=some (aa d):=by
 unfold Cx at h
 split at h
 all_goals first
  | (simp only [Xs] at h;subst h;rfl)
  | cases h
theorem xC {b c d:AV} {off len:Nat} (h:F1 b (some (off,len)) c=some d):(aa c).length=len/\splice (aa b) off (aa c)=some (aa d):=by
 have fO:∀{b d:AV},F0 b off c=some d→splice (aa b) off (aa c)=some (aa d):=by
  intro b d h
  unfold F0 at h
  split at h
  ·rename_i cs hcs;simp at h;subst h;exact hcs
  ·cases h
 simp only [F1] at h
 split at h
 ·rename_i hl
  refine ⟨cn _ _ hl,?_⟩
  split at h
  ·split at h
   ·rename_i n x a hs
    simp at h
    subst h
    exact ve hs
   ·exact fO h
  ·exact fO h
 ·cases h
def vf (d i:Nat):Option Nat:=if 1000<=i/\i % 1000=d then some (i / 1000 - 1) else none
theorem AD {d k:Nat} (hd:d < 1000):vf d (nid d k)=some k:=by
 unfold vf nid
 rw [if_pos ⟨by omega,by omega⟩]
 congr 1
 omega
theorem nI {d i k:Nat} (h:vf d i=some k):i=nid d k:=by
 unfold vf at h
 split at h
 ·simp at h
  unfold nid
  omega
 ·cases h
def kB (L:List dQ) (d:Nat) (e e':Nat→Option CObj) (i:Nat):Option CObj:=
 match idx L i 900 with
 | some (k,none)=>e' k
 | some (_,some _)=>e i
 | none=>
  match vf d i with
  | some k=>(match bj L k with | some _=>e i | none=>(match e' k with | some c=>some c | none=>e i))
  | none=>e i
theorem pY:∀(u:List (Nat × SObj)) (B:Nat→Option SObj) (id:Nat) (o:SObj),updB B u id=some o→(id,o)∈u∨(B id=some o/\id∉u.map (·.1))
 | [],B,id,o,h=>Or.inr ⟨h,by simp⟩
 | (j,x) ::u,B,id,o,h=>by
  simp only [updB] at h
  rcases pY u _ id o h with k | ⟨k1,k2⟩
  ·exact Or.inl (List.mem_cons_of_mem _ k)
  ·by_cases hj:j=id
   ·subst hj
    simp at k1
    subst k1
    exact Or.inl (List.mem_cons_self ..)
   ·simp only [if_neg hj] at k1
    refine Or.inr ⟨k1,?_⟩
    simp only [List.map_cons,List.mem_cons,not_or]
    exact ⟨fun e=>hj e.symm,k2⟩
theorem sa:∀(u:List (Nat × SObj)) (B:Nat→Option SObj) (id:Nat),updB B u id=none→B id=none/\id∉u.map (·.1)
 | [],B,id,h=>⟨h,by simp⟩
 | (j,x) ::u,B,id,h=>by
  simp only [updB] at h
  obtain ⟨k1,k2⟩:=sa u _ id h
  by_cases hj:j=id
  ·subst hj;simp at k1
  ·simp only [if_neg hj] at k1
   refine ⟨k1,?_⟩
   simp only [List.map_cons,List.mem_cons,not_or]
   exact ⟨fun e=>hj e.symm,k2⟩
theorem nJ {look:Nat→Option SObj} {L:List dQ} {d:Nat}:∀(u u':List (Nat × SObj)),kb look L d u=some u'→
  (∀id o',(id,o')∈u'→∃k o,(k,o)∈u/\((∃r old,bj L k=some (id,r)/\look id=some old/\ip L d r (some old) o=some o')∨
   (bj L k=none/\id=nid d k/\look id=none/\ip L d none none o=some o')))/\
  (∀k o,(k,o)∈u→(∃i r,bj L k=some (i,r)/\i∈u'.map (·.1))∨(bj L k=none/\look (nid d k)=none/\nid d k∈u'.map (·.1)))
 | [],u',h=>by simp [kb] at h;subst h;exact ⟨fun id o h=>by simp at h,fun k o h=>by simp at h⟩
 | (k,o) ::u,u',h=>by
  simp only [kb] at h
  split at h
  ·rename_i i r hk
   split at h
   ·rename_i old hold
    split at h
    ·rename_i o1 u1 h1 h2
     simp at h
     subst h
     obtain ⟨q1,q2⟩:=nJ u u1 h2
     refine ⟨fun id o' hm=>?_,fun k2 o2 hm=>?_⟩
     ·simp at hm
      rcases hm with ⟨rfl,rfl⟩ | hm
      ·exact ⟨k,o,by simp,Or.inl ⟨r,old,hk,hold,h1⟩⟩
      ·obtain ⟨k2,o2,m1,m2⟩:=q1 id o' hm
       exact ⟨k2,o2,List.mem_cons_of_mem _ m1,m2⟩
     ·simp at hm
      rcases hm with ⟨rfl,rfl⟩ | hm
      ·exact Or.inl ⟨i,r,hk,by simp⟩
      ·rcases q2 k2 o2 hm with ⟨i2,r2,m1,m2⟩ | ⟨m1,m2,m3⟩
       ·exact Or.inl ⟨i2,r2,m1,by simp only [List.map_cons];exact List.mem_cons_of_mem _ m2⟩
       ·exact Or.inr ⟨m1,m2,by simp only [List.map_cons];exact List.mem_cons_of_mem _ m3⟩
    ·cases h
   ·cases h
  ·rename_i hk
   split at h
   ·rename_i hn
    split at h
    ·rename_i o1 u1 h1 h2
     simp at h
     subst h
     obtain ⟨q1,q2⟩:=nJ u u1 h2
     refine ⟨fun id o' hm=>?_,fun k2 o2 hm=>?_⟩
     ·simp at hm
      rcases hm with ⟨rfl,rfl⟩ | hm
      ·exact ⟨k,o,by simp,Or.inr ⟨hk,rfl,hn,h1⟩⟩
      ·obtain ⟨k2,o2,m1,m2⟩:=q1 id o' hm
       exact ⟨k2,o2,List.mem_cons_of_mem _ m1,m2⟩
     ·simp at hm
      rcases hm with ⟨rfl,rfl⟩ | hm
      ·exact Or.inr ⟨hk,hn,by simp⟩
      ·rcases q2 k2 o2 hm with ⟨i2,r2,m1,m2⟩ | ⟨m1,m2,m3⟩
       ·exact Or.inl ⟨i2,r2,m1,by simp only [List.map_cons];exact List.mem_cons_of_mem _ m2⟩
       ·exact Or.inr ⟨m1,m2,by simp only [List.map_cons];exact List.mem_cons_of_mem _ m3⟩
    ·cases h
   ·cases h
theorem vg (l:List (Nat × SObj)) (i:Nat) (v:SObj) (j:Nat):ax (nB l i v) j=if i=j then some v else ax l j:=by
 induction l with
 | nil=>simp [nB,ax]
 | cons x r ih=>
  obtain ⟨k,u⟩:=x
  simp only [nB]
  by_cases hk:k=i
  ·subst hk
   simp only [beq_self_eq_true,if_true,ax,beq_iff_eq]
   by_cases h:k=j <;> simp [h]
  ·simp only [beq_iff_eq,hk,if_false,ax,ih]
   by_cases h:k=j
   ·subst h
    have:¬i=k:=fun e=>hk e.symm
    simp [this]
   ·simp [h]
theorem mR:∀(u B:List (Nat × SObj)) (k:Nat),k∉u.map (·.1)→ax (putB B u) k=ax B k
 | [],B,k,_=>rfl
 | (j,x) ::u,B,k,h=>by
  simp only [List.map_cons,List.mem_cons,not_or] at h
  simp only [putB]
  rw [mR u _ k h.2,vg,if_neg (fun e=>h.1 e.symm)]
theorem zK:∀(u B:List (Nat × SObj)) (k:Nat) (o:SObj),bX (u.map (·.1))=true→(k,o)∈u→ax (putB B u) k=some o
 | [],B,k,o,_,h=>by simp at h
 | (j,x) ::u,B,k,o,hd,h=>by
  simp only [List.map_cons,bX,Bool.and_eq_true,Bool.not_eq_true',List.contains_eq_mem,decide_eq_false_iff_not] at hd
  simp only [putB]
  simp at h
  rcases h with ⟨rfl,rfl⟩ | h
  ·rw [mR u _ k hd.1,vg,if_pos rfl]
  ·exact zK u _ k o hd.2 h
theorem sb:∀(l:List (Nat × SObj)) (i:Nat) (o:SObj),ax l i=some o→(i,o)∈l
 | [],i,o,h=>by simp [ax] at h
 | (j,v) ::r,i,o,h=>by
  simp only [ax] at h
  by_cases hj:j=i
  ·subst hj;simp at h;simp [h]
  ·simp only [beq_iff_eq,hj,if_false] at h
   exact List.mem_cons_of_mem _ (sb r i o h)
theorem AE {S u:List (Nat × SObj)} (hd:bX (u.map (·.1))=true) (hS:∀x∈S,ax S x.1=some x.2) {k:Nat} {o:SObj} (h:(k,o)∈gN S u):ax (putB S u) k=some o:=by
 simp only [gN,List.mem_append,List.mem_filter,Bool.not_eq_true',List.contains_eq_mem,decide_eq_false_iff_not] at h
 rcases h with h | ⟨h1,h2⟩
 ·exact zK u S k o hd h
 ·rw [mR u S k h2]
  exact hS _ h1
end Go.AL
end
section
namespace Go.AL
variable [Tabs]
theorem pZ {look:Nat→Option SObj} {L:List dQ}:∀(l:List dQ) (j:Nat) (S:List (Nat × SObj)),mH look L l j=some S→∀x∈S,ax S x.1=some x.2
 | [],j,S,h,x,hx=>by simp [mH] at h;subst h;simp at hx
 | (i,r) ::l,j,S,h,x,hx=>by
  simp only [mH] at h
  split at h
  ·split at h
   ·rename_i o' S' h1 h2
    simp at h
    subst h
    simp at hx
    rcases hx with rfl | hx
    ·simp [ax]
    ·have:=pZ l (j+1) S' h2 x hx
     have hk:=(ib l (j+1) S' h2).2.2 x hx
     have hne:¬j=x.1:=by omega
     simp only [ax,beq_iff_eq,hne,if_false]
     exact this
   ·cases h
  ·cases h
theorem sd {w':World} {pub' own own':Nat→Nat→Prop} {e' eN:Nat→Option CObj} {L:List dQ} {d k id:Nat} {old:Option SObj} {o o':SObj}
  (hn:Names (oj L d) (gM L d) (gM L d) e' eN) (hs:bv ⟨e',w',pub'⟩ own' k o) (hb:ip L d none old o=some o') (he:eN id=e' k) (hown:∀b o,own' b o→own b o) :
  bv ⟨eN,w',pub'⟩ own id o':=by
 cases o with
 | box c=>
  simp only [ip] at hb
  split at hb
  ·rename_i c1 h1
   have ho':o'=.box c1:=by
    split at hb
    ·rename_i b
     split at hb
     ·rename_i c2 h2
      simp [F1] at h2
      subst h2
      simp at hb
      exact hb.symm
     ·cases hb
    ·simp at hb;exact hb.symm
    ·cases hb
   subst ho'
   obtain ⟨b,off,e1,e2⟩:=hs
   obtain ⟨m1,m2⟩:=jI h1
   refine ⟨b,off,by simp only;rw [he];simp only at e1;rw [e1,m1],fun j c' hj=>?_⟩
   have hl:j < (aa c).length:=by
    rw [m1]
    rcases Nat.lt_or_ge j (aa c1).length with k | k
    ·exact k
    ·rw [List.getElem?_eq_none k] at hj;cases hj
   obtain ⟨k1,k2,k3,v,k4,k5⟩:=e2 j _ (List.getElem?_eq_getElem hl)
   exact ⟨hown _ _ k1,k2,k3,v,k4,V.mapV (Ω:=⟨e',w',pub'⟩) hn k5 (m2 j _ c' (List.getElem?_eq_getElem hl) hj)⟩
  ·cases hb
 | tail τ n=>
  simp [ip] at hb
  subst hb
  obtain ⟨base,cap,e1,e2,e3,e4,e5⟩:=hs
  exact ⟨base,cap,by simp only;rw [he];exact e1,e2,e3,e4,fun b hb=>⟨fun o=>hown _ _ ((e5 b hb).1 o),(e5 b hb).2⟩⟩
 | map κ τ m=>
  simp [ip] at hb
  subst hb
  obtain ⟨r,e1,e2,es,clock,e3,e4⟩:=hs
  exact ⟨r,by simp only;rw [he];exact e1,fun o=>hown _ _ (e2 o),es,clock,e3,e4.data⟩
 | bld t u l=>
  simp [ip] at hb
  subst hb
  obtain ⟨b,g,e1,e2,e3⟩:=hs
  exact ⟨b,g,by simp only;rw [he];exact e1,fun b' hb o=>⟨hown _ _ (e2 b' hb o).1,(e2 b' hb o).2⟩,e3⟩
 | tailp _ _ _=>simp [ip] at hb
theorem nK {F:Fr} {s:AS} {a:Act} {Ω:Om} (h:Holds F s a Ω) {L:List dQ} {d:Nat} (hd:d < 1000) (hdist:bX (L.map (·.1))=true)
  {S u u':List (Nat × SObj)} (hS:mH s.B L L 900=some S) (hu:bX (u.map (·.1))=true) (hb:kb s.B L d (gN S u)=some u') {val val':AV}
  (hval:mapV (oj L d) (gM L d) (gM L d) val=some val') {w':World} {pub':Nat→Nat→Prop} {e':Nat→Option CObj} {v:Value} (hv:V ⟨e',w',pub'⟩ val v)
  (A:After Ω.w Ω.pub (dy L Ω.e) (ax (putB S u)) w' pub' e') :
  ∃Ω',Ω'.w=w'/\V Ω' val' v/\Holds F ⟨s.T,updB s.B u'⟩ a Ω':=by
 obtain ⟨k1,k2,k3⟩:=ib L 900 S hS
 have hSm:=pZ L 900 S hS
 have lentL:∀k i r,bj L k=some (i,r)→∃o o',s.B i=some o/\fP L r o=some o'/\ax S k=some o':=by
  intro k i r hk
  obtain ⟨h1,h2⟩:=fo hk
  obtain ⟨o,o',q1,q2,q3⟩:=k2 _ i r h2
  rw [show 900+(k - 900)=k by omega] at q3
  exact ⟨o,o',q1,q2,q3⟩
 have hLs:∀q i r,nth L q=some (i,r)→∃o o',s.B i=some o/\fP L r o=some o':=fun q i r hq=>let ⟨o,o',q1,q2,_⟩:=k2 q i r hq;⟨o,o',q1,q2⟩
 obtain ⟨b1,b2⟩:=nJ _ _ hb
 have newk:∀k c,bj L k=none→e' k=some c→s.B (nid d k)=none/\nid d k∈u'.map (·.1):=by
  intro k c hk hc
  cases hg:ax (putB S u) k with
  | none=>rw [A.dom k hg] at hc;cases hc
  | some o=>
   have hku:k∈u.map (·.1):=by
    rcases Classical.em (k∈u.map (·.1)) with q | q
    ·exact q
    ·rw [mR u S k q] at hg
     obtain ⟨q0,i,r,o2,e1,e2,_⟩:=k1 k o hg
     have:bj L k=some (i,r):=by
      subst e1
      exact cR (l9 L i 900 q0 r hdist e2)
     rw [hk] at this
     cases this
   obtain ⟨x,hx1,hx2⟩:=List.mem_map.1 hku
   have hmem:(k,x.2)∈gN S u:=by
    simp only [gN,List.mem_append]
    left
    rw [←hx2]
    exact hx1
   rcases b2 k x.2 hmem with ⟨i,r,m1,_⟩ | ⟨_,m2,m3⟩
   ·rw [hk] at m1;cases m1
   ·exact ⟨m2,m3⟩
 have inL:∀i k r,idx L i 900=some (k,r)→∃o,s.B i=some o:=by
  intro i k r hi
  obtain ⟨o,_,q,_⟩:=lentL k i r (cR hi)
  exact ⟨o,q⟩
 have eW:∀k i,bj L k=some (i,none)→kB L d Ω.e e' i=e' k:=by
  intro k i hk
  simp only [kB,dH hdist hk]
 have eS:∀k i x,bj L k=some (i,some x)→kB L d Ω.e e' i=Ω.e i:=by
  intro k i x hk
  simp only [kB,dH hdist hk]
 have eN:∀k c,bj L k=none→e' k=some c→kB L d Ω.e e' (nid d k)=some c:=by
  intro k c hk hc
  obtain ⟨n1,_⟩:=newk k c hk hc
  have hi:idx L (nid d k) 900=none:=by
   cases hi:idx L (nid d k) 900 with
   | none=>rfl
   | some x=>
    obtain ⟨o,ho⟩:=inL _ x.1 x.2 hi
    rw [n1] at ho
    cases ho
  simp only [kB,hi,AD hd,hk,hc]
 have eO:∀i c,kB L d Ω.e e' i=some c→(Ω.e i=some c/\(∀k,bj L k≠some (i,none)))∨(∃k,e' k=some c/\(bj L k=some (i,none)∨(bj L k=none/\i=nid d k))):=by
  intro i c hc
  unfold kB at hc
  split at hc
  ·rename_i k hk
   exact Or.inr ⟨k,hc,Or.inl (cR hk)⟩
  ·rename_i k x hk
   exact Or.inl ⟨hc,fun k' hk'=>by rw [dH hdist hk'] at hk;simp at hk⟩
  ·rename_i hk
   have hno:∀k,bj L k≠some (i,none):=fun k' hk'=>by rw [dH hdist hk'] at hk;cases hk
   split at hc
   ·rename_i k hn
    split at hc
    ·exact Or.inl ⟨hc,hno⟩
    ·rename_i hl
     split at hc
     ·rename_i c' hc'
      simp at hc
      subst hc
      exact Or.inr ⟨k,hc',Or.inr ⟨hl,nI hn⟩⟩
     ·exact Or.inl ⟨hc,hno⟩
   ·exact Or.inl ⟨hc,hno⟩
 have lentOwn:∀b o,lZ (dy L Ω.e) b o→∃k i r c0,bj L k=some (i,r)/\Ω.e i=some c0/\occ c0 b o/\∃c,dy L Ω.e k=some c/\occ c b o:=by
  rintro b o ⟨k,c,hc,ho⟩
  obtain ⟨i,r,c0,q1,q2,q3⟩:=kA h.slots hLs hc
  exact ⟨k,i,r,c0,q1,q2,q3 b o ho,c,hc,ho⟩
 have own:∀b o,(Ω.w.heap.size<=b∨lZ (dy L Ω.e) b o)→F.own b o:=by
  rintro b o (q | q)
  ·exact Or.inl (Nat.le_trans h.frame.size q)
  ·obtain ⟨k,i,r,c0,_,q2,q3,_⟩:=lentOwn b o q
   exact h.owns q2 q3
 have hnames:Names (oj L d) (gM L d) (gM L d) e' (kB L d Ω.e e'):=by
  have hi:∀i i',gM L d i=some i'→∀c,e' i=some c→kB L d Ω.e e' i'=some c:=by
   intro k i' hk c hc
   unfold gM at hk
   split at hk
   ·rename_i i hi
    simp at hk
    subst hk
    rw [eW k i hi,hc]
   ·cases hk
   ·rename_i hi
    simp at hk
    subst hk
    exact eN k c hi hc
  refine ⟨fun k o i' o' hk b p l hc=>?_,hi,hi⟩
  unfold oj at hk
  split at hk
  ·rename_i i hi
   simp at hk
   obtain ⟨rfl,rfl⟩:=hk
   exact ⟨p,l,by rw [eW k i hi,hc],rfl⟩
  ·rename_i i off len hi
   simp at hk
   obtain ⟨rfl,rfl⟩:=hk
   obtain ⟨ob,ob',q1,q2,_⟩:=lentL k i _ hi
   cases ob with
   | box x=>
    obtain ⟨b2,off2,e1,_⟩:=h.slots i _ q1
    have hcan:dy L Ω.e k=some (.box b2 (off2+off) len):=by simp only [dy,hi,e1]
    obtain ⟨c',hc',hl⟩:=A.ext.e k _ hcan
    rw [hl.box] at hc'
    simp only at hc'
    rw [hc] at hc'
    simp at hc'
    obtain ⟨rfl,rfl,rfl⟩:=hc'
    exact ⟨off2,_,by rw [eS k i _ hi,e1],by omega⟩
   | tail _ _=>simp [fP] at q2
   | map _ _ _=>simp [fP] at q2
   | bld _ _ _=>simp [fP] at q2
   | tailp _ _ _=>simp [fP] at q2
  ·rename_i hi
   simp at hk
   obtain ⟨rfl,rfl⟩:=hk
   exact ⟨p,l,eN k _ hi hc,rfl⟩
 have hext:Ext Ω ⟨kB L d Ω.e e',w',pub'⟩:=by
  refine ⟨fun i c hc=>?_,A.ext.pub,A.ext.cell⟩
  simp only
  cases hi:idx L i 900 with
  | some x=>
   obtain ⟨k,r⟩:=x
   cases r with
   | none=>
    have hk:=cR hi
    have hcan:dy L Ω.e k=some c:=by simp only [dy,hk,hc]
    obtain ⟨c',hc',hl⟩:=A.ext.e k _ hcan
    exact ⟨c',by rw [eW k i hk];exact hc',hl⟩
   | some x=>exact ⟨c,by rw [eS k i x (cR hi),hc],CLe.refl c⟩
  | none=>
   refine ⟨c,?_,CLe.refl c⟩
   simp only [kB,hi]
   split
   ·rename_i k hn
    split
    ·exact hc
    ·rename_i hl
     split
     ·rename_i c' hc'
      obtain ⟨n1,_⟩:=newk k c' hl hc'
      rw [←nI hn] at n1
      rw [h.dom i n1] at hc
      cases hc
     ·exact hc
   ·exact hc
 have stay:∀i c,Ω.e i=some c→(∀k r,bj L k≠some (i,r))→∀b o,occ c b o→¬lZ (dy L Ω.e) b o:=by
  intro i c hc hno b o ho hl
  obtain ⟨k,i2,r,c0,q1,q2,q3,_⟩:=lentOwn b o hl
  have:=h.inj i i2 c c0 b o hc q2 ho q3
  subst this
  exact hno k r q1
 have inj':Inj (kB L d Ω.e e'):=by
  have hself:∀k k' i j,(bj L k=some (i,none)∨(bj L k=none/\i=nid d k))→(bj L k'=some (j,none)∨(bj L k'=none/\j=nid d k'))→k=k'→i=j:=by
   intro k k' i j hi hj e
   subst e
   rcases hi with hi | ⟨hi,rfl⟩ <;> rcases hj with hj | ⟨hj,rfl⟩
   ·rw [hi] at hj;simp at hj;exact hj
   ·rw [hi] at hj;cases hj
   ·rw [hi] at hj;cases hj
   ·rfl
  have hmix:∀i c j k c' b o,Ω.e i=some c→(∀k,bj L k≠some (i,none))→e' k=some c'→(bj L k=some (j,none)∨(bj L k=none/\j=nid d k))→occ c b o→occ c' b o→False:=by
   intro i c j k c' b o hc hno hk hj ho ho'
   have hblt:=h.blk hc ho
   have hkB:∃ob,ax (putB S u) k=some ob:=by
    cases hg:ax (putB S u) k with
    | none=>rw [A.dom k hg] at hk;cases hk
    | some ob=>exact ⟨ob,rfl⟩
   obtain ⟨ob,hob⟩:=hkB
   rcases (A.slots k ob hob).owns hk ho' with q | q
   ·omega
   ·obtain ⟨k2,i2,r,c0,q1,q2,q3,c2,q4,q5⟩:=lentOwn b o q
    have:=h.inj i i2 c c0 b o hc q2 ho q3
    subst this
    cases r with
    | none=>exact hno k2 q1
    | some x=>
     obtain ⟨c3,q6,q7⟩:=A.ext.e k2 c2 q4
     obtain ⟨bb,oo,ll,hbx⟩:∃bb oo ll,c2=.box bb oo ll:=by
      have:=q4
      simp only [dy,q1] at this
      split at this
      ·simp at this;exact ⟨_,_,_,this.symm⟩
      ·cases this
     subst hbx
     rw [q7.box] at q6
     have:=A.inj k2 k _ _ b o q6 hk q5 ho'
     subst this
     rcases hj with hj | ⟨hj,_⟩
     ·rw [q1] at hj;simp at hj
     ·rw [q1] at hj;cases hj
  intro i j c c' b o hc hc' ho ho'
  rcases eO i c hc with ⟨h1,h2⟩ | ⟨k,h1,h2⟩
  ·rcases eO j c' hc' with ⟨g1,g2⟩ | ⟨k',g1,g2⟩
   ·exact h.inj i j c c' b o h1 g1 ho ho'
   ·exact (hmix i c j k' c' b o h1 h2 g1 g2 ho ho').elim
  ·rcases eO j c' hc' with ⟨g1,g2⟩ | ⟨k',g1,g2⟩
   ·exact (hmix j c' i k c b o g1 g2 h1 h2 ho' ho).elim
   ·exact hself k k' i j h2 g2 (A.inj k k' c c' b o h1 g1 ho ho')
 refine ⟨⟨kB L d Ω.e e',w',pub'⟩,rfl,V.mapV (Ω:=⟨e',w',pub'⟩) hnames hv hval,⟨fun i=>(h.tmps i).ext hext,h.size,h.defers,fun id o ho=>?_,fun id hid=>?_,inj',A.ok,fun id c hc=>?_,?_⟩⟩
 ·
  rcases pY u' s.B id o ho with hm | ⟨hB,hm⟩
  ·obtain ⟨k,ob,m1,m2⟩:=b1 id o hm
   have hg:=AE hu hSm m1
   have hso:=A.slots k ob hg
   rcases m2 with ⟨r,old,l1,l2,l3⟩ | ⟨l1,rfl,l2,l3⟩
   ·cases r with
    | none=>exact sd hnames hso l3 (eW k id l1) own
    | some x=>
     obtain ⟨off,len⟩:=x
     cases ob with
     | tail _ _=>simp [ip] at l3
     | map _ _ _=>simp [ip] at l3
     | bld _ _ _=>simp [ip] at l3
     | tailp _ _ _=>simp [ip] at l3
     | box c=>
      simp only [ip] at l3
      split at l3
      ·rename_i c1 h1
       split at l3
       ·rename_i cold hold
        simp at hold
        subst hold
        split at l3
        ·rename_i c2 h2
         simp at l3
         subst l3
         obtain ⟨p1,p2⟩:=xC h2
         obtain ⟨b,p0,e1,e2⟩:=h.slots id _ l2
         obtain ⟨s1,s2⟩:=fA _ _ _ _ p2
         have hlen:(aa c2).length=(aa cold).length:=by rw [s2];simp;omega
         have hcan:dy L Ω.e k=some (.box b (p0+off) len):=by simp only [dy,l1,e1]
         obtain ⟨c',hc',hl⟩:=A.ext.e k _ hcan
         rw [hl.box] at hc'
         simp only at hc'
         obtain ⟨b',p',f1,f2⟩:=hso
         simp only at f1
         rw [hc'] at f1
         simp at f1
         obtain ⟨rfl,rfl,f1⟩:=f1
         obtain ⟨m1',m2'⟩:=jI h1
         refine ⟨b,p0,by simp only;rw [eS k id _ l1,e1,hlen],fun j c' hj=>?_⟩
         have hjl:j < (aa c2).length:=by
          rcases Nat.lt_or_ge j (aa c2).length with q | q
          ·exact q
          ·rw [List.getElem?_eq_none q] at hj;cases hj
         rw [s2] at hj
         by_cases hin:off<=j/\j < off+len
         ·
          have hjc:j - off < (aa c1).length:=by omega
          have hj1:(aa c1)[j - off]?=some c':=by
           rw [List.append_assoc,List.getElem?_append_right (by simp;omega)] at hj
           have e:(List.take off (aa cold)).length=off:=by simp;omega
           rw [e,List.getElem?_append_left hjc] at hj
           exact hj
          have hjo:j - off < (aa c).length:=by omega
          obtain ⟨g1,g2,g3,v,g4,g5⟩:=f2 (j - off) _ (List.getElem?_eq_getElem hjo)
          rw [show p0+off+(j - off)=p0+j by omega] at g1 g2 g3 g4
          exact ⟨own _ _ g1,g2,g3,v,g4,V.mapV (Ω:=⟨e',w',pub'⟩) hnames g5 (m2' _ _ _ (List.getElem?_eq_getElem hjo) hj1)⟩
         ·
          have hj2:(aa cold)[j]?=some c':=by
           by_cases hlo:j < off
           ·rw [List.append_assoc,List.getElem?_append_left (by simp;omega),List.getElem?_take,if_pos hlo] at hj
            exact hj
           ·have e:(List.take off (aa cold)++aa c1).length=off+len:=by simp;omega
            rw [List.getElem?_append_right (by omega),e,List.getElem?_drop,show off+(aa c1).length+(j - (off+len))=j by omega] at hj
            exact hj
          obtain ⟨g1,g2,g3,v,g4,g5⟩:=e2 j c' hj2
          have hnl:¬lZ (dy L Ω.e) b (p0+j):=by
           intro hl
           obtain ⟨k2,i2,r2,c0,q1,q2,q3,c3,q4,q5⟩:=lentOwn _ _ hl
           have hcold:j < (aa cold).length:=by omega
           have:=h.inj id i2 _ c0 b (p0+j) e1 q2 ⟨rfl,by omega,by omega⟩ q3
           subst this
           have hkk:k2=k:=by
            have a1:=dH hdist q1
            have a2:=dH hdist l1
            rw [a1] at a2
            simp at a2
            exact a2.1
           subst hkk
           rw [hcan] at q4
           simp at q4
           subst q4
           obtain ⟨_,z1,z2⟩:=q5
           exact hin ⟨by omega,by omega⟩
          have hblt:=bd g4
          refine ⟨g1,fun hp=>?_,?_,v,?_,g5.ext hext⟩
          ·rcases A.fresh _ _ hp with q | q | q
           ·exact g2 q
           ·omega
           ·exact hnl q
          ·exact ((A.kind b hblt (fun hall=>hnl (hall _))).2 _).trans g3
          ·exact (A.cell b _ hblt hnl).trans g4
        ·cases l3
       ·rename_i hq;cases hq
       ·cases l3
      ·cases l3
   ·have hk:∃c,e' k=some c:=by
     cases ob with
     | box x=>obtain ⟨_,_,e1,_⟩:=hso;exact ⟨_,e1⟩
     | tail _ _=>obtain ⟨_,_,e1,_⟩:=hso;exact ⟨_,e1⟩
     | map _ _ _=>obtain ⟨_,e1,_⟩:=hso;exact ⟨_,e1⟩
     | bld _ _ _=>obtain ⟨_,_,e1,_⟩:=hso;exact ⟨_,e1⟩
     | tailp _ _ _=>obtain ⟨_,_,e1,_⟩:=hso;exact ⟨_,e1⟩
    obtain ⟨c,hc⟩:=hk
    exact sd hnames hso l3 (by rw [eN k c l1 hc,hc]) own
  ·
   have hB:s.B id=some o:=hB
   have hnl:∀k r,bj L k≠some (id,r):=by
    intro k r hk
    obtain ⟨o1,o2,q1,q2,q3⟩:=lentL k id r hk
    have hmem:∃o3,(k,o3)∈gN S u:=by
     rcases Classical.em (k∈u.map (·.1)) with q | q
     ·obtain ⟨x,hx1,hx2⟩:=List.mem_map.1 q
      refine ⟨x.2,?_⟩
      simp only [gN,List.mem_append]
      left
      rw [←hx2]
      exact hx1
     ·refine ⟨o2,?_⟩
      simp only [gN,List.mem_append,List.mem_filter,Bool.not_eq_true',List.contains_eq_mem,decide_eq_false_iff_not]
      exact Or.inr ⟨sb S k o2 q3,q⟩
    obtain ⟨o3,ho3⟩:=hmem
    rcases b2 k o3 ho3 with ⟨i2,r2,m1,m2⟩ | ⟨m1,_,_⟩
    ·rw [hk] at m1
     simp at m1
     obtain ⟨rfl,_⟩:=m1
     exact hm m2
    ·rw [hk] at m1;cases m1
   have hid:idx L id 900=none:=by
    cases hi:idx L id 900 with
    | none=>rfl
    | some x=>exact absurd (cR hi) (hnl x.1 x.2)
   have heq:kB L d Ω.e e' id=Ω.e id:=by
    simp only [kB,hid]
    split
    ·rename_i k hn
     split
     ·rfl
     ·rename_i hl
      split
      ·rename_i c' hc'
       obtain ⟨n1,_⟩:=newk k c' hl hc'
       rw [←nI hn,hB] at n1
       cases n1
      ·rfl
    ·rfl
   refine (h.slots id o hB).keep hext heq (fun c hc=>?_)
   have hst:=stay id c hc hnl
   have hbl:∀b oo,occ c b oo→b < Ω.w.heap.size:=fun b oo ho=>h.blk hc ho
   cases c with
   | box b off len=>
    intro oo h1 h2
    have ho:occ (.box b off len) b oo:=⟨rfl,h1,h2⟩
    have hblt:=hbl _ _ ho
    refine ⟨A.cell b oo hblt (hst _ _ ho),(A.kind b hblt (fun hall=>hst _ _ ho (hall oo))).2 oo,fun hp=>?_⟩
    rcases A.fresh _ _ hp with q | q | q
    ·exact q
    ·omega
    ·exact absurd q (hst _ _ ho)
   | tail n base cap=>
    intro b hb'
    have ho:∀oo,occ (.tail n base cap) b oo:=fun _=>hb'
    have hblt:=hbl _ 0 (ho 0)
    refine ⟨A.block b hblt (fun oo=>hst _ _ (ho oo)),fun oo hp=>?_⟩
    rcases A.fresh _ _ hp with q | q | q
    ·exact q
    ·omega
    ·exact absurd q (hst _ _ (ho oo))
   | obj r=>
    have ho:∀oo,occ (.obj r) r oo:=fun _=>rfl
    exact A.block r (hbl _ 0 (ho 0)) (fun oo=>hst _ _ (ho oo))
   | bld b g=>
    intro b' hb'
    have ho:∀oo,occ (.bld b g) b' oo:=fun _=>hb'
    refine ⟨A.block b' (hbl _ 0 (ho 0)) (fun oo=>hst _ _ (ho oo)),fun oo hp=>?_⟩
    rcases A.fresh _ _ hp with q | q | q
    ·exact q
    ·have:=hbl _ 0 (ho 0);omega
    ·exact absurd q (hst _ _ (ho oo))
 ·
  obtain ⟨hB,hm⟩:=sa u' s.B id hid
  have hnone:=h.dom id hB
  cases hc:kB L d Ω.e e' id with
  | none=>exact hc
  | some c=>
   rcases eO id c hc with ⟨h1,_⟩ | ⟨k,h1,h2⟩
   ·rw [hnone] at h1;cases h1
   ·rcases h2 with h2 | ⟨h2,rfl⟩
    ·obtain ⟨o1,_,q1,_⟩:=lentL k id _ h2
     rw [hB] at q1
     cases q1
    ·exact absurd (newk k c h2 h1).2 hm
 ·obtain ⟨c1,h1,l1⟩:=h.keep id c hc
  obtain ⟨c2,h2,l2⟩:=hext.e id c1 h1
  exact ⟨c2,h2,l1.trans l2⟩
 ·have notOwn:∀b o,b < F.w0.heap.size→¬F.br b o→¬lZ (dy L Ω.e) b o:=by
   intro b o hb hn hl
   rcases own b o (Or.inr hl) with q | q
   ·omega
   ·exact hn q
  have hsz:=h.frame.size
  refine ⟨A.os.trans h.frame.os,A.tape.trans h.frame.tape,A.output.trans h.frame.output,Nat.le_trans h.frame.size A.size,fun b hb hn=>?_,fun b o hb hn=>?_,fun b hb hn=>?_,fun b o hp=>?_,fun b o hp=>A.ext.pub b o (h.frame.old b o hp),fun b o hp=>(hext.cell b o (h.frame.old b o hp)).trans (h.frame.pcell b o hp)⟩
  ·exact (A.block b (by omega) (fun o=>notOwn b o hb (hn o))).trans (h.frame.block b hb hn)
  ·exact (A.cell b o (by omega) (notOwn b o hb hn)).trans (h.frame.cell b o hb hn)
  ·have hnall:¬∀o,lZ (dy L Ω.e) b o:=by
    intro hall
    refine hn (fun o=>?_)
    rcases own b o (Or.inr (hall o)) with q | q
    ·omega
    ·exact q
   obtain ⟨q1,q2⟩:=A.kind b (by omega) hnall
   obtain ⟨q3,q4⟩:=h.frame.kind b hb hn
   exact ⟨q1.trans q3,fun o=>(q2 o).trans (q4 o)⟩
  ·rcases A.fresh b o hp with q | q | q
   ·exact h.frame.pub b o q
   ·exact Or.inr (own b o (Or.inl q))
   ·exact Or.inr (own b o (Or.inr q))
end Go.AL
end
section
namespace Go.AL
variable [Tabs]
theorem xD {a:Act} {l:List Operand} {args:Array Operand} (h:args.toList=l):(args.map a.eval)=(l.map a.eval).toArray:=by
 subst h
 apply Array.ext'
 simp
def zL (P:Program) (C:Cfg) (o:Oper):Prop:=
 ∀(F:Fr) (s:AS) (a:Act) (Ω:Om) (eff:Eff) (next:Act→World→Prop) (Q:Exit→Act→World→Prop),
  Holds F s a Ω→(∀d,o.dst=some d→d < F.n)→aG C o s.T s.B=some eff→eff.asks→
  (match dV C o s.T s.B with
   | none=>∀a' Ω',Holds F (s.put o.dst eff) a' Ω'→next a' Ω'.w
   | some (b,pv,u)=>(b=false→∀a' Ω',Holds F (s.put o.dst eff) a' Ω'→next a' Ω'.w)/\
     (b=true→∀Ω' v,Holds F ⟨s.T,updB s.B u⟩ a Ω'→V Ω' pv v→Q (.panic [{v,recovered:=false}]) a Ω'.w))→o.wp P a Ω.w next Q
theorem cG.p {P:Program} {C:Cfg} {o:Oper} (h:cG P C o) (hp:∀T B,dV C o T B=none):zL P C o:=by
 intro F s a Ω eff next Q hh hd he ho hn
 rw [hp] at hn
 exact h F s a Ω eff next Q hh hd he ho hn
theorem CY (e:Nat→Option CObj):Names (fun i o=>some (i,o)) some (fun _=>none) e e:=by
 refine ⟨fun i o i' o' h b p l he=>?_,fun i i' h c hc=>?_,fun i i' h=>by simp at h⟩
 ·simp at h
  obtain ⟨rfl,rfl⟩:=h
  exact ⟨p,l,he,rfl⟩
 ·simp at h
  subst h
  exact hc
theorem Fe {Ω:Om} {k:Bool} {cs ds:List AV} {vs:List Value} (h:VL Ω cs vs) (hs:jz k cs=some ds):VL Ω ds vs:=by
 cases k with
 | true=>simp [jz] at hs;subst hs;exact h
 | false=>exact h.mapVs (CY Ω.e) hs
section
variable {P:Program} {C:Cfg} {o:Oper}
theorem call_ok (hS:dG P C.spec) {F:Fr} {s:AS} {a:Act} {Ω:Om} (h:Holds F s a Ω) {d f:Nat} {args:List AV} {vs:List Value} (hv:VL Ω args vs) {r:CallR}
  (hr:pE C d f args s.B=some r) (ho:r.eff.asks) (hdn:d < F.n) {next:Act→World→Prop} {Q:Exit→Act→World→Prop}
  (hn:(match r.pan with
   | none=>∀a' Ω',Holds F (s.put (some d) r.eff) a' Ω'→next a' Ω'.w
   | some (b,pv,u)=>(b=false→∀a' Ω',Holds F (s.put (some d) r.eff) a' Ω'→next a' Ω'.w)/\
     (b=true→∀Ω' v,Holds F ⟨s.T,updB s.B u⟩ a Ω'→V Ω' pv v→Q (.panic [{v,recovered:=false}]) a Ω'.w))) :
  au P f/\Calls P f vs.toArray Ω.w fun
   | .returned v,w''=>next (a.put (some d) v) w''
   | .panicked chain,w''=>Q (.panic chain) a w''
   | .outgrown,_=>LetsOut Q:=by
 unfold pE at hr
 split at hr
 ·cases hr
 ·rename_i args' hst
  have hv':=Fe hv hst
  generalize hL:fX C f args' s.B=L at hr
  unfold CA at hr
  split at hr
  ·rename_i hck
   simp only [Bool.and_eq_true,Nat.blt_eq,Nat.ble_eq] at hck
   obtain ⟨⟨hdist,hd⟩,hlen⟩:=hck
   split at hr
   ·rename_i as S has hS'
    split at hr
    ·rename_i A hA
     obtain ⟨k1,k2,k3⟩:=ib L 900 S hS'
     have hob:(∀q,A.ob=some q→q):=by
      intro q hq
      have:r.eff.ob=A.ob:=by
       unfold zC at hr
       split at hr
       ·split at hr
        ·simp at hr;subst hr;rfl
        ·split at hr
         ·simp at hr;subst hr;rfl
         ·cases hr
       ·cases hr
      unfold Eff.asks at ho
      rw [this,hq] at ho
      exact ho
     have hkeys:(am S).all cD=true:=by
      simp only [am,List.all_eq_true,List.mem_map]
      rintro k ⟨x,hx,rfl⟩
      have:=k3 x hx
      simp only [cD,Bool.and_eq_true,Nat.ble_eq,Nat.blt_eq]
      omega
     obtain ⟨hent,hmeets⟩:=hS f as S A hA hob hkeys
     have hlent:∀k i r,bj L k=some (i,r)→∃o o',s.B i=some o/\fP L r o=some o'/\ax S k=some o':=by
      intro k i r hk
      obtain ⟨h1,h2⟩:=fo hk
      obtain ⟨o,o',q1,q2,q3⟩:=k2 _ i r h2
      rw [show 900+(k - 900)=k by omega] at q3
      exact ⟨o,o',q1,q2,q3⟩
     have hLs:∀q i r,nth L q=some (i,r)→∃o o',s.B i=some o/\fP L r o=some o':=fun q i r hq=>let ⟨o,o',q1,q2,_⟩:=k2 q i r hq;⟨o,o',q1,q2⟩
     have hc:=hmeets Ω.w Ω.pub (dy L Ω.e) vs h.pubok h.tabs (hv'.mapVs (kz L Ω.e) has)
      (fun id o' ho'=>by
       obtain ⟨q,i,r,o2,e1,e2,e3,e4⟩:=k1 id o' ho'
       subst e1
       exact vd (cR (l9 L i 900 q r hdist e2)) (h.slots i o2 e3) e4)
      (fun id hid=>by
       unfold dy
       cases hl:bj L id with
       | none=>rfl
       | some x=>
        obtain ⟨o1,o2,_,_,q3⟩:=hlent id x.1 x.2 hl
        rw [hid] at q3
        cases q3)
      (fun i j c c' b oo hi hj ho1 ho2=>by
       obtain ⟨i1,r1,c1,p1,p2,p3⟩:=kA h.slots hLs hi
       obtain ⟨i2,r2,c2,p4,p5,p6⟩:=kA h.slots hLs hj
       have:=h.inj i1 i2 c1 c2 b oo p2 p5 (p3 b oo ho1) (p6 b oo ho2)
       subst this
       have a1:=dH hdist p1
       have a2:=dH hdist p4
       rw [a1] at a2
       simp at a2
       exact a2.1)
     refine ⟨hent,Calls.mono hc (fun en w' hq=>?_)⟩
     obtain ⟨pub',e',hq⟩:=hq
     unfold zC at hr
     split at hr
     ·rename_i v1 u1 b1 b2 b3
      cases en with
      | outgrown=>exact hq.elim
      | returned v=>
       obtain ⟨q1,q2,q3⟩:=hq
       obtain ⟨Ω',w1,w2,w3⟩:=nK h hd hdist hS' b3 b2 b1 q2 q3
       subst w1
       have fin:Holds F (s.put (some d) ⟨A.ob,v1,u1⟩) (a.put (some d) v) Ω':=by
        have:=w3.pure (dst:=some d) w2 (fun d' hd'=>by simp at hd';subst hd';exact hdn)
        exact this
       split at hr
       ·rename_i hp
        simp at hr
        subst hr
        exact hn _ _ fin
       ·rename_i b pv pu hp
        split at hr
        ·simp at hr
         subst hr
         exact hn.1 (q1 b pv pu hp) _ _ fin
        ·cases hr
      | panicked ch=>
       obtain ⟨pv,u,v,q0,rfl,q2,q3⟩:=hq
       split at hr
       ·rename_i hp
        rw [q0] at hp
        cases hp
       ·rename_i b pv' pu' hp
        rw [q0] at hp
        simp at hp
        obtain ⟨rfl,rfl,rfl⟩:=hp
        split at hr
        ·rename_i pv1 pu1 c1 c2 c3
         simp at hr
         subst hr
         obtain ⟨Ω',w1,w2,w3⟩:=nK h hd hdist hS' c3 c2 c1 q2 q3
         subst w1
         exact hn.2 rfl Ω' v w3 w2
        ·cases hr
     ·cases hr
    ·cases hr
   ·cases hr
  ·cases hr
theorem nL {B:Nat→Option SObj}:∀(u:List (Nat × SObj)) (B':Nat→Option SObj),(∀i o,B i=some o→B' i=some o)→iK B u→updB B' (uH B u)=updB B' u
 | [],_,_,_=>rfl
 | (i,o) ::r,B',hB,h=>by
  simp only [iK,uH] at h ⊢
  cases hl:B i with
  | some o'=>
   rw [hl] at h
   obtain ⟨rfl,h⟩:=h
   simp only [updB]
   have e:(fun j=>if i=j then some o' else B' j)=B':=by
    funext j
    by_cases hj:i=j
    ·subst hj
     rw [if_pos rfl,hB i o' hl]
    ·rw [if_neg hj]
   rw [e]
   exact nL r B' hB h
  | none=>
   rw [hl] at h
   simp only [updB]
   refine nL r _ (fun j o2 hj=>?_) h
   have:i≠j:=fun e=>by subst e;rw [hl] at hj;cases hj
   rw [if_neg this]
   exact hB j o2 hj
theorem rD {b:Bool} {s:AS} {e:Eff} (d:Option Nat) (h:(fx b s.B e).asks):e.asks/\s.put d (fx b s.B e)=s.put d e:=by
 cases b with
 | false=>exact ⟨h,rfl⟩
 | true=>
  obtain ⟨h1,h2⟩:=h
  refine ⟨h1,?_⟩
  simp only [AS.put,fx]
  rw [nL e.upd s.B (fun _ _ k=>k) h2]
theorem zM (hS:dG P C.spec) {c:Call} (hop:o.op=.call c) (hc:∀b,c.callee≠.builtin b):zL P C o:=by
 intro F s a Ω eff next Q h hd he ho hn
 have hef:∃r,fY C o s.T s.B=some r/\fx (ki C o) s.B r.eff=eff:=by
  obtain ⟨callee,args,ts⟩:=c
  cases callee with
  | builtin b=>exact absurd rfl (hc b)
  | value f=>
   simp only [aG,hop] at he
   split at he
   ·rename_i r hr;simp at he;exact ⟨r,hr,he⟩
   ·cases he
  | invoke r m=>
   simp only [aG,hop] at he
   split at he
   ·rename_i r hr;simp at he;exact ⟨r,hr,he⟩
   ·cases he
 obtain ⟨r,hr,rfl⟩:=hef
 obtain ⟨ho',hput⟩:=rD o.dst ho
 rw [hput] at hn
 clear ho
 have ho:=ho'
 have hpan:dV C o s.T s.B=r.pan:=by simp only [dV,hop,hr]
 rw [hpan] at hn
 unfold fY at hr
 split at hr
 ·rename_i c' d hop' hdst
  rw [hop] at hop'
  simp at hop'
  subst hop'
  rw [hdst] at hn
  have hdn:=hd d hdst
  split at hr
  ·rename_i f args hcal
   have hargs:∃vs:List Value,VL Ω args vs/\∀fn,P.funcs[f]?=some fn→fn.body.isNone=false→(fn.name == "runtime.NumGoroutine")=false→
     (execOp a.eval o).run P Ω.w=.ok (.enter f vs.toArray) Ω.w:=by
    have hvl:VL Ω (c.args.toList.map (opd s.T)) (c.args.toList.map a.eval):=by
     refine ⟨by simp,fun j x v hx hv=>?_⟩
     simp only [List.getElem?_map,Option.map_eq_some_iff] at hx hv
     obtain ⟨y,hy,rfl⟩:=hx
     obtain ⟨y',hy',rfl⟩:=hv
     rw [hy] at hy'
     simp at hy'
     subst hy'
     exact bC h y
    obtain ⟨callee,cargs,ts⟩:=c
    unfold dw at hcal
    split at hcal
    ·rename_i f' hf'
     simp at hcal hf'
     obtain ⟨rfl,rfl⟩:=hcal
     subst hf'
     refine ⟨_,hvl,fun fn h1 h2 h3=>?_⟩
     simp only [execOp,hop,resolve,Act.eval,Deferred.ofValue,Sem.run_bind,Sem.run_pure,Result.andThen_ok,invoke,callFunc,run_program,h1]
     simp [h2,h3]
     exact xD rfl
    ·rename_i t hf'
     simp at hf'
     subst hf'
     split at hcal
     ·rename_i f' caps hT
      simp at hcal
      obtain ⟨rfl,rfl⟩:=hcal
      have ht:=h.tmps t
      rw [hT] at ht
      generalize hxv:a.tmps.getD t undef=xv at ht
      cases ht with
      | fn _ _ us h1 h2=>
       refine ⟨_,hvl.append ⟨h1,h2⟩,fun fn e1 e2 e3=>?_⟩
       have hxv':a.tmps[t]?.getD undef=Value.func (Fn.func f') #[] us.toArray:=by rw [←hxv];simp [Array.getD_eq_getD_getElem?]
       simp only [execOp,hop,resolve,Act.eval,hxv,Deferred.ofValue,Sem.run_bind,Sem.run_pure,Result.andThen_ok,invoke,callFunc,run_program,e1]
       simp [e2,e3]
     ·cases hcal
    ·cases hcal
   obtain ⟨vs,hv,hrun⟩:=hargs
   obtain ⟨⟨fn,e1,e2,e3⟩,hcalls⟩:=call_ok hS h hv hr ho hdn hn
   unfold Oper.wp
   rw [hrun fn e1 e2 e3,Oper.upon_enter,hdst]
   exact hcalls
  ·cases hr
 ·cases hr
theorem CZ {x:Operand} (hop:o.op=.panic x):zL P C o:=by
 intro F s a Ω eff next Q h hd he ho hn
 simp only [aG,hop] at he
 simp only [dV,hop] at hn
 have hx:=bC h x
 split at he
 ·rename_i t y hxe
  rw [hxe] at hx hn
  generalize hxv:a.eval x=xv at hx
  have hx':=hx
  cases hx with
  | iface _ _ v hv=>
   have hrun:(execOp a.eval o).run P Ω.w=.halt (.panic (.iface t v)) Ω.w:=by
    simp [execOp,hop,hxv,Instr.panic,goPanic,Sem.run,Result.andThen]
   unfold Oper.wp
   rw [hrun,Oper.upon_panic]
   exact hn.2 trivial Ω _ h hx'
 ·cases he
theorem Ge (hT:bH P C.tbl) (hS:dG P C.spec) (o:Oper):zL P C o:=by
 have np:∀{op:Op},o.op=op→(∀x,op≠.panic x)→(∀c,op≠.call c)→∀T B,dV C o T B=none:=by
  intro op hop h1 h2 T B
  unfold dV
  split
  ·rename_i x hx;exact absurd (hop.symm.trans hx) (h1 x)
  ·rename_i c hx;exact absurd (hop.symm.trans hx) (h2 c)
  ·rfl
 have nb:∀{b:Builtin} {args:Array Operand} {ts:Array Nat},o.op=.call {callee:=.builtin b,args:=args,argTypes:=ts}→∀T B,dV C o T B=none:=by
  intro b args ts hop T B
  simp only [dV,hop,fY]
  cases o.dst <;> simp [dw]
 cases hop:o.op with
 | move x=>exact (F6 hop).p (np hop (by simp) (by simp))
 | assign x=>exact (At hop).p (np hop (by simp) (by simp))
 | pick c x y=>exact (F7 hop).p (np hop (by simp) (by simp))
 | alloc e=>exact (CR hT hop).p (np hop (by simp) (by simp))
 | box e x=>exact (Gu hop).p (np hop (by simp) (by simp))
 | build t ps=>exact (CS hT hop).p (np hop (by simp) (by simp))
 | buildSlice t n ps=>exact (rB hT hop).p (np hop (by simp) (by simp))
 | load t x=>exact (F8 hT hop).p (np hop (by simp) (by simp))
 | store t x y=>exact (CT hT hop).p (np hop (by simp) (by simp))
 | nilCheck x=>exact (uN hop).p (np hop (by simp) (by simp))
 | binOp op t x y t'=>exact (CM hT hop).p (np hop (by simp) (by simp))
 | unOp op t x=>exact (Fc hop).p (np hop (by simp) (by simp))
 | convert t t' x=>exact (xB hT hop).p (np hop (by simp) (by simp))
 | fieldAddr t x f=>exact (tg hT hop).p (np hop (by simp) (by simp))
 | field t x f=>exact (CO hT hop).p (np hop (by simp) (by simp))
 | indexAddr t x y=>exact (th hT hop).p (np hop (by simp) (by simp))
 | index t x y=>exact (CP hT hop).p (np hop (by simp) (by simp))
 | slice t x lo hi mx=>
  cases mx with
  | none=>exact (CQ hT hop).p (np hop (by simp) (by simp))
  | some _=>intro F s a Ω eff next Q h hd he ho hn;simp [aG,hop] at he
 | extract x i=>exact (xq hop).p (np hop (by simp) (by simp))
 | lookup t x k ok=>exact (AA hT hop).p (np hop (by simp) (by simp))
 | mapUpdate t x k v=>exact (s9 hT (Or.inl hop)).p (np hop (by simp) (by simp))
 | insert t x k v=>exact (s9 hT (Or.inr hop)).p (np hop (by simp) (by simp))
 | makeMap t r=>exact (xA hT hop).p (np hop (by simp) (by simp))
 | makeSlice t x y=>exact (tD hT hop).p (np hop (by simp) (by simp))
 | makeFunc f x y=>exact (v6 hop).p (np hop (by simp) (by simp))
 | makeInterface t x=>exact (nH hT hop).p (np hop (by simp) (by simp))
 | typeAssert x t t' b=>exact (rC hT hop).p (np hop (by simp) (by simp))
 | panic x=>exact CZ hop
 | call c=>
  obtain ⟨callee,args,ts⟩:=c
  cases callee with
  | builtin b=>
   cases b with
   | len=>exact (Gt hT hop).p (nb hop)
   | append=>exact (Az hT hop).p (nb hop)
   | max=>exact (Gv hop).p (nb hop)
   | min=>exact (Gw hop).p (nb hop)
   | _=>intro F s a Ω eff next Q h hd he ho hn;simp [aG,hop] at he
  | value f=>exact zM hS hop (by simp)
  | invoke r m=>exact zM hS hop (by simp)
 | _=>intro F s a Ω eff next Q h hd he ho hn;simp [aG,hop] at he
end
end Go.AL
end
