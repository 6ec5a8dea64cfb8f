/- Plain facts. No condition. -/
import Derived.Test.YtdmbjejhifjhbaaGreatDoorT12
set_option linter.unusedVariables false
set_option linter.unusedSimpArgs false
set_option linter.unnecessarySimpa false
set_option linter.deprecated false
set_option linter.unusedSectionVars false
set_option maxRecDepth 100000
section
namespace Go.AL
variable [Tabs]
def RdO:SObj→SObj→Prop
 | .box c,.box d=>RdL (aa c) (aa d)
 | o,o'=>o=o'
theorem RdO.refl (o:SObj):RdO o o:=by
 cases o with
 | box c=>exact RdL.refl _
 | _=>rfl
theorem RdO.slot {Ω:Om} {own:Nat→Nat→Prop} {id:Nat} {o o':SObj} (h:bD Ω own id o) (hr:RdO o o'):bD Ω own id o':=by
 cases o with
 | box c=>
  cases o' with
  | box d=>exact bD.rd h hr
  | _=>cases hr
 | _=>cases o' <;> first | (cases hr;exact h) | cases hr
inductive RdS:List (Nat × SObj)→List (Nat × SObj)→Prop
 | nil:RdS [] []
 | cons {i:Nat} {o o':SObj} {r r':List (Nat × SObj)}:RdO o o'→RdS r r'→RdS ((i,o) ::r) ((i,o') ::r')
theorem RdS.get {S S':List (Nat × SObj)} (h:RdS S S') (id:Nat):(ax S id=none/\ax S' id=none)∨∃o o',ax S id=some o/\ax S' id=some o'/\RdO o o':=by
 induction h with
 | nil=>exact .inl ⟨rfl,rfl⟩
 | @cons i o o' r r' ho _ ih=>
  simp only [ax]
  by_cases hi:i=id
  ·simp only [hi,beq_self_eq_true,if_true]
   exact .inr ⟨o,o',rfl,rfl,ho⟩
  ·simp only [beq_iff_eq,hi,if_false]
   exact ih
theorem t8 (S:List (Nat × SObj)) (u:List (Nat × SObj)) (id:Nat):ax (AL.putB S u) id=AL.updB (ax S) u id:=by rw [iR]
theorem Bi:∀(u:List (Nat × SObj)) (B B':Nat→Option SObj) (id:Nat),id∈an u→updB B u id=updB B' u id
 | (i,o) ::r,B,B',id,h=>by
  simp only [updB]
  by_cases hr:id∈an r
  ·exact Bi r _ _ id hr
  ·have hi:id=i:=by
    simp only [an,List.map_cons,List.mem_cons] at h hr
    exact h.resolve_right hr
   subst hi
   rw [fP r _ id hr,fP r _ id hr]
   simp
theorem aq.slots {P:Program} {f:Nat} {args:List AV} {S S':List (Nat × SObj)} {A:Ans} (hr:RdS S S') (hp:A.pan=none) (hu:∀i∈an S,i∈an A.upd)
  (h:aq P f args S' A):aq P f args S A:=by
 intro w pub e vs hpo ht hv hs hd hi
 have e2:ax (putB S A.upd)=ax (putB S' A.upd):=by
  funext id
  rw [t8,t8]
  by_cases hk:id∈an A.upd
  ·exact Bi _ _ _ _ hk
  ·rw [fP _ _ _ hk,fP _ _ _ hk]
   rcases hr.get id with ⟨h1,h2⟩ | ⟨o,o',h1,h2,_⟩
   ·rw [h1,h2]
   ·exact absurd (hu id (by
     have:=dW _ _ _ h1
     exact List.mem_map.2 ⟨_,this,rfl⟩)) hk
 refine (h w pub e vs hpo ht hv (fun id o ho=>?_) (fun id hid=>?_) hi).mono ?_
 ·rcases hr.get id with ⟨h1,h2⟩ | ⟨o1,o2,h1,h2,h3⟩
  ·rw [h2] at ho;cases ho
  ·rw [h2] at ho
   cases ho
   exact h3.slot (hs id o1 h1)
 ·rcases hr.get id with ⟨h1,_⟩ | ⟨o1,o2,_,h2,_⟩
  ·exact hd id h1
  ·rw [h2] at hid;cases hid
 ·intro en w' hq
  obtain ⟨pub',e',hq⟩:=hq
  refine ⟨pub',e',?_⟩
  cases en with
  | returned v=>simp only at hq ⊢;rw [e2];exact hq
  | panicked ch=>
   obtain ⟨pv,u,v,h1,_⟩:=hq
   rw [hp] at h1
   cases h1
  | outgrown=>exact hq
section
variable {P:Program} {f:Nat}
def pP0 (F:Par→Ans):Pat
 | [.ptr 900 0],[(900,.box c)]=>(match arg (.st .par) c with | some x=>some (F x) | none=>none)
 | _,_=>none
def pP1 (τ:Ty) (F:Par→den τ→Ans):Pat
 | [.ptr 900 0,a],[(900,.box c)]=>(match arg (.st .par) c,arg τ a with | some x,some y=>some (F x y) | _,_=>none)
 | _,_=>none
def pP2 (τ σ:Ty) (F:Par→den τ→den σ→Ans):Pat
 | [.ptr 900 0,a,b],[(900,.box c)]=>(match arg (.st .par) c,arg τ a,arg σ b with | some x,some y,some z=>some (F x y z) | _,_,_=>none)
 | _,_=>none
theorem rdP {c:AV} {x:Par} (h:arg (.st .par) c=some x):RdS [(900,.box c)] [(900,.box (.st .par x))]:=.cons (dw _ h) .nil
theorem iV {F:Par→Ans} (he:ar P f) (hp:∀x,(F x).pan=none) (hu:∀x,900∈an (F x).upd) (h:∀x,(∀q,(F x).ob=some q→q)→aq P f [.ptr 900 0] [(900,.box (.st .par x))] (F x)):ac P f (pP0 F):=by
 intro args S A hA ho _
 unfold pP0 at hA
 split at hA
 ·split at hA
  ·rename_i x hx
   simp only [Xs] at hA
   subst hA
   exact ⟨he,aq.slots (rdP hx) (hp x) (by simpa [an] using hu x) (h x ho)⟩
  ·cases hA
 ·cases hA
theorem qO {τ:Ty} {F:Par→den τ→Ans} (he:ar P f) (hp:∀x y,(F x y).pan=none) (hu:∀x y,900∈an (F x y).upd)
  (h:∀x y,Wf τ y→(∀q,(F x y).ob=some q→q)→aq P f [.ptr 900 0,inj τ y] [(900,.box (.st .par x))] (F x y)):ac P f (pP1 τ F):=by
 intro args S A hA ho _
 unfold pP1 at hA
 split at hA
 ·split at hA
  ·rename_i x y hx hy
   simp only [Xs] at hA
   subst hA
   exact ⟨he,aq.slots (rdP hx) (hp x y) (by simpa [an] using hu x y) (aq.args (.cons (Rd.refl _) (.cons (Rd.arg hy) .nil)) (aq.wf fun hw=>h x y hw.two ho))⟩
  ·cases hA
 ·cases hA
theorem IH {τ σ:Ty} {F:Par→den τ→den σ→Ans} (he:ar P f) (hp:∀x y z,(F x y z).pan=none) (hu:∀x y z,900∈an (F x y z).upd)
  (h:∀x y z,Wf τ y→Wf σ z→(∀q,(F x y z).ob=some q→q)→aq P f [.ptr 900 0,inj τ y,inj σ z] [(900,.box (.st .par x))] (F x y z)):ac P f (pP2 τ σ F):=by
 intro args S A hA ho _
 unfold pP2 at hA
 split at hA
 ·split at hA
  ·rename_i x y z hx hy hz
   simp only [Xs] at hA
   subst hA
   exact ⟨he,aq.slots (rdP hx) (hp x y z) (by simpa [an] using hu x y z) (aq.args (.cons (Rd.refl _) (.cons (Rd.arg hy) (.cons (Rd.arg hz) .nil))) (aq.wf fun hw=>h x y z hw.two hw.three ho))⟩
  ·cases hA
 ·cases hA
end
end Go.AL
end
section
namespace Go.AL
variable [Tabs]
section
variable {P:Program} {f:Nat}
def qP (F:Shape→Par→Nat→Nat→Ans):Pat
 | [.ptr 900 0,.ptr 901 0],[(900,.box (.ptr 902 0)),(901,.box (.agg [.int .i64 k,.str p,.str q,.lst .str ns (some 903),.lst (.st .shape) ps (some 904)])),(902,.box c),(903,.tail .str m),(904,.tail (.st .shape) m')]=>
  (match arg (.st .par) c with | some s=>some (F ⟨k,p,q,ns,ps⟩ s m m') | none=>none)
 | _,_=>none
def EK (x:Shape) (c:AV) (m m':Nat):List (Nat × SObj):=
 [(900,.box (.ptr 902 0)),(901,.box (.agg [.int .i64 x.kind,.str x.pkg,.str x.name,.lst .str x.names (some 903),.lst (.st .shape) x.parts (some 904)])),(902,.box c),(903,.tail .str m),(904,.tail (.st .shape) m')]
theorem Cf {F:Shape→Par→Nat→Nat→Ans} (he:ar P f) (hp:∀x s m m',(F x s m m').pan=none) (hu:∀x s m m',∀i∈[900,901,902,903,904],i∈an (F x s m m').upd)
  (h:∀x s m m',(∀q,(F x s m m').ob=some q→q)→aq P f [.ptr 900 0,.ptr 901 0] (EK x (.st .par s) m m') (F x s m m')):ac P f (qP F):=by
 intro args S A hA ho _
 unfold qP at hA
 split at hA
 ·split at hA
  ·rename_i s hs
   simp only [Xs] at hA
   subst hA
   refine ⟨he,aq.slots ?_ (hp _ _ _ _) (by simpa [an] using hu _ _ _ _) (h _ _ _ _ ho)⟩
   exact .cons (RdO.refl _) (.cons (RdO.refl _) (.cons (dw _ hs) (.cons rfl (.cons rfl .nil))))
  ·cases hA
 ·cases hA
def ww (F:Shape→Par→Nat→Ans):Pat
 | [.ptr 900 0,.ptr 901 0],[(900,.box (.agg [.int .i64 k,.str p,.str q,.nils,.lst (.st .shape) ps (some 902)])),(901,.box (.ptr 903 0)),(902,.tail (.st .shape) m),(903,.box c)]=>
  (match arg (.st .par) c with | some s=>some (F ⟨k,p,q,[],ps⟩ s m) | none=>none)
 | _,_=>none
def Ip (x:Shape) (c:AV) (m:Nat):List (Nat × SObj):=
 [(900,.box (.agg [.int .i64 x.kind,.str x.pkg,.str x.name,.nils,.lst (.st .shape) x.parts (some 902)])),(901,.box (.ptr 903 0)),(902,.tail (.st .shape) m),(903,.box c)]
theorem EL {F:Shape→Par→Nat→Ans} (he:ar P f) (hp:∀x s m,(F x s m).pan=none) (hu:∀x s m,∀i∈[900,901,902,903],i∈an (F x s m).upd)
  (h:∀x s m,x.names=[]→(∀q,(F x s m).ob=some q→q)→aq P f [.ptr 900 0,.ptr 901 0] (Ip x (.st .par s) m) (F x s m)):ac P f (ww F):=by
 intro args S A hA ho _
 unfold ww at hA
 split at hA
 ·split at hA
  ·rename_i s hs
   simp only [Xs] at hA
   subst hA
   refine ⟨he,aq.slots ?_ (hp _ _ _) (by simpa [an] using hu _ _ _) (h _ _ _ rfl ho)⟩
   exact .cons (RdO.refl _) (.cons (RdO.refl _) (.cons rfl (.cons (dw _ hs) .nil)))
  ·cases hA
 ·cases hA
def uH (g:Nat) (F:Str→Str→Int→Par→Ans):Pat
 | [.ptr 900 0,.str b,.str e,.fn g' [.ptr 901 0,.ptr 902 0]],[(900,.box c),(901,.box (.ptr 900 0)),(902,.box (.agg [.int .i64 k,.str [],.str [],.nils,.nils]))]=>
  (match Nat.beq g' g,arg (.st .par) c with | true,some s=>some (F b e k s) | _,_=>none)
 | _,_=>none
def EM (k:Int) (c:AV):List (Nat × SObj):=[(900,.box c),(901,.box (.ptr 900 0)),(902,.box (.agg [.int .i64 k,.str [],.str [],.nils,.nils]))]
theorem Cg {g:Nat} {F:Str→Str→Int→Par→Ans} (he:ar P f) (hp:∀b e k s,(F b e k s).pan=none) (hu:∀b e k s,∀i∈[900,901,902],i∈an (F b e k s).upd)
  (h:∀b e k s,(∀q,(F b e k s).ob=some q→q)→aq P f [.ptr 900 0,.str b,.str e,.fn g [.ptr 901 0,.ptr 902 0]] (EM k (.st .par s)) (F b e k s)):ac P f (uH g F):=by
 intro args S A hA ho _
 unfold uH at hA
 split at hA
 ·split at hA
  ·rename_i hb hs
   simp only [Xs] at hA
   subst hA
   have e:=Nat.eq_of_beq_eq_true hb
   subst e
   refine ⟨he,aq.slots ?_ (hp _ _ _ _) (by simpa [an] using hu _ _ _ _) (h _ _ _ _ ho)⟩
   exact .cons (dw _ hs) (.cons (RdO.refl _) (.cons (RdO.refl _) .nil))
  ·cases hA
 ·cases hA
def uI (g:Nat) (F:Str→Str→Int→Par→Ans):Pat
 | [.ptr 900 0,.str b,.str e,.fn g' [.ptr 901 0,.ptr 902 0]],[(900,.box c),(901,.box (.agg [.int .i64 k,.str [],.str [],.nils,.nils])),(902,.box (.ptr 900 0))]=>
  (match Nat.beq g' g,arg (.st .par) c with | true,some s=>some (F b e k s) | _,_=>none)
 | _,_=>none
def EN (k:Int) (c:AV):List (Nat × SObj):=[(900,.box c),(901,.box (.agg [.int .i64 k,.str [],.str [],.nils,.nils])),(902,.box (.ptr 900 0))]
theorem Ch {g:Nat} {F:Str→Str→Int→Par→Ans} (he:ar P f) (hp:∀b e k s,(F b e k s).pan=none) (hu:∀b e k s,∀i∈[900,901,902],i∈an (F b e k s).upd)
  (h:∀b e k s,(∀q,(F b e k s).ob=some q→q)→aq P f [.ptr 900 0,.str b,.str e,.fn g [.ptr 901 0,.ptr 902 0]] (EN k (.st .par s)) (F b e k s)):ac P f (uI g F):=by
 intro args S A hA ho _
 unfold uI at hA
 split at hA
 ·split at hA
  ·rename_i hb hs
   simp only [Xs] at hA
   subst hA
   have e:=Nat.eq_of_beq_eq_true hb
   subst e
   refine ⟨he,aq.slots ?_ (hp _ _ _ _) (by simpa [an] using hu _ _ _ _) (h _ _ _ _ ho)⟩
   exact .cons (dw _ hs) (.cons (RdO.refl _) (.cons (RdO.refl _) .nil))
  ·cases hA
 ·cases hA
end
end Go.AL
end
section
namespace Go.Pd
open Go.AL
structure Moves (s s':Par):Prop where
 goes:Goes s s'
 eats:jC s s'
theorem Moves.goes_then {a b c:Par} (h:Moves a b) (k:Goes b c):Moves a c:=⟨h.goes.trans k,h.eats.then k⟩
theorem Moves.then {a b c:Par} (h:Moves a b) (k:Moves b c):Moves a c:=h.goes_then k.goes
theorem Moves.lt {a b:Par} {n:Nat} (h:Moves a b) (k:rem a<=n) (h0:a.err=0):rem b < n:=h.eats.lt k h0
theorem Moves.good {a b:Par} (h:Moves a b):a8 b:=h.goes.good
theorem bi {t:Str} {s:Par} (h:a8 s) (c:isF t s=true):Moves s (aC s):=⟨cX h c,.inl (by have:=bq h c;omega)⟩
theorem aA {t:Str} {s:Par} (h:a8 s):Moves s (aj t s):=⟨cq h,Ce h⟩
theorem dz {k:Int} {s:Par} (h:a8 s) (hk:¬k=0):Moves s (aS k s).2:=⟨(lP h hk).1,(lP h hk).2⟩
theorem eP {ns:List Str} {s:Par} (h:a8 s):Moves s (aO ns s).2:=⟨(kc h).1,(kc h).2⟩
theorem jb {s:Par} (h:a8 s):Moves s (aW s).2:=⟨(lf h).1,(lf h).2⟩
theorem zc {e a:Int} {s:Par} (h:a8 s) (he:¬e=0):Moves s (cv e a s):=⟨iG h he,.inr (iU he)⟩
theorem gf.moves {α:Type} {R:Par→α × Par} {n:Nat} (h:gf R n) {s:Par} (hi:a8 s) (hn:rem s < n):Moves s (R s).2:=⟨(h s hi hn).1,(h s hi hn).2⟩
theorem jD {a:Str} {t:Trm} {s:Par} (h:a8 s):Moves s (fw a t s).2:=(aA h).then (jb (aA h).good)
theorem kd {k:Int} {s:Par} (hi:a8 s) (hk:¬k=0) (c:(ao s).kind=k) (b:aV s=false):Moves s (aC s)/\rem (aC s)+1=rem s:=by
 have h3:=eE.1 b
 have h2:s.pos < (s.toks.length:Int):=f7 (by have:=c;unfold ao at this;rw [this];exact hk)
 have:=nw hi h2 h3
 exact ⟨⟨ny hi h2 h3 (by have:=c;unfold ao at this;rw [this];exact hk),.inl (by omega)⟩,this⟩
theorem og (n:Nat):fc ay n:=by
 intro x s hi h0 hn
 have m:=(eP (ns:=x.names) hi).then (jD (a:=[58]) (t:=bG x (aO x.names s).1) (eP hi).good)
 exact ⟨m.goes,m.eats⟩
theorem fH {R:Par→Trm × Par} {n:Nat} (hR:gf R (n+1)):fc (au R) n:=by
 intro x s hi h0 hn
 exact hR s hi (by omega)
theorem oh {R:Par→Trm × Par} {n:Nat} (hR:gf R n):fc (am R) n:=by
 intro x s hi h0 hn
 have m1:=eP (ns:=x.names) hi
 have m2:=m1.then (aA (t:=[40]) m1.good)
 have m3:=m2.then (dz (k:=1) m2.good (by decide))
 have m4:=m3.then (jD (a:=[58]) (t:=dq (bG x (aO x.names s).1) (aS 1 (aj [40] (aO x.names s).2)).1.text) m3.good)
 have m5:=m4.then (aA (t:=[41]) m4.good)
 have m6:=m5.then (aA (t:=[45,62]) m5.good)
 have m7:=m6.then (hR.moves m6.good (m6.lt hn h0))
 exact ⟨m7.goes,m7.eats⟩
theorem pa {R:Par→Trm × Par} {n:Nat} (hR:gf R n):fc (ah R) n:=by
 intro x s hi h0 hn
 have m1:=eP (ns:=x.names) hi
 have m2:=m1.then (aA (t:=[61]) m1.good)
 have m3:=m2.then (hR.moves m2.good (m2.lt hn h0))
 exact ⟨m3.goes,m3.eats⟩
theorem wy {R:Par→Trm × Par} {n:Nat} (hR:gf R n) {s:Par} (hi:a8 s) (hn:rem (aj [40] s) < n):Moves s (dj R s).2:=by
 have m1:=aA (t:=[40]) hi
 have m2:=m1.then (hR.moves m1.good hn)
 exact m2.then (aA (t:=[41]) m2.good)
theorem Moves.ite {α:Type} {s:Par} {c:Prop} [Decidable c] {p q:α × Par} (h1:c→Moves s p.2) (h2:¬c→Moves s q.2):Moves s (if c then p else q).2:=by
 by_cases h:c
 ·rw [if_pos h];exact h1 h
 ·rw [if_neg h];exact h2 h
theorem qQ {R:Par→Trm × Par} {n:Nat} (hR:gf R n) {s:Par} (hi:a8 s) (hn:rem s < n+1):Moves s (eh R s).2:=by
 unfold eh
 refine Moves.ite (fun b=>⟨Goes.refl hi,.inr (EH.2 (cG.1 b))⟩) (fun b=>?_)
 have b:aV s=false:=by simpa using b
 refine Moves.ite (fun c=>(kd hi (by decide) c b).1) (fun _=>?_)
 refine Moves.ite (fun c=>(kd hi (by decide) c b).1) (fun _=>?_)
 refine Moves.ite (fun c=>?_) (fun _=>?_)
 ·have m:=(kd hi (by decide) c b).1
  refine Moves.ite (fun c2=>?_) (fun _=>m)
  have m2:=m.then (bi m.good c2)
  exact m2.then (dz m2.good (by decide))
 refine Moves.ite (fun c=>bi hi c) (fun _=>?_)
 refine Moves.ite (fun c=>bi hi c) (fun _=>?_)
 refine Moves.ite (fun c=>?_) (fun _=>?_)
 ·have m:=bi hi c
  have r:=bq hi c
  have m2:=m.then (hR.moves m.good (by omega))
  refine Moves.ite (fun c2=>?_) (fun _=>m2.then (aA m2.good))
  have m3:=m2.then (bi m2.good c2)
  have m4:=m3.then (jb m3.good)
  exact m4.then (aA m4.good)
 refine Moves.ite (fun c=>?_) (fun _=>?_)
 ·have m:=bi hi c
  have r:=bq hi c
  exact m.goes_then (bz (pa hR) [44] [125] _ m.good (by omega))
 have inn:∀k:Int,¬k=0→∀t:Str,isF t s=true→Moves s (dj R (aS k (aC s)).2).2:=fun k hk t c=>by
  have m:=bi hi c
  have r:=bq hi c
  have m2:=dz (k:=k) m.good hk
  have m3:=aA (t:=[40]) m2.good
  exact (m.then m2).then (wy hR m2.good (by have:=m2.goes.le;have:=m3.goes.le;omega))
 refine Moves.ite (fun c=>inn 1 (by decide) _ c) (fun _=>?_)
 refine Moves.ite (fun c=>inn 2 (by decide) _ c) (fun _=>?_)
 refine Moves.ite (fun c=>inn 2 (by decide) _ c) (fun _=>?_)
 exact zc hi (by decide)
theorem oi {R:Par→Trm × Par} {n:Nat} (hR:gf R n) (p:Int):∀(k:Nat) (t:Trm) (s:Par),a8 s→rem s < n+1→Goes s (ja R p k t s).2
 | 0,t,s,hi,_=>Goes.refl hi
 | k+1,t,s,hi,hn=>by
  simp only [ja]
  split
  ·exact Goes.refl hi
  split
  ·rename_i c
   have m:=bi hi c
   have r:=bq hi c
   have hp:=ez (eM c).2
   obtain ⟨j,rfl⟩:∃j,n=j+1:=⟨n - 1,by have:=ez (eM c).2;have:rem (aC s)=rem (aC s):=rfl;omega⟩
   have g:=bz (fH hR) [44] [41] (⟨7,[],[],0,[],[],[],[t],p⟩:Trm) m.good (by omega)
   exact (m.goes.trans g).trans (oi hR p k _ _ g.good (by have:=g.le;omega))
  split
  ·rename_i c
   have m:=bi hi c
   have m2:=m.then (dz (k:=1) m.good (by decide))
   exact m2.goes.trans (oi hR p k _ _ m2.good (by have:=m2.goes.le;omega))
  ·exact Goes.refl hi
theorem wz {R:Par→Trm × Par} {n:Nat} (hR:gf R n) {s:Par} (hi:a8 s) (hn:rem s < n+1):Moves s (fR R s).2:=by
 have m:=qQ hR hi hn
 exact m.goes_then (oi hR _ _ _ _ m.good (by have:=m.goes.le;omega))
theorem wA {R:Par→Trm × Par} {n:Nat} (hR:gf R n):gf (p8 R) (n+1):=by
 intro s hi hn
 suffices m:Moves s (p8 R s).2 from ⟨m.goes,m.eats⟩
 unfold p8
 simp only
 split
 ·rename_i c
  have m:=bi hi c
  have r:=bq hi c
  have m2:=m.then (aA (t:=[40]) m.good)
  have g:=bz (og n) [44] [41] (⟨6,[],[],0,[],[],[],[],(ao s).pos⟩:Trm) m2.good (by have:=(aA (t:=[40]) m.good).goes.le;omega)
  have m3:=(m2.goes_then g).then (aA (t:=[45,62]) g.good)
  have l1:=(aA (t:=[40]) m.good).goes.le
  have l2:=g.le
  have l3:=(aA (t:=[45,62]) g.good).goes.le
  exact m3.then (hR.moves m3.good (by omega))
 split
 ·rename_i c
  have m:=bi hi c
  have r:=bq hi c
  have a:=dz (k:=1) m.good (by decide)
  have b:=a.then (aA (t:=[61]) a.good)
  have p1:=b.then (hR.moves b.good (by have:=b.goes.le;omega))
  have q:=p1.then (aA (t:=[105,110]) p1.good)
  exact m.then (q.then (hR.moves q.good (by have:=q.goes.le;omega)))
 split
 ·rename_i c
  have m:=bi hi c
  have r:=bq hi c
  have p1:=hR.moves m.good (by omega)
  have b:=p1.then (aA (t:=[116,104,101,110]) p1.good)
  have p2:=b.then (hR.moves b.good (by have:=b.goes.le;omega))
  have d:=p2.then (aA (t:=[101,108,115,101]) p2.good)
  have p3:=d.then (hR.moves d.good (by have:=d.goes.le;omega))
  exact m.then (p3.then (jD p3.good))
 split
 ·rename_i c
  have m:=bi hi c
  have r:=bq hi c
  have p1:=hR.moves m.good (by omega)
  have b:=p1.then (aA (t:=[111,102]) p1.good)
  have d:=b.then (aA (t:=[123]) b.good)
  have g:=bz (oh hR) [124] [125] (au R ⟨13,[],[],0,[],[],[],[],(ao s).pos⟩ (aC s)).1 d.good (by have:=d.goes.le;omega)
  have e:=d.goes_then g
  exact m.then (e.then (jD e.good))
 split
 ·rename_i c
  have m:=bi hi c
  have r:=bq hi c
  have hp:=ez (eM c).2
  obtain ⟨j,rfl⟩:∃j,n=j+1:=⟨n - 1,by omega⟩
  have g:=bz (fH hR) [44] [93] (⟨11,[],[],0,[],[],[],[],(ao s).pos⟩:Trm) m.good (by omega)
  have e:=m.goes_then g
  exact e.then (jD e.good)
 ·exact wz hR hi hn
theorem dU:∀n,gf (a7 n) n
 | 0=>fun s _ h=>absurd h (Nat.not_lt_zero _)
 | n+1=>wA (dU n)
end Go.Pd
end
section
namespace Go.AL
variable [Tabs]
section
variable {P:Program} {f:Nat}
def pT_ (F:Trm→Par→Ans):Pat
 | [.ptr 900 0,.ptr 901 0],[(900,.box (.agg [.int .i64 k,.str g,.str q,.int .i64 z,.nils,.nils,.nils,.nils,.int .i64 pp])),(901,.box (.ptr 902 0)),(902,.box c)]=>
  (match arg (.st .par) c with | some s=>some (F ⟨k,g,q,z,[],[],[],[],pp⟩ s) | _=>none)
 | _,_=>none
def sT_ (x:Trm) (c:AV):List (Nat × SObj):=
 [(900,.box (.agg [.int .i64 (x).kind,.str (x).pkg,.str (x).name,.int .i64 (x).n,.nils,.nils,.nils,.nils,.int .i64 (x).pos])),(901,.box (.ptr 902 0)),(902,.box c)]
theorem II {F:Trm→Par→Ans} (he:ar P f) (hp:∀x s,(F x s).pan=none) (hu:∀x s,∀i∈[900,901,902],i∈an (F x s).upd)
  (h:∀x s,x.names=[]→x.vars=[]→x.shapes=[]→x.parts=[]→(∀q,(F x s).ob=some q→q)→aq P f [.ptr 900 0,.ptr 901 0] (sT_ x (.st .par s)) (F x s)):ac P f (pT_ F):=by
 intro args S A hA ho _
 unfold pT_ at hA
 split at hA
 ·split at hA
  ·rename_i hs
   simp only [Xs] at hA
   subst hA
   refine ⟨he,aq.slots ?_ (hp _ _) (by simpa [an] using hu _ _) (h _ _ rfl rfl rfl rfl ho)⟩
   exact .cons (RdO.refl _) (.cons (RdO.refl _) (.cons (dw _ hs) .nil))
  ·cases hA
 ·cases hA
def uJ (F:Trm→Par→Nat→Ans):Pat
 | [.ptr 900 0,.ptr 901 0],[(900,.box (.agg [.int .i64 k,.str g,.str q,.int .i64 z,.nils,.nils,.nils,.lst (.st .term) ps (some 902),.int .i64 pp])),(901,.box (.ptr 903 0)),(902,.tail (.st .term) mp),(903,.box c)]=>
  (match arg (.st .par) c with | some s=>some (F ⟨k,g,q,z,[],[],[],ps,pp⟩ s mp) | _=>none)
 | _,_=>none
def IJ (x:Trm) (c:AV) (mp:Nat):List (Nat × SObj):=
 [(900,.box (.agg [.int .i64 (x).kind,.str (x).pkg,.str (x).name,.int .i64 (x).n,.nils,.nils,.nils,.lst (.st .term) (x).parts (some 902),.int .i64 (x).pos])),(901,.box (.ptr 903 0)),(902,.tail (.st .term) mp),(903,.box c)]
theorem Bj {F:Trm→Par→Nat→Ans} (he:ar P f) (hp:∀x s mp,(F x s mp).pan=none) (hu:∀x s mp,∀i∈[900,901,902,903],i∈an (F x s mp).upd)
  (h:∀x s mp,x.names=[]→x.vars=[]→x.shapes=[]→(∀q,(F x s mp).ob=some q→q)→aq P f [.ptr 900 0,.ptr 901 0] (IJ x (.st .par s) mp) (F x s mp)):ac P f (uJ F):=by
 intro args S A hA ho _
 unfold uJ at hA
 split at hA
 ·split at hA
  ·rename_i hs
   simp only [Xs] at hA
   subst hA
   refine ⟨he,aq.slots ?_ (hp _ _ _) (by simpa [an] using hu _ _ _) (h _ _ _ rfl rfl rfl ho)⟩
   exact .cons (RdO.refl _) (.cons (RdO.refl _) (.cons (RdO.refl _) (.cons (dw _ hs) .nil)))
  ·cases hA
 ·cases hA
def Bk (F:Trm→Par→Nat→Nat→Ans):Pat
 | [.ptr 900 0,.ptr 901 0],[(900,.box (.agg [.int .i64 k,.str g,.str q,.int .i64 z,.lst .str ns (some 902),.nils,.lst (.st .shape) ss (some 903),.nils,.int .i64 pp])),(901,.box (.ptr 904 0)),(902,.tail .str mn),(903,.tail (.st .shape) ms),(904,.box c)]=>
  (match arg (.st .par) c with | some s=>some (F ⟨k,g,q,z,ns,[],ss,[],pp⟩ s mn ms) | _=>none)
 | _,_=>none
def Iq (x:Trm) (c:AV) (mn ms:Nat):List (Nat × SObj):=
 [(900,.box (.agg [.int .i64 (x).kind,.str (x).pkg,.str (x).name,.int .i64 (x).n,.lst .str (x).names (some 902),.nils,.lst (.st .shape) (x).shapes (some 903),.nils,.int .i64 (x).pos])),(901,.box (.ptr 904 0)),(902,.tail .str mn),(903,.tail (.st .shape) ms),(904,.box c)]
theorem EO {F:Trm→Par→Nat→Nat→Ans} (he:ar P f) (hp:∀x s mn ms,(F x s mn ms).pan=none) (hu:∀x s mn ms,∀i∈[900,901,902,903,904],i∈an (F x s mn ms).upd)
  (h:∀x s mn ms,x.vars=[]→x.parts=[]→(∀q,(F x s mn ms).ob=some q→q)→aq P f [.ptr 900 0,.ptr 901 0] (Iq x (.st .par s) mn ms) (F x s mn ms)):ac P f (Bk F):=by
 intro args S A hA ho _
 unfold Bk at hA
 split at hA
 ·split at hA
  ·rename_i hs
   simp only [Xs] at hA
   subst hA
   refine ⟨he,aq.slots ?_ (hp _ _ _ _) (by simpa [an] using hu _ _ _ _) (h _ _ _ _ rfl rfl ho)⟩
   exact .cons (RdO.refl _) (.cons (RdO.refl _) (.cons (RdO.refl _) (.cons (RdO.refl _) (.cons (dw _ hs) .nil))))
  ·cases hA
 ·cases hA
def wB (F:Trm→Par→Nat→Nat→Ans):Pat
 | [.ptr 900 0,.ptr 901 0],[(900,.box (.agg [.int .i64 k,.str g,.str q,.int .i64 z,.lst .str ns (some 902),.nils,.nils,.lst (.st .term) ps (some 903),.int .i64 pp])),(901,.box (.ptr 904 0)),(902,.tail .str mn),(903,.tail (.st .term) mp),(904,.box c)]=>
  (match arg (.st .par) c with | some s=>some (F ⟨k,g,q,z,ns,[],[],ps,pp⟩ s mn mp) | _=>none)
 | _,_=>none
def Ir (x:Trm) (c:AV) (mn mp:Nat):List (Nat × SObj):=
 [(900,.box (.agg [.int .i64 (x).kind,.str (x).pkg,.str (x).name,.int .i64 (x).n,.lst .str (x).names (some 902),.nils,.nils,.lst (.st .term) (x).parts (some 903),.int .i64 (x).pos])),(901,.box (.ptr 904 0)),(902,.tail .str mn),(903,.tail (.st .term) mp),(904,.box c)]
theorem EP {F:Trm→Par→Nat→Nat→Ans} (he:ar P f) (hp:∀x s mn mp,(F x s mn mp).pan=none) (hu:∀x s mn mp,∀i∈[900,901,902,903,904],i∈an (F x s mn mp).upd)
  (h:∀x s mn mp,x.vars=[]→x.shapes=[]→(∀q,(F x s mn mp).ob=some q→q)→aq P f [.ptr 900 0,.ptr 901 0] (Ir x (.st .par s) mn mp) (F x s mn mp)):ac P f (wB F):=by
 intro args S A hA ho _
 unfold wB at hA
 split at hA
 ·split at hA
  ·rename_i hs
   simp only [Xs] at hA
   subst hA
   refine ⟨he,aq.slots ?_ (hp _ _ _ _) (by simpa [an] using hu _ _ _ _) (h _ _ _ _ rfl rfl ho)⟩
   exact .cons (RdO.refl _) (.cons (RdO.refl _) (.cons (RdO.refl _) (.cons (RdO.refl _) (.cons (dw _ hs) .nil))))
  ·cases hA
 ·cases hA
def nz (F:Trm→Par→Nat→Nat→Nat→Nat→Ans):Pat
 | [.ptr 900 0,.ptr 901 0],[(900,.box (.agg [.int .i64 k,.str g,.str q,.int .i64 z,.lst .str ns (some 902),.lst .str vs (some 903),.lst (.st .shape) ss (some 904),.lst (.st .term) ps (some 905),.int .i64 pp])),(901,.box (.ptr 906 0)),(902,.tail .str mn),(903,.tail .str mv),(904,.tail (.st .shape) ms),(905,.tail (.st .term) mp),(906,.box c)]=>
  (match arg (.st .par) c with | some s=>some (F ⟨k,g,q,z,ns,vs,ss,ps,pp⟩ s mn mv ms mp) | _=>none)
 | _,_=>none
def Bl (x:Trm) (c:AV) (mn mv ms mp:Nat):List (Nat × SObj):=
 [(900,.box (.agg [.int .i64 (x).kind,.str (x).pkg,.str (x).name,.int .i64 (x).n,.lst .str (x).names (some 902),.lst .str (x).vars (some 903),.lst (.st .shape) (x).shapes (some 904),.lst (.st .term) (x).parts (some 905),.int .i64 (x).pos])),(901,.box (.ptr 906 0)),(902,.tail .str mn),(903,.tail .str mv),(904,.tail (.st .shape) ms),(905,.tail (.st .term) mp),(906,.box c)]
theorem zd {F:Trm→Par→Nat→Nat→Nat→Nat→Ans} (he:ar P f) (hp:∀x s mn mv ms mp,(F x s mn mv ms mp).pan=none) (hu:∀x s mn mv ms mp,∀i∈[900,901,902,903,904,905,906],i∈an (F x s mn mv ms mp).upd)
  (h:∀x s mn mv ms mp,True→(∀q,(F x s mn mv ms mp).ob=some q→q)→aq P f [.ptr 900 0,.ptr 901 0] (Bl x (.st .par s) mn mv ms mp) (F x s mn mv ms mp)):ac P f (nz F):=by
 intro args S A hA ho _
 unfold nz at hA
 split at hA
 ·split at hA
  ·rename_i hs
   simp only [Xs] at hA
   subst hA
   refine ⟨he,aq.slots ?_ (hp _ _ _ _ _ _) (by simpa [an] using hu _ _ _ _ _ _) (h _ _ _ _ _ _ trivial ho)⟩
   exact .cons (RdO.refl _) (.cons (RdO.refl _) (.cons (RdO.refl _) (.cons (RdO.refl _) (.cons (RdO.refl _) (.cons (RdO.refl _) (.cons (dw _ hs) .nil))))))
  ·cases hA
 ·cases hA
def EQ (F:Trm→Str→Par→Nat→Nat→Ans):Pat
 | [.str a,.ptr 900 0,.ptr 901 0],[(900,.box (.ptr 902 0)),(901,.box (.agg [.int .i64 k,.str g,.str q,.int .i64 z,.lst .str ns (some 903),.nils,.lst (.st .shape) ss (some 904),.nils,.int .i64 pp])),(902,.box c),(903,.tail .str mn),(904,.tail (.st .shape) ms)]=>
  (match arg (.st .par) c with | some s=>some (F ⟨k,g,q,z,ns,[],ss,[],pp⟩ a s mn ms) | _=>none)
 | _,_=>none
def Jd (x:Trm) (c:AV) (mn ms:Nat):List (Nat × SObj):=
 [(900,.box (.ptr 902 0)),(901,.box (.agg [.int .i64 (x).kind,.str (x).pkg,.str (x).name,.int .i64 (x).n,.lst .str (x).names (some 903),.nils,.lst (.st .shape) (x).shapes (some 904),.nils,.int .i64 (x).pos])),(902,.box c),(903,.tail .str mn),(904,.tail (.st .shape) ms)]
theorem ER {F:Trm→Str→Par→Nat→Nat→Ans} (he:ar P f) (hp:∀x a s mn ms,(F x a s mn ms).pan=none) (hu:∀x a s mn ms,∀i∈[900,901,902,903,904],i∈an (F x a s mn ms).upd)
  (h:∀x a s mn ms,x.vars=[]→x.parts=[]→(∀q,(F x a s mn ms).ob=some q→q)→aq P f [.str a,.ptr 900 0,.ptr 901 0] (Jd x (.st .par s) mn ms) (F x a s mn ms)):ac P f (EQ F):=by
 intro args S A hA ho _
 unfold EQ at hA
 split at hA
 ·split at hA
  ·rename_i hs
   simp only [Xs] at hA
   subst hA
   refine ⟨he,aq.slots ?_ (hp _ _ _ _ _) (by simpa [an] using hu _ _ _ _ _) (h _ _ _ _ _ rfl rfl ho)⟩
   exact .cons (RdO.refl _) (.cons (RdO.refl _) (.cons (dw _ hs) (.cons (RdO.refl _) (.cons (RdO.refl _) .nil))))
  ·cases hA
 ·cases hA
def IK (F:Trm→Str→Par→Nat→Ans):Pat
 | [.str a,.ptr 900 0,.ptr 901 0],[(900,.box (.ptr 902 0)),(901,.box (.agg [.int .i64 k,.str g,.str q,.int .i64 z,.nils,.nils,.nils,.lst (.st .term) ps (some 903),.int .i64 pp])),(902,.box c),(903,.tail (.st .term) mp)]=>
  (match arg (.st .par) c with | some s=>some (F ⟨k,g,q,z,[],[],[],ps,pp⟩ a s mp) | _=>none)
 | _,_=>none
def sY_p (x:Trm) (c:AV) (mp:Nat):List (Nat × SObj):=
 [(900,.box (.ptr 902 0)),(901,.box (.agg [.int .i64 (x).kind,.str (x).pkg,.str (x).name,.int .i64 (x).n,.nils,.nils,.nils,.lst (.st .term) (x).parts (some 903),.int .i64 (x).pos])),(902,.box c),(903,.tail (.st .term) mp)]
theorem Hi {F:Trm→Str→Par→Nat→Ans} (he:ar P f) (hp:∀x a s mp,(F x a s mp).pan=none) (hu:∀x a s mp,∀i∈[900,901,902,903],i∈an (F x a s mp).upd)
  (h:∀x a s mp,x.names=[]→x.vars=[]→x.shapes=[]→(∀q,(F x a s mp).ob=some q→q)→aq P f [.str a,.ptr 900 0,.ptr 901 0] (sY_p x (.st .par s) mp) (F x a s mp)):ac P f (IK F):=by
 intro args S A hA ho _
 unfold IK at hA
 split at hA
 ·split at hA
  ·rename_i hs
   simp only [Xs] at hA
   subst hA
   refine ⟨he,aq.slots ?_ (hp _ _ _ _) (by simpa [an] using hu _ _ _ _) (h _ _ _ _ rfl rfl rfl ho)⟩
   exact .cons (RdO.refl _) (.cons (RdO.refl _) (.cons (dw _ hs) (.cons (RdO.refl _) .nil)))
  ·cases hA
 ·cases hA
def uK (F:Trm→Str→Par→Nat→Nat→Nat→Nat→Ans):Pat
 | [.str a,.ptr 900 0,.ptr 901 0],[(900,.box (.ptr 902 0)),(901,.box (.agg [.int .i64 k,.str g,.str q,.int .i64 z,.lst .str ns (some 903),.lst .str vs (some 904),.lst (.st .shape) ss (some 905),.lst (.st .term) ps (some 906),.int .i64 pp])),(902,.box c),(903,.tail .str mn),(904,.tail .str mv),(905,.tail (.st .shape) ms),(906,.tail (.st .term) mp)]=>
  (match arg (.st .par) c with | some s=>some (F ⟨k,g,q,z,ns,vs,ss,ps,pp⟩ a s mn mv ms mp) | _=>none)
 | _,_=>none
def Hj (x:Trm) (c:AV) (mn mv ms mp:Nat):List (Nat × SObj):=
 [(900,.box (.ptr 902 0)),(901,.box (.agg [.int .i64 (x).kind,.str (x).pkg,.str (x).name,.int .i64 (x).n,.lst .str (x).names (some 903),.lst .str (x).vars (some 904),.lst (.st .shape) (x).shapes (some 905),.lst (.st .term) (x).parts (some 906),.int .i64 (x).pos])),(902,.box c),(903,.tail .str mn),(904,.tail .str mv),(905,.tail (.st .shape) ms),(906,.tail (.st .term) mp)]
theorem ze {F:Trm→Str→Par→Nat→Nat→Nat→Nat→Ans} (he:ar P f) (hp:∀x a s mn mv ms mp,(F x a s mn mv ms mp).pan=none) (hu:∀x a s mn mv ms mp,∀i∈[900,901,902,903,904,905,906],i∈an (F x a s mn mv ms mp).upd)
  (h:∀x a s mn mv ms mp,True→(∀q,(F x a s mn mv ms mp).ob=some q→q)→aq P f [.str a,.ptr 900 0,.ptr 901 0] (Hj x (.st .par s) mn mv ms mp) (F x a s mn mv ms mp)):ac P f (uK F):=by
 intro args S A hA ho _
 unfold uK at hA
 split at hA
 ·split at hA
  ·rename_i hs
   simp only [Xs] at hA
   subst hA
   refine ⟨he,aq.slots ?_ (hp _ _ _ _ _ _ _) (by simpa [an] using hu _ _ _ _ _ _ _) (h _ _ _ _ _ _ _ trivial ho)⟩
   exact .cons (RdO.refl _) (.cons (RdO.refl _) (.cons (dw _ hs) (.cons (RdO.refl _) (.cons (RdO.refl _) (.cons (RdO.refl _) (.cons (RdO.refl _) .nil))))))
  ·cases hA
 ·cases hA
def IL (gY:Nat) (F:Trm→Par→Nat→Nat→Ans):Pat
 | [.ptr 900 0,.ptr 901 0,.ptr 902 0],[(900,.box (.agg [.int .i64 k,.str g,.str q,.int .i64 z,.lst .str ns (some 903),.nils,.lst (.st .shape) ss (some 904),.nils,.int .i64 pp])),(901,.box (.ptr 905 0)),(902,.box (.fn gY' [.ptr 901 0,.ptr 900 0])),(903,.tail .str mn),(904,.tail (.st .shape) ms),(905,.box c)]=>
  (match Nat.beq gY' gY,arg (.st .par) c with | true,some s=>some (F ⟨k,g,q,z,ns,[],ss,[],pp⟩ s mn ms) | _,_=>none)
 | _,_=>none
def sFun (gY:Nat) (x:Trm) (c:AV) (mn ms:Nat):List (Nat × SObj):=
 [(900,.box (.agg [.int .i64 (x).kind,.str (x).pkg,.str (x).name,.int .i64 (x).n,.lst .str (x).names (some 903),.nils,.lst (.st .shape) (x).shapes (some 904),.nils,.int .i64 (x).pos])),(901,.box (.ptr 905 0)),(902,.box (.fn gY [.ptr 901 0,.ptr 900 0])),(903,.tail .str mn),(904,.tail (.st .shape) ms),(905,.box c)]
theorem Hk {gY:Nat} {F:Trm→Par→Nat→Nat→Ans} (he:ar P f) (hp:∀x s mn ms,(F x s mn ms).pan=none) (hu:∀x s mn ms,∀i∈[900,901,902,903,904,905],i∈an (F x s mn ms).upd)
  (h:∀x s mn ms,x.vars=[]→x.parts=[]→(∀q,(F x s mn ms).ob=some q→q)→aq P f [.ptr 900 0,.ptr 901 0,.ptr 902 0] (sFun gY x (.st .par s) mn ms) (F x s mn ms)):ac P f (IL gY F):=by
 intro args S A hA ho _
 unfold IL at hA
 split at hA
 ·split at hA
  ·rename_i hb0 hs
   simp only [Xs] at hA
   subst hA
   have e0:=Nat.eq_of_beq_eq_true hb0
   subst e0
   refine ⟨he,aq.slots ?_ (hp _ _ _ _) (by simpa [an] using hu _ _ _ _) (h _ _ _ _ rfl rfl ho)⟩
   exact .cons (RdO.refl _) (.cons (RdO.refl _) (.cons (RdO.refl _) (.cons (RdO.refl _) (.cons (RdO.refl _) (.cons (dw _ hs) .nil)))))
  ·cases hA
 ·cases hA
def ES (gY:Nat) (gT:Nat) (F:Trm→Par→Nat→Nat→Nat→Nat→Ans):Pat
 | [.ptr 900 0,.ptr 901 0,.ptr 902 0,.ptr 903 0],[(900,.box (.agg [.int .i64 k,.str g,.str q,.int .i64 z,.lst .str ns (some 904),.lst .str vs (some 905),.lst (.st .shape) ss (some 906),.lst (.st .term) ps (some 907),.int .i64 pp])),(901,.box (.ptr 908 0)),(902,.box (.fn gY' [.ptr 901 0,.ptr 900 0])),(903,.box (.fn gT' [.ptr 900 0,.ptr 901 0])),(904,.tail .str mn),(905,.tail .str mv),(906,.tail (.st .shape) ms),(907,.tail (.st .term) mp),(908,.box c)]=>
  (match Nat.beq gY' gY,Nat.beq gT' gT,arg (.st .par) c with | true,true,some s=>some (F ⟨k,g,q,z,ns,vs,ss,ps,pp⟩ s mn mv ms mp) | _,_,_=>none)
 | _,_=>none
def sWay (gY:Nat) (gT:Nat) (x:Trm) (c:AV) (mn mv ms mp:Nat):List (Nat × SObj):=
 [(900,.box (.agg [.int .i64 (x).kind,.str (x).pkg,.str (x).name,.int .i64 (x).n,.lst .str (x).names (some 904),.lst .str (x).vars (some 905),.lst (.st .shape) (x).shapes (some 906),.lst (.st .term) (x).parts (some 907),.int .i64 (x).pos])),(901,.box (.ptr 908 0)),(902,.box (.fn gY [.ptr 901 0,.ptr 900 0])),(903,.box (.fn gT [.ptr 900 0,.ptr 901 0])),(904,.tail .str mn),(905,.tail .str mv),(906,.tail (.st .shape) ms),(907,.tail (.st .term) mp),(908,.box c)]
theorem Hl {gY:Nat} {gT:Nat} {F:Trm→Par→Nat→Nat→Nat→Nat→Ans} (he:ar P f) (hp:∀x s mn mv ms mp,(F x s mn mv ms mp).pan=none) (hu:∀x s mn mv ms mp,∀i∈[900,901,902,903,904,905,906,907,908],i∈an (F x s mn mv ms mp).upd)
  (h:∀x s mn mv ms mp,True→(∀q,(F x s mn mv ms mp).ob=some q→q)→aq P f [.ptr 900 0,.ptr 901 0,.ptr 902 0,.ptr 903 0] (sWay gY gT x (.st .par s) mn mv ms mp) (F x s mn mv ms mp)):ac P f (ES gY gT F):=by
 intro args S A hA ho _
 unfold ES at hA
 split at hA
 ·split at hA
  ·rename_i hb0 hb1 hs
   simp only [Xs] at hA
   subst hA
   have e0:=Nat.eq_of_beq_eq_true hb0
   subst e0
   have e1:=Nat.eq_of_beq_eq_true hb1
   subst e1
   refine ⟨he,aq.slots ?_ (hp _ _ _ _ _ _) (by simpa [an] using hu _ _ _ _ _ _) (h _ _ _ _ _ _ trivial ho)⟩
   exact .cons (RdO.refl _) (.cons (RdO.refl _) (.cons (RdO.refl _) (.cons (RdO.refl _) (.cons (RdO.refl _) (.cons (RdO.refl _) (.cons (RdO.refl _) (.cons (RdO.refl _) (.cons (dw _ hs) .nil))))))))
  ·cases hA
 ·cases hA
def Bm (gC:Nat) (gY:Nat) (F:Trm→Str→Str→Par→Ans):Pat
 | [.ptr 900 0,.str b,.str e,.fn gC' [.ptr 901 0,.ptr 902 0,.ptr 903 0]],[(900,.box c),(901,.box (.agg [.int .i64 k,.str g,.str q,.int .i64 z,.nils,.nils,.nils,.nils,.int .i64 pp])),(902,.box (.ptr 900 0)),(903,.box (.fn gY' [.ptr 902 0,.ptr 901 0]))]=>
  (match Nat.beq gC' gC,Nat.beq gY' gY,arg (.st .par) c with | true,true,some s=>some (F ⟨k,g,q,z,[],[],[],[],pp⟩ b e s) | _,_,_=>none)
 | _,_=>none
def Is (gC:Nat) (gY:Nat) (x:Trm) (c:AV):List (Nat × SObj):=
 [(900,.box c),(901,.box (.agg [.int .i64 (x).kind,.str (x).pkg,.str (x).name,.int .i64 (x).n,.nils,.nils,.nils,.nils,.int .i64 (x).pos])),(902,.box (.ptr 900 0)),(903,.box (.fn gY [.ptr 902 0,.ptr 901 0]))]
theorem ET {gC:Nat} {gY:Nat} {F:Trm→Str→Str→Par→Ans} (he:ar P f) (hp:∀x b e s,(F x b e s).pan=none) (hu:∀x b e s,∀i∈[900,901,902,903],i∈an (F x b e s).upd)
  (h:∀x b e s,x.names=[]→x.vars=[]→x.shapes=[]→x.parts=[]→(∀q,(F x b e s).ob=some q→q)→aq P f [.ptr 900 0,.str b,.str e,.fn gC [.ptr 901 0,.ptr 902 0,.ptr 903 0]] (Is gC gY x (.st .par s)) (F x b e s)):ac P f (Bm gC gY F):=by
 intro args S A hA ho _
 unfold Bm at hA
 split at hA
 ·split at hA
  ·rename_i hb0 hb1 hs
   simp only [Xs] at hA
   subst hA
   have e0:=Nat.eq_of_beq_eq_true hb0
   subst e0
   have e1:=Nat.eq_of_beq_eq_true hb1
   subst e1
   refine ⟨he,aq.slots ?_ (hp _ _ _ _) (by simpa [an] using hu _ _ _ _) (h _ _ _ _ rfl rfl rfl rfl ho)⟩
   exact .cons (dw _ hs) (.cons (RdO.refl _) (.cons (RdO.refl _) (.cons (RdO.refl _) .nil)))
  ·cases hA
 ·cases hA
def Bn (gC:Nat) (gY:Nat) (gT:Nat) (F:Trm→Str→Str→Par→Nat→Ans):Pat
 | [.ptr 900 0,.str b,.str e,.fn gC' [.ptr 901 0,.ptr 902 0,.ptr 903 0,.ptr 904 0]],[(900,.box c),(901,.box (.agg [.int .i64 k,.str g,.str q,.int .i64 z,.nils,.nils,.nils,.lst (.st .term) ps (some 905),.int .i64 pp])),(902,.box (.ptr 900 0)),(903,.box (.fn gY' [.ptr 902 0,.ptr 901 0])),(904,.box (.fn gT' [.ptr 901 0,.ptr 902 0])),(905,.tail (.st .term) mp)]=>
  (match Nat.beq gC' gC,Nat.beq gY' gY,Nat.beq gT' gT,arg (.st .par) c with | true,true,true,some s=>some (F ⟨k,g,q,z,[],[],[],ps,pp⟩ b e s mp) | _,_,_,_=>none)
 | _,_=>none
def It (gC:Nat) (gY:Nat) (gT:Nat) (x:Trm) (c:AV) (mp:Nat):List (Nat × SObj):=
 [(900,.box c),(901,.box (.agg [.int .i64 (x).kind,.str (x).pkg,.str (x).name,.int .i64 (x).n,.nils,.nils,.nils,.lst (.st .term) (x).parts (some 905),.int .i64 (x).pos])),(902,.box (.ptr 900 0)),(903,.box (.fn gY [.ptr 902 0,.ptr 901 0])),(904,.box (.fn gT [.ptr 901 0,.ptr 902 0])),(905,.tail (.st .term) mp)]
theorem EU {gC:Nat} {gY:Nat} {gT:Nat} {F:Trm→Str→Str→Par→Nat→Ans} (he:ar P f) (hp:∀x b e s mp,(F x b e s mp).pan=none) (hu:∀x b e s mp,∀i∈[900,901,902,903,904,905],i∈an (F x b e s mp).upd)
  (h:∀x b e s mp,x.names=[]→x.vars=[]→x.shapes=[]→(∀q,(F x b e s mp).ob=some q→q)→aq P f [.ptr 900 0,.str b,.str e,.fn gC [.ptr 901 0,.ptr 902 0,.ptr 903 0,.ptr 904 0]] (It gC gY gT x (.st .par s) mp) (F x b e s mp)):ac P f (Bn gC gY gT F):=by
 intro args S A hA ho _
 unfold Bn at hA
 split at hA
 ·split at hA
  ·rename_i hb0 hb1 hb2 hs
   simp only [Xs] at hA
   subst hA
   have e0:=Nat.eq_of_beq_eq_true hb0
   subst e0
   have e1:=Nat.eq_of_beq_eq_true hb1
   subst e1
   have e2:=Nat.eq_of_beq_eq_true hb2
   subst e2
   refine ⟨he,aq.slots ?_ (hp _ _ _ _ _) (by simpa [an] using hu _ _ _ _ _) (h _ _ _ _ _ rfl rfl rfl ho)⟩
   exact .cons (dw _ hs) (.cons (RdO.refl _) (.cons (RdO.refl _) (.cons (RdO.refl _) (.cons (RdO.refl _) (.cons (RdO.refl _) .nil)))))
  ·cases hA
 ·cases hA
def qR (gC:Nat) (F:Trm→Str→Str→Par→Ans):Pat
 | [.ptr 900 0,.str b,.str e,.fn gC' [.ptr 901 0,.ptr 902 0]],[(900,.box c),(901,.box (.agg [.int .i64 k,.str g,.str q,.int .i64 z,.nils,.nils,.nils,.nils,.int .i64 pp])),(902,.box (.ptr 900 0))]=>
  (match Nat.beq gC' gC,arg (.st .par) c with | true,some s=>some (F ⟨k,g,q,z,[],[],[],[],pp⟩ b e s) | _,_=>none)
 | _,_=>none
def EV (gC:Nat) (x:Trm) (c:AV):List (Nat × SObj):=
 [(900,.box c),(901,.box (.agg [.int .i64 (x).kind,.str (x).pkg,.str (x).name,.int .i64 (x).n,.nils,.nils,.nils,.nils,.int .i64 (x).pos])),(902,.box (.ptr 900 0))]
theorem wC {gC:Nat} {F:Trm→Str→Str→Par→Ans} (he:ar P f) (hp:∀x b e s,(F x b e s).pan=none) (hu:∀x b e s,∀i∈[900,901,902],i∈an (F x b e s).upd)
  (h:∀x b e s,x.names=[]→x.vars=[]→x.shapes=[]→x.parts=[]→(∀q,(F x b e s).ob=some q→q)→aq P f [.ptr 900 0,.str b,.str e,.fn gC [.ptr 901 0,.ptr 902 0]] (EV gC x (.st .par s)) (F x b e s)):ac P f (qR gC F):=by
 intro args S A hA ho _
 unfold qR at hA
 split at hA
 ·split at hA
  ·rename_i hb0 hs
   simp only [Xs] at hA
   subst hA
   have e0:=Nat.eq_of_beq_eq_true hb0
   subst e0
   refine ⟨he,aq.slots ?_ (hp _ _ _ _) (by simpa [an] using hu _ _ _ _) (h _ _ _ _ rfl rfl rfl rfl ho)⟩
   exact .cons (dw _ hs) (.cons (RdO.refl _) (.cons (RdO.refl _) .nil))
  ·cases hA
 ·cases hA
def qS (gC:Nat) (F:Trm→Str→Str→Par→Nat→Ans):Pat
 | [.ptr 900 0,.str b,.str e,.fn gC' [.ptr 901 0,.ptr 902 0]],[(900,.box c),(901,.box (.agg [.int .i64 k,.str g,.str q,.int .i64 z,.nils,.nils,.nils,.lst (.st .term) ps (some 903),.int .i64 pp])),(902,.box (.ptr 900 0)),(903,.tail (.st .term) mp)]=>
  (match Nat.beq gC' gC,arg (.st .par) c with | true,some s=>some (F ⟨k,g,q,z,[],[],[],ps,pp⟩ b e s mp) | _,_=>none)
 | _,_=>none
def EW (gC:Nat) (x:Trm) (c:AV) (mp:Nat):List (Nat × SObj):=
 [(900,.box c),(901,.box (.agg [.int .i64 (x).kind,.str (x).pkg,.str (x).name,.int .i64 (x).n,.nils,.nils,.nils,.lst (.st .term) (x).parts (some 903),.int .i64 (x).pos])),(902,.box (.ptr 900 0)),(903,.tail (.st .term) mp)]
theorem Ci {gC:Nat} {F:Trm→Str→Str→Par→Nat→Ans} (he:ar P f) (hp:∀x b e s mp,(F x b e s mp).pan=none) (hu:∀x b e s mp,∀i∈[900,901,902,903],i∈an (F x b e s mp).upd)
  (h:∀x b e s mp,x.names=[]→x.vars=[]→x.shapes=[]→(∀q,(F x b e s mp).ob=some q→q)→aq P f [.ptr 900 0,.str b,.str e,.fn gC [.ptr 901 0,.ptr 902 0]] (EW gC x (.st .par s) mp) (F x b e s mp)):ac P f (qS gC F):=by
 intro args S A hA ho _
 unfold qS at hA
 split at hA
 ·split at hA
  ·rename_i hb0 hs
   simp only [Xs] at hA
   subst hA
   have e0:=Nat.eq_of_beq_eq_true hb0
   subst e0
   refine ⟨he,aq.slots ?_ (hp _ _ _ _ _) (by simpa [an] using hu _ _ _ _ _) (h _ _ _ _ _ rfl rfl rfl ho)⟩
   exact .cons (dw _ hs) (.cons (RdO.refl _) (.cons (RdO.refl _) (.cons (RdO.refl _) .nil)))
  ·cases hA
 ·cases hA
end
end Go.AL
end
section
namespace Go.Pd
open Go.AL
def aQ (l:List Tokn) (a:Int):Par:=if a < 0∨(l.length:Int) < a then ⟨l,a,2,0⟩ else if 4097 < l.length then ⟨l,a,3,0⟩ else ⟨l,a,0,0⟩
def pq {α:Type} (z:α) (p:α × Par):α × Int × Flt:=if aV p.2=true then (z,0,⟨p.2.err,p.2.fat⟩) else (p.1,p.2.pos,⟨0,0⟩)
def ta:Shape:=⟨0,[],[],[],[]⟩
def tc:Trm:=⟨0,[],[],0,[],[],[],[],0⟩
def bu (l:List Tokn) (a:Int):Shape × Int × Flt:=if aV (aQ l a)=true then (ta,0,⟨(aQ l a).err,(aQ l a).fat⟩) else pq ta (aW (aQ l a))
def dG (l:List Tokn) (a:Int):Flt:=if a=(l.length:Int) - 1 then ⟨0,0⟩ else ⟨90,(l.getD a.toNat (dfl (.st .token))).pos⟩
theorem ke {l:List Tokn} {a:Int} (hN:dr l) (h:aV (aQ l a)=false):a8 (aQ l a):=by
 unfold aQ at h ⊢
 split
 ·rename_i c;rw [if_pos c] at h;exact absurd h (by simp [aV])
 rename_i c
 rw [if_neg c] at h
 split
 ·rename_i d;rw [if_pos d] at h;exact absurd h (by simp [aV])
 rename_i d
 exact ⟨by show 0<=a;omega,by show a<=(l.length:Int);omega,by show l.length<=4097;omega,hN⟩
end Go.Pd
end
section
namespace Go.Pd
open Go.AL
mutual
def szT:Trm→Nat
 | ⟨_,_,_,_,_,_,_,ps,_⟩=>szTL ps+1
def szTL:List Trm→Nat
 | []=>0
 | p ::r=>szT p+szTL r
end
mutual
def countT:Trm→Int→Int × Int
 | ⟨_,_,_,_,_,_,_,ps,_⟩,m=>((countL ps m 1 0).1,(countL ps m 1 0).2+1)
def countL:List Trm→Int→Int→Int→Int × Int
 | [],_,n,d=>(n,d)
 | p ::r,m,n,d=>if m < n then (n,d) else countL r m (n+(countT p (m - n)).1) (max d (countT p (m - n)).2)
end
theorem Cj (t:Trm) (m:Int):countT t m=((countL t.parts m 1 0).1,(countL t.parts m 1 0).2+1):=by cases t;rw [countT]
theorem zf (t:Trm):szT t=szTL t.parts+1:=by cases t;rw [szT]
theorem Bp (t:Trm):1<=szT t:=by rw [zf];omega
mutual
theorem countT_bound:∀(t:Trm) (m:Int),0<=m→1<=(countT t m).1/\(countT t m).1<=m+1/\1<=(countT t m).2/\(countT t m).2<=(countT t m).1
 | ⟨k,g,q,z,ns,vs,ss,ps,pp⟩,m,hm=>by
  have h:=countL_bound ps m 1 0 (by omega) (by omega) (by omega) (by omega)
  rw [countT]
  exact ⟨h.1,h.2.1,by show 1<=(countL ps m 1 0).2+1;omega,by show (countL ps m 1 0).2+1<=_;omega⟩
theorem countL_bound:∀(l:List Trm) (m n d:Int),1<=n→n<=m+1→0<=d→d+1<=n→1<=(countL l m n d).1/\(countL l m n d).1<=m+1/\0<=(countL l m n d).2/\(countL l m n d).2+1<=(countL l m n d).1
 | [],m,n,d,h1,h2,h3,h4=>by rw [countL];exact ⟨h1,h2,h3,h4⟩
 | p ::r,m,n,d,h1,h2,h3,h4=>by
  rw [countL]
  split
  ·exact ⟨h1,h2,h3,h4⟩
  ·have h:=countT_bound p (m - n) (by omega)
   exact countL_bound r m _ _ (by omega) (by omega) (by omega) (by omega)
end
theorem uL:∀{l:List Trm} {t:Trm},t∈l→szT t<=szTL l
 | p ::r,t,h=>by
  rw [szTL]
  rcases List.mem_cons.1 h with e | e
  ·subst e;omega
  ·have:=uL e;omega
def cK {α:Type} (F:α→Bool):List α→Nat→Int
 | [],_=>-1
 | x ::r,k=>if F x=true then cK F r (k+1) else (k:Int)
theorem lg {α:Type} (F:α→Bool):∀(l:List α) (k:Nat),decide (0<=cK F l k)=!l.all F
 | [],_=>rfl
 | x ::r,k=>by
  rw [cK,List.all_cons]
  by_cases h:F x=true
  ·rw [if_pos h,lg F r (k+1),h];rfl
  ·rw [if_neg h]
   have:F x=false:=by simpa using h
   rw [this]
   simp
def ck (s:Shape):Bool:=!decide (s.kind=10)
theorem wD (f:Shape→Bool):∀l:List Shape,allL f l=l.all (allS f)
 | []=>rfl
 | p ::r=>by rw [List.all_cons,←wD f r];rfl
end Go.Pd
end
section
namespace Go.AL
variable [Tabs]
section
variable {P:Program} {f:Nat}
def pfc (τ:Ty) (n g:Nat) (F:den τ→Ans):Pat
 | [a,.fn f [.ptr 900 0]],[(900,.box (.fn h []))]=>(match Nat.beq f n,Nat.beq h g,arg τ a with | true,true,some a=>some (F a) | _,_,_=>none)
 | _,_=>none
theorem lh {τ:Ty} {n g:Nat} {F:den τ→Ans} (he:ar P f) (h:∀x,Wf τ x→(∀q,(F x).ob=some q→q)→aq P f [inj τ x,.fn n [.ptr 900 0]] [(900,.box (.fn g []))] (F x)):ac P f (pfc τ n g F):=by
 intro args S A hA ho _
 unfold pfc at hA
 split at hA
 ·split at hA
  ·rename_i hb hc hx
   simp only [Xs] at hA
   subst hA
   have e:=Nat.eq_of_beq_eq_true hb
   subst e
   have e:=Nat.eq_of_beq_eq_true hc
   subst e
   exact ⟨he,aq.args (.cons (Rd.arg hx) (.cons (Rd.refl _) .nil)) (aq.wf fun hw=>h _ hw.one ho)⟩
  ·cases hA
 ·cases hA
def pcl (τ:Ty) (g:Nat) (F:den τ→Ans):Pat
 | [a,.ptr 900 0],[(900,.box (.fn h []))]=>(match Nat.beq h g,arg τ a with | true,some a=>some (F a) | _,_=>none)
 | _,_=>none
theorem uM {τ:Ty} {g:Nat} {F:den τ→Ans} (he:ar P f) (h:∀x,Wf τ x→(∀q,(F x).ob=some q→q)→aq P f [inj τ x,.ptr 900 0] [(900,.box (.fn g []))] (F x)):ac P f (pcl τ g F):=by
 intro args S A hA ho _
 unfold pcl at hA
 split at hA
 ·split at hA
  ·rename_i hc hx
   simp only [Xs] at hA
   subst hA
   have e:=Nat.eq_of_beq_eq_true hc
   subst e
   exact ⟨he,aq.args (.cons (Rd.arg hx) (.cons (Rd.refl _) .nil)) (aq.wf fun hw=>h _ hw.one ho)⟩
  ·cases hA
 ·cases hA
end
end Go.AL
end
section
namespace Go.Pd
open Go.AL
def bAt (s:Str) (a:Int):Int:=if a < (s.length:Int) then bI (s.getD a.toNat 0) else 0
def ae (p:Int→Bool) (s:Str) (a:Int):Nat:=((s.drop a.toNat).takeWhile fun b=>p (bI b)).length
def cut (s:Str) (a b:Int):Str:=(s.take b.toNat).drop a.toNat
def nA (r:Str) (k:Nat):Bool:=decide (k < r.length) && decide ((r.getD k 0).toNat / 64=2)
def oj (r:Str) (k:Nat):Nat:=(r.getD k 0).toNat % 64
def pK (c:Nat):Bool:=decide (c < 1114112) && !(decide (55296<=c) && decide (c < 57344))
def cw:Str→Nat
 | []=>0
 | b ::r=>
  if b.toNat < 128 then 1
  else if b.toNat / 32=6/\nA r 0=true then (if 128<=b.toNat % 32 *64+oj r 0 then 2 else 0)
  else if b.toNat / 16=14/\nA r 0=true/\nA r 1=true then
   (if 2048<=b.toNat % 16 *4096+oj r 0 *64+oj r 1/\pK (b.toNat % 16 *4096+oj r 0 *64+oj r 1)=true then 3 else 0)
  else if b.toNat / 8=30/\nA r 0=true/\nA r 1=true/\nA r 2=true then
   (if 65536<=b.toNat % 8 *262144+oj r 0 *4096+oj r 1 *64+oj r 2/\pK (b.toNat % 8 *262144+oj r 0 *4096+oj r 1 *64+oj r 2)=true then 4 else 0)
  else 0
def iW:Nat→Str→Nat→Option Nat
 | 0,_,_=>none
 | f+1,x,k=>if x=[] then none else if cw x=0 then some k else iW f (x.drop (cw x)) (k+cw x)
def cU (x:Str):Option Nat:=iW x.length x 0
structure SC where
 pos:Int
 out:List Tokn
 err:Int
 fat:Int
def cd (c:Int):Bool:=!decide (c=10)
def aF (c:Int):Bool:=bJ c || bP c || aM c || decide (c=46) || decide (c=45)
def EX:Str:=[40,41,123,125,91,93,60,62,61,94,42,44,58,46,47,64,124]
def fS (s:Str):Bool:=decide (s=[60,61]) || decide (s=[62,61]) || decide (s=[45,62]) || (decide (s.length=1) && decide (s.getD 0 0∈EX))
def fo (s:Str):Bool:=(s.all fun c=>aM (bI c)) && decide (s.length<=15) && (decide (s=[48]) || !decide (bI (s.getD 0 0)=48))
def splitB (c:UInt8):Str→List Str
 | []=>[[]]
 | b ::r=>if b=c then [] ::splitB c r else match splitB c r with | []=>[[b]] | p ::ps=>(b ::p) ::ps
def bO (s:Str):Bool:=!decide (s=[]) && s.all fun c=>aM (bI c)
def gW (c:Int):Bool:=aM c || bJ c || bP c || decide (c=45)
def df (s:Str):Bool:=!decide (s=[]) && !(bO s && decide (bI (s.getD 0 0)=48) && !decide (s=[48])) && s.all fun c=>gW (bI c)
def bT (s:Str):Int:=s.foldl (fun n c=>10 *n+((c.toNat:Int) - 48)) 0
def eH (s:Str):Bool:=bO s && decide (s.length<=6) && !(decide (1 < s.length) && decide (bI (s.getD 0 0)=48))
def bv (v:Vers):Int:=
 if v.major < 0∨999999 < v.major∨v.minor < 0∨999999 < v.minor∨v.patch < 0∨999999 < v.patch then 40
 else if 24 < v.pre.length then 40 else if v.pre=[] then 0 else if (splitB 46 v.pre).all df=true then 0 else 40
def aD (s:Str):Str:=s.takeWhile fun b=>!decide (b=45)
def cm (s:Str):Str:=s.drop ((aD s).length+1)
def dA (s:Str):Bool:=decide ((aD s).length < s.length)
def noV:Vers:=⟨0,0,0,[]⟩
def dH (s:Str):Vers:=⟨bT ((splitB 46 (aD s)).getD 0 []),bT ((splitB 46 (aD s)).getD 1 []),bT ((splitB 46 (aD s)).getD 2 []),cm s⟩
def bY (s:Str):Vers × Int:=
 if ¬(splitB 46 (aD s)).length=3∨dA s=true/\cm s=[] then (noV,40)
 else if (splitB 46 (aD s)).all eH=true then (if bv (dH s)=0 then (dH s,0) else (noV,40))
 else (noV,40)
def ek (e a:Int) (c:SC):Bool × SC:=(false,⟨c.pos,c.out,e,a⟩)
def fT (k:Int) (t:Str) (fr:Int) (c:SC):Bool × SC:=(true,⟨c.pos,c.out++[⟨k,t,fr⟩],c.err,c.fat⟩)
def dB (s:Str) (a b:Int) (c:SC):Bool × SC:=match cU (cut s a b) with | none=>(true,c) | some k=>ek 30 (a+k) c
def ce (c:SC) (a:Int):SC:=⟨a,c.out,c.err,c.fat⟩
def aN (c:Int):Bool:=decide (32<=c) && !decide (c=34) && !decide (c=92)
def ij (b:Int):Option Int:=if b=110 then some 10 else if b=116 then some 9 else if b=34 then some 34 else if b=92 then some 92 else none
def cD (s:Str) (fr:Int):Nat→Str→SC→Str × Bool × SC
 | 0,_,c=>([],false,c)
 | n+1,acc,c=>
  if bAt s c.pos < 32 then ([],ek 60 fr c)
  else if bAt s c.pos=34 then (acc,true,ce c (c.pos+1))
  else if bAt s c.pos=92 then
   match ij (bAt s (c.pos+1)) with
   | none=>([],ek 60 fr c)
   | some x=>cD s fr n (acc++[UInt8.ofNat x.toNat]) (ce c (c.pos+2))
  else
   match cU (cut s c.pos (c.pos+ae aN s c.pos)) with
   | some k=>([],ek 30 (c.pos+k) (ce c (c.pos+ae aN s c.pos)))
   | none=>cD s fr n (acc++cut s c.pos (c.pos+ae aN s c.pos)) (ce c (c.pos+ae aN s c.pos))
def cH (s:Str) (c:SC):Str × Bool × SC:=cD s c.pos (s.length+2) [] (ce c (c.pos+1))
def uN (t:Str) (e:Int) (c:SC):Bool × SC:=
 if j9 t=true then fT 5 t c.pos (ce c e)
 else if aU t=true then fT 1 t c.pos (ce c e)
 else if cZ t=true then fT 2 t c.pos (ce c e)
 else ek 60 c.pos (ce c e)
def zg (t:Str) (e:Int) (c:SC):Bool × SC:=
 if fo t=true then fT 3 t c.pos (ce c e)
 else if (bY t).2=0 then fT 7 t c.pos (ce c e)
 else ek 60 c.pos (ce c e)
def zh (fr:Int) (q:Str × Bool × SC):Bool × SC:=if q.2.1=true then fT 4 q.1 fr q.2.2 else (false,q.2.2)
def ff (s:Str) (p k:Int):Bool:=decide (p+k<=(s.length:Int)) && fS (cut s p (p+k))
def wE (s:Str) (c:SC):Bool × SC:=
 if ff s c.pos 2=true then fT 6 (cut s c.pos (c.pos+2)) c.pos (ce c (c.pos+2))
 else if ff s c.pos 1=true then fT 6 (cut s c.pos (c.pos+1)) c.pos (ce c (c.pos+1))
 else ek 60 c.pos c
def aX (s:Str) (c:SC):Bool × SC:=
 if bJ (bAt s c.pos)=true∨bP (bAt s c.pos)=true then uN (cut s c.pos (c.pos+ae bA s c.pos)) (c.pos+ae bA s c.pos) c
 else if aM (bAt s c.pos)=true then zg (cut s c.pos (c.pos+ae aF s c.pos)) (c.pos+ae aF s c.pos) c
 else if bAt s c.pos=34 then zh c.pos (cH s c)
 else wE s c
def aH (b:Int):Bool:=decide (b=32) || decide (b=10) || decide (b=9) || decide (b=13)
def fe (s:Str):Nat→SC→List Tokn × Flt
 | 0,_=>([],⟨0,0⟩)
 | n+1,c=>
  if c.pos=(s.length:Int) then (c.out++[⟨0,[],(s.length:Int)⟩],⟨0,0⟩)
  else if aH (bAt s c.pos)=true then fe s n (ce c (c.pos+1))
  else if bAt s c.pos=45/\bAt s (c.pos+1)=45 then
   match cU (cut s c.pos (c.pos+ae cd s c.pos)) with
   | some k=>([],⟨30,c.pos+k⟩)
   | none=>fe s n (ce c (c.pos+ae cd s c.pos))
  else if (aX s c).1=true then fe s n (aX s c).2 else ([],⟨(aX s c).2.err,(aX s c).2.fat⟩)
def aB (s:Str):List Tokn × Flt:=if 4096 < s.length then ([],⟨3,4096⟩) else fe s (s.length+2) ⟨0,[],0,0⟩
end Go.Pd
end
section
namespace Go.AL
open Go.Pd
variable [Tabs]
section
variable {P:Program} {f:Nat}
def pLn (F:Str→Int→Nat→Int→Ans):Pat
 | [.ptr 900 0,.int .i64 k],[(900,.box (.agg [.str s,.int .i64 p])),(901,.tail (.st .token) n)]=>some (F s p n k)
 | _,_=>none
theorem IM {F:Str→Int→Nat→Int→Ans} (he:ar P f) (h:∀s p n k,(∀q,(F s p n k).ob=some q→q)→aq P f [.ptr 900 0,.int .i64 k] [(900,.box (.agg [.str s,.int .i64 p])),(901,.tail (.st .token) n)] (F s p n k)):ac P f (pLn F):=by
 intro args S A hA ho _
 unfold pLn at hA
 split at hA
 ·simp only [Xs] at hA
  subst hA
  exact ⟨he,h _ _ _ _ ho⟩
 ·cases hA
def pLf (g:Nat) (F:Str→Int→Nat→Ans):Pat
 | [.ptr 900 0,.fn g' []],[(900,.box (.agg [.str s,.int .i64 p])),(901,.tail (.st .token) n)]=>(match Nat.beq g' g with | true=>some (F s p n) | false=>none)
 | _,_=>none
theorem uO {g:Nat} {F:Str→Int→Nat→Ans} (he:ar P f) (h:∀s p n,(∀q,(F s p n).ob=some q→q)→aq P f [.ptr 900 0,.fn g []] [(900,.box (.agg [.str s,.int .i64 p])),(901,.tail (.st .token) n)] (F s p n)):ac P f (pLf g F):=by
 intro args S A hA ho _
 unfold pLf at hA
 split at hA
 ·split at hA
  ·rename_i hb
   have e:=Nat.eq_of_beq_eq_true hb
   subst e
   simp only [Xs] at hA
   subst hA
   exact ⟨he,h _ _ _ ho⟩
  ·cases hA
 ·cases hA
def pC0 (F:Str→SC→Nat→Ans):Pat
 | [.ptr 900 0],[(900,.box (.agg [.str s,.int .i64 p,.lst (.st .token) out (some 901),.int .i64 e,.int .i64 g])),(901,.tail (.st .token) n)]=>some (F s ⟨p,out,e,g⟩ n)
 | _,_=>none
theorem EY {F:Str→SC→Nat→Ans} (he:ar P f) (h:∀s c n,(∀q,(F s c n).ob=some q→q)→aq P f [.ptr 900 0] [(900,.box (.agg [.str s,.int .i64 c.pos,.lst (.st .token) c.out (some 901),.int .i64 c.err,.int .i64 c.fat])),(901,.tail (.st .token) n)] (F s c n)):ac P f (pC0 F):=by
 intro args S A hA ho _
 unfold pC0 at hA
 split at hA
 ·simp only [Xs] at hA
  subst hA
  exact ⟨he,h _ _ _ ho⟩
 ·cases hA
def pC2 (F:Str→SC→Nat→Int→Int→Ans):Pat
 | [.ptr 900 0,.int .i64 a,.int .i64 b],[(900,.box (.agg [.str s,.int .i64 p,.lst (.st .token) out (some 901),.int .i64 e,.int .i64 g])),(901,.tail (.st .token) n)]=>some (F s ⟨p,out,e,g⟩ n a b)
 | _,_=>none
theorem EZ {F:Str→SC→Nat→Int→Int→Ans} (he:ar P f) (h:∀s c n a b,(∀q,(F s c n a b).ob=some q→q)→aq P f [.ptr 900 0,.int .i64 a,.int .i64 b] [(900,.box (.agg [.str s,.int .i64 c.pos,.lst (.st .token) c.out (some 901),.int .i64 c.err,.int .i64 c.fat])),(901,.tail (.st .token) n)] (F s c n a b)):ac P f (pC2 F):=by
 intro args S A hA ho _
 unfold pC2 at hA
 split at hA
 ·simp only [Xs] at hA
  subst hA
  exact ⟨he,h _ _ _ _ _ ho⟩
 ·cases hA
def pCt (F:Str→SC→Nat→Int→Str→Int→Ans):Pat
 | [.int .i64 k,.str t,.ptr 900 0,.ptr 901 0],[(900,.box (.ptr 902 0)),(901,.box (.int .i64 fr)),(902,.box (.agg [.str s,.int .i64 p,.lst (.st .token) out (some 903),.int .i64 e,.int .i64 g])),(903,.tail (.st .token) n)]=>some (F s ⟨p,out,e,g⟩ n k t fr)
 | _,_=>none
theorem IN {F:Str→SC→Nat→Int→Str→Int→Ans} (he:ar P f) (h:∀s c n k t fr,(∀q,(F s c n k t fr).ob=some q→q)→aq P f [.int .i64 k,.str t,.ptr 900 0,.ptr 901 0] [(900,.box (.ptr 902 0)),(901,.box (.int .i64 fr)),(902,.box (.agg [.str s,.int .i64 c.pos,.lst (.st .token) c.out (some 903),.int .i64 c.err,.int .i64 c.fat])),(903,.tail (.st .token) n)] (F s c n k t fr)):ac P f (pCt F):=by
 intro args S A hA ho _
 unfold pCt at hA
 split at hA
 ·simp only [Xs] at hA
  subst hA
  exact ⟨he,h _ _ _ _ _ _ ho⟩
 ·cases hA
end
end Go.AL
end
