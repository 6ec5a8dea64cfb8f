/- Plain facts. No condition. -/
import Derived.Test.YtdmbjejhifjhbaaGreatDoorT12
set_option linter.unusedVariables false
set_option linter.unusedSimpArgs false
set_option linter.unnecessarySimpa false
set_option linter.deprecated false
set_option linter.unusedSectionVars false
set_option maxRecDepth 100000
section
namespace Go.AL
variable [Tabs]
def RdO:SObj→SObj→Prop
 | .box c,.box d=>RdL (aa c) (aa d)
 | o,o'=>o=o'
theorem RdO.refl (o:SObj):RdO o o:=by
 cases o with
 | box c=>exact RdL.refl _
 | _=>rfl
theorem RdO.slot {Ω:Om} {own:Nat→Nat→Prop} {id:Nat} {o o':SObj} (h:bv Ω own id o) (hr:RdO o o'):bv Ω own id o':=by
 cases o with
 | box c=>
  cases o' with
  | box d=>exact bv.rd h hr
  | _=>cases hr
 | _=>cases o' <;> first | (cases hr;exact h) | cases hr
inductive RdS:List (Nat × SObj)→List (Nat × SObj)→Prop
 | nil:RdS [] []
 | cons {i:Nat} {o o':SObj} {r r':List (Nat × SObj)}:RdO o o'→RdS r r'→RdS ((i,o) ::r) ((i,o') ::r')
theorem RdS.get {S S':List (Nat × SObj)} (h:RdS S S') (id:Nat):(ax S id=none/\ax S' id=none)∨∃o o',ax S id=some o/\ax S' id=some o'/\RdO o o':=by
 induction h with
 | nil=>exact .inl ⟨rfl,rfl⟩
 | @cons i o o' r r' ho _ ih=>
  simp only [ax]
  by_cases hi:i=id
  ·simp only [hi,beq_self_eq_true,if_true]
   exact .inr ⟨o,o',rfl,rfl,ho⟩
  ·simp only [beq_iff_eq,hi,if_false]
   exact ih
theorem sk (S:List (Nat × SObj)) (u:List (Nat × SObj)) (id:Nat):ax (AL.putB S u) id=AL.updB (ax S) u id:=by rw [iy]
theorem zT:∀(u:List (Nat × SObj)) (B B':Nat→Option SObj) (id:Nat),id∈am u→updB B u id=updB B' u id
 | (i,o) ::r,B,B',id,h=>by
  simp only [updB]
  by_cases hr:id∈am r
  ·exact zT r _ _ id hr
  ·have hi:id=i:=by
    simp only [am,List.map_cons,List.mem_cons] at h hr
    exact h.resolve_right hr
   subst hi
   rw [fB r _ id hr,fB r _ id hr]
   simp
theorem ar.slots {P:Program} {f:Nat} {args:List AV} {S S':List (Nat × SObj)} {A:Ans} (hr:RdS S S') (hp:A.pan=none) (hu:∀i∈am S,i∈am A.upd)
  (h:ar P f args S' A):ar P f args S A:=by
 intro w pub e vs hpo ht hv hs hd hi
 have e2:ax (putB S A.upd)=ax (putB S' A.upd):=by
  funext id
  rw [sk,sk]
  by_cases hk:id∈am A.upd
  ·exact zT _ _ _ _ hk
  ·rw [fB _ _ _ hk,fB _ _ _ hk]
   rcases hr.get id with ⟨h1,h2⟩ | ⟨o,o',h1,h2,_⟩
   ·rw [h1,h2]
   ·exact absurd (hu id (by
     have:=dN _ _ _ h1
     exact List.mem_map.2 ⟨_,this,rfl⟩)) hk
 refine (h w pub e vs hpo ht hv (fun id o ho=>?_) (fun id hid=>?_) hi).mono ?_
 ·rcases hr.get id with ⟨h1,h2⟩ | ⟨o1,o2,h1,h2,h3⟩
  ·rw [h2] at ho;cases ho
  ·rw [h2] at ho
   cases ho
   exact h3.slot (hs id o1 h1)
 ·rcases hr.get id with ⟨h1,_⟩ | ⟨o1,o2,_,h2,_⟩
  ·exact hd id h1
  ·rw [h2] at hid;cases hid
 ·intro en w' hq
  obtain ⟨pub',e',hq⟩:=hq
  refine ⟨pub',e',?_⟩
  cases en with
  | returned v=>simp only at hq ⊢;rw [e2];exact hq
  | panicked ch=>
   obtain ⟨pv,u,v,h1,_⟩:=hq
   rw [hp] at h1
   cases h1
  | outgrown=>exact hq
section
variable {P:Program} {f:Nat}
def pP0 (F:Par→Ans):Pat
 | [.ptr 900 0],[(900,.box c)]=>(match arg (.st .par) c with | some x=>some (F x) | none=>none)
 | _,_=>none
def pP1 (τ:Ty) (F:Par→den τ→Ans):Pat
 | [.ptr 900 0,a],[(900,.box c)]=>(match arg (.st .par) c,arg τ a with | some x,some y=>some (F x y) | _,_=>none)
 | _,_=>none
def pP2 (τ σ:Ty) (F:Par→den τ→den σ→Ans):Pat
 | [.ptr 900 0,a,b],[(900,.box c)]=>(match arg (.st .par) c,arg τ a,arg σ b with | some x,some y,some z=>some (F x y z) | _,_,_=>none)
 | _,_=>none
theorem rdP {c:AV} {x:Par} (h:arg (.st .par) c=some x):RdS [(900,.box c)] [(900,.box (.st .par x))]:=.cons (dg _ h) .nil
theorem iC {F:Par→Ans} (he:au P f) (hp:∀x,(F x).pan=none) (hu:∀x,900∈am (F x).upd) (h:∀x,(∀q,(F x).ob=some q→q)→ar P f [.ptr 900 0] [(900,.box (.st .par x))] (F x)):ad P f (pP0 F):=by
 intro args S A hA ho _
 unfold pP0 at hA
 split at hA
 ·split at hA
  ·rename_i x hx
   simp only [Xs] at hA
   subst hA
   exact ⟨he,ar.slots (rdP hx) (hp x) (by simpa [am] using hu x) (h x ho)⟩
  ·cases hA
 ·cases hA
theorem qt {τ:Ty} {F:Par→den τ→Ans} (he:au P f) (hp:∀x y,(F x y).pan=none) (hu:∀x y,900∈am (F x y).upd)
  (h:∀x y,Wf τ y→(∀q,(F x y).ob=some q→q)→ar P f [.ptr 900 0,inj τ y] [(900,.box (.st .par x))] (F x y)):ad P f (pP1 τ F):=by
 intro args S A hA ho _
 unfold pP1 at hA
 split at hA
 ·split at hA
  ·rename_i x y hx hy
   simp only [Xs] at hA
   subst hA
   exact ⟨he,ar.slots (rdP hx) (hp x y) (by simpa [am] using hu x y) (ar.args (.cons (Rd.refl _) (.cons (Rd.arg hy) .nil)) (ar.wf fun hw=>h x y hw.two ho))⟩
  ·cases hA
 ·cases hA
theorem Gy {τ σ:Ty} {F:Par→den τ→den σ→Ans} (he:au P f) (hp:∀x y z,(F x y z).pan=none) (hu:∀x y z,900∈am (F x y z).upd)
  (h:∀x y z,Wf τ y→Wf σ z→(∀q,(F x y z).ob=some q→q)→ar P f [.ptr 900 0,inj τ y,inj σ z] [(900,.box (.st .par x))] (F x y z)):ad P f (pP2 τ σ F):=by
 intro args S A hA ho _
 unfold pP2 at hA
 split at hA
 ·split at hA
  ·rename_i x y z hx hy hz
   simp only [Xs] at hA
   subst hA
   exact ⟨he,ar.slots (rdP hx) (hp x y z) (by simpa [am] using hu x y z) (ar.args (.cons (Rd.refl _) (.cons (Rd.arg hy) (.cons (Rd.arg hz) .nil))) (ar.wf fun hw=>h x y z hw.two hw.three ho))⟩
  ·cases hA
 ·cases hA
end
end Go.AL
end
section
namespace Go.AL
variable [Tabs]
section
variable {P:Program} {f:Nat}
def qu (F:Shape→Par→Nat→Nat→Ans):Pat
 | [.ptr 900 0,.ptr 901 0],[(900,.box (.ptr 902 0)),(901,.box (.agg [.int .i64 k,.str p,.str q,.lst .str ns (some 903),.lst (.st .shape) ps (some 904)])),(902,.box c),(903,.tail .str m),(904,.tail (.st .shape) m')]=>
  (match arg (.st .par) c with | some s=>some (F ⟨k,p,q,ns,ps⟩ s m m') | none=>none)
 | _,_=>none
def De (x:Shape) (c:AV) (m m':Nat):List (Nat × SObj):=
 [(900,.box (.ptr 902 0)),(901,.box (.agg [.int .i64 x.kind,.str x.pkg,.str x.name,.lst .str x.names (some 903),.lst (.st .shape) x.parts (some 904)])),(902,.box c),(903,.tail .str m),(904,.tail (.st .shape) m')]
theorem AY {F:Shape→Par→Nat→Nat→Ans} (he:au P f) (hp:∀x s m m',(F x s m m').pan=none) (hu:∀x s m m',∀i∈[900,901,902,903,904],i∈am (F x s m m').upd)
  (h:∀x s m m',(∀q,(F x s m m').ob=some q→q)→ar P f [.ptr 900 0,.ptr 901 0] (De x (.st .par s) m m') (F x s m m')):ad P f (qu F):=by
 intro args S A hA ho _
 unfold qu at hA
 split at hA
 ·split at hA
  ·rename_i s hs
   simp only [Xs] at hA
   subst hA
   refine ⟨he,ar.slots ?_ (hp _ _ _ _) (by simpa [am] using hu _ _ _ _) (h _ _ _ _ ho)⟩
   exact .cons (RdO.refl _) (.cons (RdO.refl _) (.cons (dg _ hs) (.cons rfl (.cons rfl .nil))))
  ·cases hA
 ·cases hA
def vw (F:Shape→Par→Nat→Ans):Pat
 | [.ptr 900 0,.ptr 901 0],[(900,.box (.agg [.int .i64 k,.str p,.str q,.nils,.lst (.st .shape) ps (some 902)])),(901,.box (.ptr 903 0)),(902,.tail (.st .shape) m),(903,.box c)]=>
  (match arg (.st .par) c with | some s=>some (F ⟨k,p,q,[],ps⟩ s m) | none=>none)
 | _,_=>none
def Gi (x:Shape) (c:AV) (m:Nat):List (Nat × SObj):=
 [(900,.box (.agg [.int .i64 x.kind,.str x.pkg,.str x.name,.nils,.lst (.st .shape) x.parts (some 902)])),(901,.box (.ptr 903 0)),(902,.tail (.st .shape) m),(903,.box c)]
theorem Df {F:Shape→Par→Nat→Ans} (he:au P f) (hp:∀x s m,(F x s m).pan=none) (hu:∀x s m,∀i∈[900,901,902,903],i∈am (F x s m).upd)
  (h:∀x s m,x.names=[]→(∀q,(F x s m).ob=some q→q)→ar P f [.ptr 900 0,.ptr 901 0] (Gi x (.st .par s) m) (F x s m)):ad P f (vw F):=by
 intro args S A hA ho _
 unfold vw at hA
 split at hA
 ·split at hA
  ·rename_i s hs
   simp only [Xs] at hA
   subst hA
   refine ⟨he,ar.slots ?_ (hp _ _ _) (by simpa [am] using hu _ _ _) (h _ _ _ rfl ho)⟩
   exact .cons (RdO.refl _) (.cons (RdO.refl _) (.cons rfl (.cons (dg _ hs) .nil)))
  ·cases hA
 ·cases hA
def tS (g:Nat) (F:Str→Str→Int→Par→Ans):Pat
 | [.ptr 900 0,.str b,.str e,.fn g' [.ptr 901 0,.ptr 902 0]],[(900,.box c),(901,.box (.ptr 900 0)),(902,.box (.agg [.int .i64 k,.str [],.str [],.nils,.nils]))]=>
  (match Nat.beq g' g,arg (.st .par) c with | true,some s=>some (F b e k s) | _,_=>none)
 | _,_=>none
def Dg (k:Int) (c:AV):List (Nat × SObj):=[(900,.box c),(901,.box (.ptr 900 0)),(902,.box (.agg [.int .i64 k,.str [],.str [],.nils,.nils]))]
theorem AZ {g:Nat} {F:Str→Str→Int→Par→Ans} (he:au P f) (hp:∀b e k s,(F b e k s).pan=none) (hu:∀b e k s,∀i∈[900,901,902],i∈am (F b e k s).upd)
  (h:∀b e k s,(∀q,(F b e k s).ob=some q→q)→ar P f [.ptr 900 0,.str b,.str e,.fn g [.ptr 901 0,.ptr 902 0]] (Dg k (.st .par s)) (F b e k s)):ad P f (tS g F):=by
 intro args S A hA ho _
 unfold tS at hA
 split at hA
 ·split at hA
  ·rename_i hb hs
   simp only [Xs] at hA
   subst hA
   have e:=Nat.eq_of_beq_eq_true hb
   subst e
   refine ⟨he,ar.slots ?_ (hp _ _ _ _) (by simpa [am] using hu _ _ _ _) (h _ _ _ _ ho)⟩
   exact .cons (dg _ hs) (.cons (RdO.refl _) (.cons (RdO.refl _) .nil))
  ·cases hA
 ·cases hA
def tT (g:Nat) (F:Str→Str→Int→Par→Ans):Pat
 | [.ptr 900 0,.str b,.str e,.fn g' [.ptr 901 0,.ptr 902 0]],[(900,.box c),(901,.box (.agg [.int .i64 k,.str [],.str [],.nils,.nils])),(902,.box (.ptr 900 0))]=>
  (match Nat.beq g' g,arg (.st .par) c with | true,some s=>some (F b e k s) | _,_=>none)
 | _,_=>none
def Dh (k:Int) (c:AV):List (Nat × SObj):=[(900,.box c),(901,.box (.agg [.int .i64 k,.str [],.str [],.nils,.nils])),(902,.box (.ptr 900 0))]
theorem B0 {g:Nat} {F:Str→Str→Int→Par→Ans} (he:au P f) (hp:∀b e k s,(F b e k s).pan=none) (hu:∀b e k s,∀i∈[900,901,902],i∈am (F b e k s).upd)
  (h:∀b e k s,(∀q,(F b e k s).ob=some q→q)→ar P f [.ptr 900 0,.str b,.str e,.fn g [.ptr 901 0,.ptr 902 0]] (Dh k (.st .par s)) (F b e k s)):ad P f (tT g F):=by
 intro args S A hA ho _
 unfold tT at hA
 split at hA
 ·split at hA
  ·rename_i hb hs
   simp only [Xs] at hA
   subst hA
   have e:=Nat.eq_of_beq_eq_true hb
   subst e
   refine ⟨he,ar.slots ?_ (hp _ _ _ _) (by simpa [am] using hu _ _ _ _) (h _ _ _ _ ho)⟩
   exact .cons (dg _ hs) (.cons (RdO.refl _) (.cons (RdO.refl _) .nil))
  ·cases hA
 ·cases hA
end
end Go.AL
end
section
namespace Go.Pd
open Go.AL
structure Moves (s s':Par):Prop where
 goes:Goes s s'
 eats:jm s s'
theorem Moves.goes_then {a b c:Par} (h:Moves a b) (k:Goes b c):Moves a c:=⟨h.goes.trans k,h.eats.then k⟩
theorem Moves.then {a b c:Par} (h:Moves a b) (k:Moves b c):Moves a c:=h.goes_then k.goes
theorem Moves.lt {a b:Par} {n:Nat} (h:Moves a b) (k:rem a<=n) (h0:a.err=0):rem b < n:=h.eats.lt k h0
theorem Moves.good {a b:Par} (h:Moves a b):a8 b:=h.goes.good
theorem aJ {t:Str} {s:Par} (h:a8 s) (c:isF t s=true):Moves s (aA s):=⟨cH h c,.inl (by have:=aR h c;omega)⟩
theorem ak {t:Str} {s:Par} (h:a8 s):Moves s (aj t s):=⟨bF h,AX h⟩
theorem bY {k:Int} {s:Par} (h:a8 s) (hk:¬k=0):Moves s (b6 k s).2:=⟨(li h hk).1,(li h hk).2⟩
theorem dE {ns:List Str} {s:Par} (h:a8 s):Moves s (bP ns s).2:=⟨(jN h).1,(jN h).2⟩
theorem gD {s:Par} (h:a8 s):Moves s (bW s).2:=⟨(kL h).1,(kL h).2⟩
theorem xU {e a:Int} {s:Par} (h:a8 s) (he:¬e=0):Moves s (cy e a s):=⟨ii h he,.inr (iB he)⟩
theorem eh.moves {α:Type} {R:Par→α × Par} {n:Nat} (h:eh R n) {s:Par} (hi:a8 s) (hn:rem s < n):Moves s (R s).2:=⟨(h s hi hn).1,(h s hi hn).2⟩
theorem gc {a:Str} {t:Trm} {s:Par} (h:a8 s):Moves s (eI a t s).2:=(ak h).then (gD (ak h).good)
theorem jO {k:Int} {s:Par} (hi:a8 s) (hk:¬k=0) (c:(ao s).kind=k) (b:b9 s=false):Moves s (aA s)/\rem (aA s)+1=rem s:=by
 have h3:=dC.1 b
 have h2:s.pos < (s.toks.length:Int):=fF (by have:=c;unfold ao at this;rw [this];exact hk)
 have:=mZ hi h2 h3
 exact ⟨⟨n5 hi h2 h3 (by have:=c;unfold ao at this;rw [this];exact hk),.inl (by omega)⟩,this⟩
theorem jn (n:Nat):ek az n:=by
 intro x s hi h0 hn
 have m:=(dE (ns:=x.names) hi).then (gc (a:=[58]) (t:=bu x (bP x.names s).1) (dE hi).good)
 exact ⟨m.goes,m.eats⟩
theorem df {R:Par→Trm × Par} {n:Nat} (hR:eh R (n+1)):ek (aq R) n:=by
 intro x s hi h0 hn
 exact hR s hi (by omega)
theorem jo {R:Par→Trm × Par} {n:Nat} (hR:eh R n):ek (ai R) n:=by
 intro x s hi h0 hn
 have m1:=dE (ns:=x.names) hi
 have m2:=m1.then (ak (t:=[40]) m1.good)
 have m3:=m2.then (bY (k:=1) m2.good (by decide))
 have m4:=m3.then (gc (a:=[58]) (t:=cK (bu x (bP x.names s).1) (b6 1 (aj [40] (bP x.names s).2)).1.text) m3.good)
 have m5:=m4.then (ak (t:=[41]) m4.good)
 have m6:=m5.then (ak (t:=[45,62]) m5.good)
 have m7:=m6.then (hR.moves m6.good (m6.lt hn h0))
 exact ⟨m7.goes,m7.eats⟩
theorem iR {R:Par→Trm × Par} {n:Nat} (hR:eh R n):ek (ah R) n:=by
 intro x s hi h0 hn
 have m1:=dE (ns:=x.names) hi
 have m2:=m1.then (ak (t:=[61]) m1.good)
 have m3:=m2.then (hR.moves m2.good (m2.lt hn h0))
 exact ⟨m3.goes,m3.eats⟩
theorem vz {R:Par→Trm × Par} {n:Nat} (hR:eh R n) {s:Par} (hi:a8 s) (hn:rem (aj [40] s) < n):Moves s (cU R s).2:=by
 have m1:=ak (t:=[40]) hi
 have m2:=m1.then (hR.moves m1.good hn)
 exact m2.then (ak (t:=[41]) m2.good)
theorem Moves.ite {α:Type} {s:Par} {c:Prop} [Decidable c] {p q:α × Par} (h1:c→Moves s p.2) (h2:¬c→Moves s q.2):Moves s (if c then p else q).2:=by
 by_cases h:c
 ·rw [if_pos h];exact h1 h
 ·rw [if_neg h];exact h2 h
theorem jP {R:Par→Trm × Par} {n:Nat} (hR:eh R n) {s:Par} (hi:a8 s) (hn:rem s < n+1):Moves s (dB R s).2:=by
 unfold dB
 refine Moves.ite (fun b=>⟨Goes.refl hi,.inr (Dc.2 (cb.1 b))⟩) (fun b=>?_)
 have b:b9 s=false:=by simpa using b
 refine Moves.ite (fun c=>(jO hi (by decide) c b).1) (fun _=>?_)
 refine Moves.ite (fun c=>(jO hi (by decide) c b).1) (fun _=>?_)
 refine Moves.ite (fun c=>?_) (fun _=>?_)
 ·have m:=(jO hi (by decide) c b).1
  refine Moves.ite (fun c2=>?_) (fun _=>m)
  have m2:=m.then (aJ m.good c2)
  exact m2.then (bY m2.good (by decide))
 refine Moves.ite (fun c=>aJ hi c) (fun _=>?_)
 refine Moves.ite (fun c=>aJ hi c) (fun _=>?_)
 refine Moves.ite (fun c=>?_) (fun _=>?_)
 ·have m:=aJ hi c
  have r:=aR hi c
  have m2:=m.then (hR.moves m.good (by omega))
  refine Moves.ite (fun c2=>?_) (fun _=>m2.then (ak m2.good))
  have m3:=m2.then (aJ m2.good c2)
  have m4:=m3.then (gD m3.good)
  exact m4.then (ak m4.good)
 refine Moves.ite (fun c=>?_) (fun _=>?_)
 ·have m:=aJ hi c
  have r:=aR hi c
  exact m.goes_then (aW (iR hR) [44] [125] _ m.good (by omega))
 have inn:∀k:Int,¬k=0→∀t:Str,isF t s=true→Moves s (cU R (b6 k (aA s)).2).2:=fun k hk t c=>by
  have m:=aJ hi c
  have r:=aR hi c
  have m2:=bY (k:=k) m.good hk
  have m3:=ak (t:=[40]) m2.good
  exact (m.then m2).then (vz hR m2.good (by have:=m2.goes.le;have:=m3.goes.le;omega))
 refine Moves.ite (fun c=>inn 1 (by decide) _ c) (fun _=>?_)
 refine Moves.ite (fun c=>inn 2 (by decide) _ c) (fun _=>?_)
 refine Moves.ite (fun c=>inn 2 (by decide) _ c) (fun _=>?_)
 exact xU hi (by decide)
theorem ij {R:Par→Trm × Par} {n:Nat} (hR:eh R n) (p:Int):∀(k:Nat) (t:Trm) (s:Par),a8 s→rem s < n+1→Goes s (fQ R p k t s).2
 | 0,t,s,hi,_=>Goes.refl hi
 | k+1,t,s,hi,hn=>by
  simp only [fQ]
  split
  ·exact Goes.refl hi
  split
  ·rename_i c
   have m:=aJ hi c
   have r:=aR hi c
   have hp:=cP (dP c).2
   obtain ⟨j,rfl⟩:∃j,n=j+1:=⟨n - 1,by have:=cP (dP c).2;have:rem (aA s)=rem (aA s):=rfl;omega⟩
   have g:=aW (df hR) [44] [41] (⟨7,[],[],0,[],[],[],[t],p⟩:Trm) m.good (by omega)
   exact (m.goes.trans g).trans (ij hR p k _ _ g.good (by have:=g.le;omega))
  split
  ·rename_i c
   have m:=aJ hi c
   have m2:=m.then (bY (k:=1) m.good (by decide))
   exact m2.goes.trans (ij hR p k _ _ m2.good (by have:=m2.goes.le;omega))
  ·exact Goes.refl hi
theorem vA {R:Par→Trm × Par} {n:Nat} (hR:eh R n) {s:Par} (hi:a8 s) (hn:rem s < n+1):Moves s (fE R s).2:=by
 have m:=jP hR hi hn
 exact m.goes_then (ij hR _ _ _ _ m.good (by have:=m.goes.le;omega))
theorem vB {R:Par→Trm × Par} {n:Nat} (hR:eh R n):eh (lR R) (n+1):=by
 intro s hi hn
 suffices m:Moves s (lR R s).2 from ⟨m.goes,m.eats⟩
 unfold lR
 simp only
 split
 ·rename_i c
  have m:=aJ hi c
  have r:=aR hi c
  have m2:=m.then (ak (t:=[40]) m.good)
  have g:=aW (jn n) [44] [41] (⟨6,[],[],0,[],[],[],[],(ao s).pos⟩:Trm) m2.good (by have:=(ak (t:=[40]) m.good).goes.le;omega)
  have m3:=(m2.goes_then g).then (ak (t:=[45,62]) g.good)
  have l1:=(ak (t:=[40]) m.good).goes.le
  have l2:=g.le
  have l3:=(ak (t:=[45,62]) g.good).goes.le
  exact m3.then (hR.moves m3.good (by omega))
 split
 ·rename_i c
  have m:=aJ hi c
  have r:=aR hi c
  have a:=bY (k:=1) m.good (by decide)
  have b:=a.then (ak (t:=[61]) a.good)
  have p1:=b.then (hR.moves b.good (by have:=b.goes.le;omega))
  have q:=p1.then (ak (t:=[105,110]) p1.good)
  exact m.then (q.then (hR.moves q.good (by have:=q.goes.le;omega)))
 split
 ·rename_i c
  have m:=aJ hi c
  have r:=aR hi c
  have p1:=hR.moves m.good (by omega)
  have b:=p1.then (ak (t:=[116,104,101,110]) p1.good)
  have p2:=b.then (hR.moves b.good (by have:=b.goes.le;omega))
  have d:=p2.then (ak (t:=[101,108,115,101]) p2.good)
  have p3:=d.then (hR.moves d.good (by have:=d.goes.le;omega))
  exact m.then (p3.then (gc p3.good))
 split
 ·rename_i c
  have m:=aJ hi c
  have r:=aR hi c
  have p1:=hR.moves m.good (by omega)
  have b:=p1.then (ak (t:=[111,102]) p1.good)
  have d:=b.then (ak (t:=[123]) b.good)
  have g:=aW (jo hR) [124] [125] (aq R ⟨13,[],[],0,[],[],[],[],(ao s).pos⟩ (aA s)).1 d.good (by have:=d.goes.le;omega)
  have e:=d.goes_then g
  exact m.then (e.then (gc e.good))
 split
 ·rename_i c
  have m:=aJ hi c
  have r:=aR hi c
  have hp:=cP (dP c).2
  obtain ⟨j,rfl⟩:∃j,n=j+1:=⟨n - 1,by omega⟩
  have g:=aW (df hR) [44] [93] (⟨11,[],[],0,[],[],[],[],(ao s).pos⟩:Trm) m.good (by omega)
  have e:=m.goes_then g
  exact e.then (gc e.good)
 ·exact vA hR hi hn
theorem dj:∀n,eh (a7 n) n
 | 0=>fun s _ h=>absurd h (Nat.not_lt_zero _)
 | n+1=>vB (dj n)
end Go.Pd
end
section
namespace Go.AL
variable [Tabs]
section
variable {P:Program} {f:Nat}
def pT_ (F:Trm→Par→Ans):Pat
 | [.ptr 900 0,.ptr 901 0],[(900,.box (.agg [.int .i64 k,.str g,.str q,.int .i64 z,.nils,.nils,.nils,.nils,.int .i64 pp])),(901,.box (.ptr 902 0)),(902,.box c)]=>
  (match arg (.st .par) c with | some s=>some (F ⟨k,g,q,z,[],[],[],[],pp⟩ s) | _=>none)
 | _,_=>none
def sT_ (x:Trm) (c:AV):List (Nat × SObj):=
 [(900,.box (.agg [.int .i64 (x).kind,.str (x).pkg,.str (x).name,.int .i64 (x).n,.nils,.nils,.nils,.nils,.int .i64 (x).pos])),(901,.box (.ptr 902 0)),(902,.box c)]
theorem Gz {F:Trm→Par→Ans} (he:au P f) (hp:∀x s,(F x s).pan=none) (hu:∀x s,∀i∈[900,901,902],i∈am (F x s).upd)
  (h:∀x s,x.names=[]→x.vars=[]→x.shapes=[]→x.parts=[]→(∀q,(F x s).ob=some q→q)→ar P f [.ptr 900 0,.ptr 901 0] (sT_ x (.st .par s)) (F x s)):ad P f (pT_ F):=by
 intro args S A hA ho _
 unfold pT_ at hA
 split at hA
 ·split at hA
  ·rename_i hs
   simp only [Xs] at hA
   subst hA
   refine ⟨he,ar.slots ?_ (hp _ _) (by simpa [am] using hu _ _) (h _ _ rfl rfl rfl rfl ho)⟩
   exact .cons (RdO.refl _) (.cons (RdO.refl _) (.cons (dg _ hs) .nil))
  ·cases hA
 ·cases hA
def tU (F:Trm→Par→Nat→Ans):Pat
 | [.ptr 900 0,.ptr 901 0],[(900,.box (.agg [.int .i64 k,.str g,.str q,.int .i64 z,.nils,.nils,.nils,.lst (.st .term) ps (some 902),.int .i64 pp])),(901,.box (.ptr 903 0)),(902,.tail (.st .term) mp),(903,.box c)]=>
  (match arg (.st .par) c with | some s=>some (F ⟨k,g,q,z,[],[],[],ps,pp⟩ s mp) | _=>none)
 | _,_=>none
def GA (x:Trm) (c:AV) (mp:Nat):List (Nat × SObj):=
 [(900,.box (.agg [.int .i64 (x).kind,.str (x).pkg,.str (x).name,.int .i64 (x).n,.nils,.nils,.nils,.lst (.st .term) (x).parts (some 902),.int .i64 (x).pos])),(901,.box (.ptr 903 0)),(902,.tail (.st .term) mp),(903,.box c)]
theorem zU {F:Trm→Par→Nat→Ans} (he:au P f) (hp:∀x s mp,(F x s mp).pan=none) (hu:∀x s mp,∀i∈[900,901,902,903],i∈am (F x s mp).upd)
  (h:∀x s mp,x.names=[]→x.vars=[]→x.shapes=[]→(∀q,(F x s mp).ob=some q→q)→ar P f [.ptr 900 0,.ptr 901 0] (GA x (.st .par s) mp) (F x s mp)):ad P f (tU F):=by
 intro args S A hA ho _
 unfold tU at hA
 split at hA
 ·split at hA
  ·rename_i hs
   simp only [Xs] at hA
   subst hA
   refine ⟨he,ar.slots ?_ (hp _ _ _) (by simpa [am] using hu _ _ _) (h _ _ _ rfl rfl rfl ho)⟩
   exact .cons (RdO.refl _) (.cons (RdO.refl _) (.cons (RdO.refl _) (.cons (dg _ hs) .nil)))
  ·cases hA
 ·cases hA
def zW (F:Trm→Par→Nat→Nat→Ans):Pat
 | [.ptr 900 0,.ptr 901 0],[(900,.box (.agg [.int .i64 k,.str g,.str q,.int .i64 z,.lst .str ns (some 902),.nils,.lst (.st .shape) ss (some 903),.nils,.int .i64 pp])),(901,.box (.ptr 904 0)),(902,.tail .str mn),(903,.tail (.st .shape) ms),(904,.box c)]=>
  (match arg (.st .par) c with | some s=>some (F ⟨k,g,q,z,ns,[],ss,[],pp⟩ s mn ms) | _=>none)
 | _,_=>none
def Gj (x:Trm) (c:AV) (mn ms:Nat):List (Nat × SObj):=
 [(900,.box (.agg [.int .i64 (x).kind,.str (x).pkg,.str (x).name,.int .i64 (x).n,.lst .str (x).names (some 902),.nils,.lst (.st .shape) (x).shapes (some 903),.nils,.int .i64 (x).pos])),(901,.box (.ptr 904 0)),(902,.tail .str mn),(903,.tail (.st .shape) ms),(904,.box c)]
theorem Di {F:Trm→Par→Nat→Nat→Ans} (he:au P f) (hp:∀x s mn ms,(F x s mn ms).pan=none) (hu:∀x s mn ms,∀i∈[900,901,902,903,904],i∈am (F x s mn ms).upd)
  (h:∀x s mn ms,x.vars=[]→x.parts=[]→(∀q,(F x s mn ms).ob=some q→q)→ar P f [.ptr 900 0,.ptr 901 0] (Gj x (.st .par s) mn ms) (F x s mn ms)):ad P f (zW F):=by
 intro args S A hA ho _
 unfold zW at hA
 split at hA
 ·split at hA
  ·rename_i hs
   simp only [Xs] at hA
   subst hA
   refine ⟨he,ar.slots ?_ (hp _ _ _ _) (by simpa [am] using hu _ _ _ _) (h _ _ _ _ rfl rfl ho)⟩
   exact .cons (RdO.refl _) (.cons (RdO.refl _) (.cons (RdO.refl _) (.cons (RdO.refl _) (.cons (dg _ hs) .nil))))
  ·cases hA
 ·cases hA
def vC (F:Trm→Par→Nat→Nat→Ans):Pat
 | [.ptr 900 0,.ptr 901 0],[(900,.box (.agg [.int .i64 k,.str g,.str q,.int .i64 z,.lst .str ns (some 902),.nils,.nils,.lst (.st .term) ps (some 903),.int .i64 pp])),(901,.box (.ptr 904 0)),(902,.tail .str mn),(903,.tail (.st .term) mp),(904,.box c)]=>
  (match arg (.st .par) c with | some s=>some (F ⟨k,g,q,z,ns,[],[],ps,pp⟩ s mn mp) | _=>none)
 | _,_=>none
def Gk (x:Trm) (c:AV) (mn mp:Nat):List (Nat × SObj):=
 [(900,.box (.agg [.int .i64 (x).kind,.str (x).pkg,.str (x).name,.int .i64 (x).n,.lst .str (x).names (some 902),.nils,.nils,.lst (.st .term) (x).parts (some 903),.int .i64 (x).pos])),(901,.box (.ptr 904 0)),(902,.tail .str mn),(903,.tail (.st .term) mp),(904,.box c)]
theorem Dj {F:Trm→Par→Nat→Nat→Ans} (he:au P f) (hp:∀x s mn mp,(F x s mn mp).pan=none) (hu:∀x s mn mp,∀i∈[900,901,902,903,904],i∈am (F x s mn mp).upd)
  (h:∀x s mn mp,x.vars=[]→x.shapes=[]→(∀q,(F x s mn mp).ob=some q→q)→ar P f [.ptr 900 0,.ptr 901 0] (Gk x (.st .par s) mn mp) (F x s mn mp)):ad P f (vC F):=by
 intro args S A hA ho _
 unfold vC at hA
 split at hA
 ·split at hA
  ·rename_i hs
   simp only [Xs] at hA
   subst hA
   refine ⟨he,ar.slots ?_ (hp _ _ _ _) (by simpa [am] using hu _ _ _ _) (h _ _ _ _ rfl rfl ho)⟩
   exact .cons (RdO.refl _) (.cons (RdO.refl _) (.cons (RdO.refl _) (.cons (RdO.refl _) (.cons (dg _ hs) .nil))))
  ·cases hA
 ·cases hA
def n7 (F:Trm→Par→Nat→Nat→Nat→Nat→Ans):Pat
 | [.ptr 900 0,.ptr 901 0],[(900,.box (.agg [.int .i64 k,.str g,.str q,.int .i64 z,.lst .str ns (some 902),.lst .str vs (some 903),.lst (.st .shape) ss (some 904),.lst (.st .term) ps (some 905),.int .i64 pp])),(901,.box (.ptr 906 0)),(902,.tail .str mn),(903,.tail .str mv),(904,.tail (.st .shape) ms),(905,.tail (.st .term) mp),(906,.box c)]=>
  (match arg (.st .par) c with | some s=>some (F ⟨k,g,q,z,ns,vs,ss,ps,pp⟩ s mn mv ms mp) | _=>none)
 | _,_=>none
def zX (x:Trm) (c:AV) (mn mv ms mp:Nat):List (Nat × SObj):=
 [(900,.box (.agg [.int .i64 (x).kind,.str (x).pkg,.str (x).name,.int .i64 (x).n,.lst .str (x).names (some 902),.lst .str (x).vars (some 903),.lst (.st .shape) (x).shapes (some 904),.lst (.st .term) (x).parts (some 905),.int .i64 (x).pos])),(901,.box (.ptr 906 0)),(902,.tail .str mn),(903,.tail .str mv),(904,.tail (.st .shape) ms),(905,.tail (.st .term) mp),(906,.box c)]
theorem xV {F:Trm→Par→Nat→Nat→Nat→Nat→Ans} (he:au P f) (hp:∀x s mn mv ms mp,(F x s mn mv ms mp).pan=none) (hu:∀x s mn mv ms mp,∀i∈[900,901,902,903,904,905,906],i∈am (F x s mn mv ms mp).upd)
  (h:∀x s mn mv ms mp,True→(∀q,(F x s mn mv ms mp).ob=some q→q)→ar P f [.ptr 900 0,.ptr 901 0] (zX x (.st .par s) mn mv ms mp) (F x s mn mv ms mp)):ad P f (n7 F):=by
 intro args S A hA ho _
 unfold n7 at hA
 split at hA
 ·split at hA
  ·rename_i hs
   simp only [Xs] at hA
   subst hA
   refine ⟨he,ar.slots ?_ (hp _ _ _ _ _ _) (by simpa [am] using hu _ _ _ _ _ _) (h _ _ _ _ _ _ trivial ho)⟩
   exact .cons (RdO.refl _) (.cons (RdO.refl _) (.cons (RdO.refl _) (.cons (RdO.refl _) (.cons (RdO.refl _) (.cons (RdO.refl _) (.cons (dg _ hs) .nil))))))
  ·cases hA
 ·cases hA
def Dk (F:Trm→Str→Par→Nat→Nat→Ans):Pat
 | [.str a,.ptr 900 0,.ptr 901 0],[(900,.box (.ptr 902 0)),(901,.box (.agg [.int .i64 k,.str g,.str q,.int .i64 z,.lst .str ns (some 903),.nils,.lst (.st .shape) ss (some 904),.nils,.int .i64 pp])),(902,.box c),(903,.tail .str mn),(904,.tail (.st .shape) ms)]=>
  (match arg (.st .par) c with | some s=>some (F ⟨k,g,q,z,ns,[],ss,[],pp⟩ a s mn ms) | _=>none)
 | _,_=>none
def GW (x:Trm) (c:AV) (mn ms:Nat):List (Nat × SObj):=
 [(900,.box (.ptr 902 0)),(901,.box (.agg [.int .i64 (x).kind,.str (x).pkg,.str (x).name,.int .i64 (x).n,.lst .str (x).names (some 903),.nils,.lst (.st .shape) (x).shapes (some 904),.nils,.int .i64 (x).pos])),(902,.box c),(903,.tail .str mn),(904,.tail (.st .shape) ms)]
theorem Dl {F:Trm→Str→Par→Nat→Nat→Ans} (he:au P f) (hp:∀x a s mn ms,(F x a s mn ms).pan=none) (hu:∀x a s mn ms,∀i∈[900,901,902,903,904],i∈am (F x a s mn ms).upd)
  (h:∀x a s mn ms,x.vars=[]→x.parts=[]→(∀q,(F x a s mn ms).ob=some q→q)→ar P f [.str a,.ptr 900 0,.ptr 901 0] (GW x (.st .par s) mn ms) (F x a s mn ms)):ad P f (Dk F):=by
 intro args S A hA ho _
 unfold Dk at hA
 split at hA
 ·split at hA
  ·rename_i hs
   simp only [Xs] at hA
   subst hA
   refine ⟨he,ar.slots ?_ (hp _ _ _ _ _) (by simpa [am] using hu _ _ _ _ _) (h _ _ _ _ _ rfl rfl ho)⟩
   exact .cons (RdO.refl _) (.cons (RdO.refl _) (.cons (dg _ hs) (.cons (RdO.refl _) (.cons (RdO.refl _) .nil))))
  ·cases hA
 ·cases hA
def GB (F:Trm→Str→Par→Nat→Ans):Pat
 | [.str a,.ptr 900 0,.ptr 901 0],[(900,.box (.ptr 902 0)),(901,.box (.agg [.int .i64 k,.str g,.str q,.int .i64 z,.nils,.nils,.nils,.lst (.st .term) ps (some 903),.int .i64 pp])),(902,.box c),(903,.tail (.st .term) mp)]=>
  (match arg (.st .par) c with | some s=>some (F ⟨k,g,q,z,[],[],[],ps,pp⟩ a s mp) | _=>none)
 | _,_=>none
def sY_p (x:Trm) (c:AV) (mp:Nat):List (Nat × SObj):=
 [(900,.box (.ptr 902 0)),(901,.box (.agg [.int .i64 (x).kind,.str (x).pkg,.str (x).name,.int .i64 (x).n,.nils,.nils,.nils,.lst (.st .term) (x).parts (some 903),.int .i64 (x).pos])),(902,.box c),(903,.tail (.st .term) mp)]
theorem Fk {F:Trm→Str→Par→Nat→Ans} (he:au P f) (hp:∀x a s mp,(F x a s mp).pan=none) (hu:∀x a s mp,∀i∈[900,901,902,903],i∈am (F x a s mp).upd)
  (h:∀x a s mp,x.names=[]→x.vars=[]→x.shapes=[]→(∀q,(F x a s mp).ob=some q→q)→ar P f [.str a,.ptr 900 0,.ptr 901 0] (sY_p x (.st .par s) mp) (F x a s mp)):ad P f (GB F):=by
 intro args S A hA ho _
 unfold GB at hA
 split at hA
 ·split at hA
  ·rename_i hs
   simp only [Xs] at hA
   subst hA
   refine ⟨he,ar.slots ?_ (hp _ _ _ _) (by simpa [am] using hu _ _ _ _) (h _ _ _ _ rfl rfl rfl ho)⟩
   exact .cons (RdO.refl _) (.cons (RdO.refl _) (.cons (dg _ hs) (.cons (RdO.refl _) .nil)))
  ·cases hA
 ·cases hA
def tV (F:Trm→Str→Par→Nat→Nat→Nat→Nat→Ans):Pat
 | [.str a,.ptr 900 0,.ptr 901 0],[(900,.box (.ptr 902 0)),(901,.box (.agg [.int .i64 k,.str g,.str q,.int .i64 z,.lst .str ns (some 903),.lst .str vs (some 904),.lst (.st .shape) ss (some 905),.lst (.st .term) ps (some 906),.int .i64 pp])),(902,.box c),(903,.tail .str mn),(904,.tail .str mv),(905,.tail (.st .shape) ms),(906,.tail (.st .term) mp)]=>
  (match arg (.st .par) c with | some s=>some (F ⟨k,g,q,z,ns,vs,ss,ps,pp⟩ a s mn mv ms mp) | _=>none)
 | _,_=>none
def Fl (x:Trm) (c:AV) (mn mv ms mp:Nat):List (Nat × SObj):=
 [(900,.box (.ptr 902 0)),(901,.box (.agg [.int .i64 (x).kind,.str (x).pkg,.str (x).name,.int .i64 (x).n,.lst .str (x).names (some 903),.lst .str (x).vars (some 904),.lst (.st .shape) (x).shapes (some 905),.lst (.st .term) (x).parts (some 906),.int .i64 (x).pos])),(902,.box c),(903,.tail .str mn),(904,.tail .str mv),(905,.tail (.st .shape) ms),(906,.tail (.st .term) mp)]
theorem xW {F:Trm→Str→Par→Nat→Nat→Nat→Nat→Ans} (he:au P f) (hp:∀x a s mn mv ms mp,(F x a s mn mv ms mp).pan=none) (hu:∀x a s mn mv ms mp,∀i∈[900,901,902,903,904,905,906],i∈am (F x a s mn mv ms mp).upd)
  (h:∀x a s mn mv ms mp,True→(∀q,(F x a s mn mv ms mp).ob=some q→q)→ar P f [.str a,.ptr 900 0,.ptr 901 0] (Fl x (.st .par s) mn mv ms mp) (F x a s mn mv ms mp)):ad P f (tV F):=by
 intro args S A hA ho _
 unfold tV at hA
 split at hA
 ·split at hA
  ·rename_i hs
   simp only [Xs] at hA
   subst hA
   refine ⟨he,ar.slots ?_ (hp _ _ _ _ _ _ _) (by simpa [am] using hu _ _ _ _ _ _ _) (h _ _ _ _ _ _ _ trivial ho)⟩
   exact .cons (RdO.refl _) (.cons (RdO.refl _) (.cons (dg _ hs) (.cons (RdO.refl _) (.cons (RdO.refl _) (.cons (RdO.refl _) (.cons (RdO.refl _) .nil))))))
  ·cases hA
 ·cases hA
def GC (gY:Nat) (F:Trm→Par→Nat→Nat→Ans):Pat
 | [.ptr 900 0,.ptr 901 0,.ptr 902 0],[(900,.box (.agg [.int .i64 k,.str g,.str q,.int .i64 z,.lst .str ns (some 903),.nils,.lst (.st .shape) ss (some 904),.nils,.int .i64 pp])),(901,.box (.ptr 905 0)),(902,.box (.fn gY' [.ptr 901 0,.ptr 900 0])),(903,.tail .str mn),(904,.tail (.st .shape) ms),(905,.box c)]=>
  (match Nat.beq gY' gY,arg (.st .par) c with | true,some s=>some (F ⟨k,g,q,z,ns,[],ss,[],pp⟩ s mn ms) | _,_=>none)
 | _,_=>none
def sFun (gY:Nat) (x:Trm) (c:AV) (mn ms:Nat):List (Nat × SObj):=
 [(900,.box (.agg [.int .i64 (x).kind,.str (x).pkg,.str (x).name,.int .i64 (x).n,.lst .str (x).names (some 903),.nils,.lst (.st .shape) (x).shapes (some 904),.nils,.int .i64 (x).pos])),(901,.box (.ptr 905 0)),(902,.box (.fn gY [.ptr 901 0,.ptr 900 0])),(903,.tail .str mn),(904,.tail (.st .shape) ms),(905,.box c)]
theorem Fm {gY:Nat} {F:Trm→Par→Nat→Nat→Ans} (he:au P f) (hp:∀x s mn ms,(F x s mn ms).pan=none) (hu:∀x s mn ms,∀i∈[900,901,902,903,904,905],i∈am (F x s mn ms).upd)
  (h:∀x s mn ms,x.vars=[]→x.parts=[]→(∀q,(F x s mn ms).ob=some q→q)→ar P f [.ptr 900 0,.ptr 901 0,.ptr 902 0] (sFun gY x (.st .par s) mn ms) (F x s mn ms)):ad P f (GC gY F):=by
 intro args S A hA ho _
 unfold GC at hA
 split at hA
 ·split at hA
  ·rename_i hb0 hs
   simp only [Xs] at hA
   subst hA
   have e0:=Nat.eq_of_beq_eq_true hb0
   subst e0
   refine ⟨he,ar.slots ?_ (hp _ _ _ _) (by simpa [am] using hu _ _ _ _) (h _ _ _ _ rfl rfl ho)⟩
   exact .cons (RdO.refl _) (.cons (RdO.refl _) (.cons (RdO.refl _) (.cons (RdO.refl _) (.cons (RdO.refl _) (.cons (dg _ hs) .nil)))))
  ·cases hA
 ·cases hA
def Dm (gY:Nat) (gT:Nat) (F:Trm→Par→Nat→Nat→Nat→Nat→Ans):Pat
 | [.ptr 900 0,.ptr 901 0,.ptr 902 0,.ptr 903 0],[(900,.box (.agg [.int .i64 k,.str g,.str q,.int .i64 z,.lst .str ns (some 904),.lst .str vs (some 905),.lst (.st .shape) ss (some 906),.lst (.st .term) ps (some 907),.int .i64 pp])),(901,.box (.ptr 908 0)),(902,.box (.fn gY' [.ptr 901 0,.ptr 900 0])),(903,.box (.fn gT' [.ptr 900 0,.ptr 901 0])),(904,.tail .str mn),(905,.tail .str mv),(906,.tail (.st .shape) ms),(907,.tail (.st .term) mp),(908,.box c)]=>
  (match Nat.beq gY' gY,Nat.beq gT' gT,arg (.st .par) c with | true,true,some s=>some (F ⟨k,g,q,z,ns,vs,ss,ps,pp⟩ s mn mv ms mp) | _,_,_=>none)
 | _,_=>none
def sWay (gY:Nat) (gT:Nat) (x:Trm) (c:AV) (mn mv ms mp:Nat):List (Nat × SObj):=
 [(900,.box (.agg [.int .i64 (x).kind,.str (x).pkg,.str (x).name,.int .i64 (x).n,.lst .str (x).names (some 904),.lst .str (x).vars (some 905),.lst (.st .shape) (x).shapes (some 906),.lst (.st .term) (x).parts (some 907),.int .i64 (x).pos])),(901,.box (.ptr 908 0)),(902,.box (.fn gY [.ptr 901 0,.ptr 900 0])),(903,.box (.fn gT [.ptr 900 0,.ptr 901 0])),(904,.tail .str mn),(905,.tail .str mv),(906,.tail (.st .shape) ms),(907,.tail (.st .term) mp),(908,.box c)]
theorem Fo {gY:Nat} {gT:Nat} {F:Trm→Par→Nat→Nat→Nat→Nat→Ans} (he:au P f) (hp:∀x s mn mv ms mp,(F x s mn mv ms mp).pan=none) (hu:∀x s mn mv ms mp,∀i∈[900,901,902,903,904,905,906,907,908],i∈am (F x s mn mv ms mp).upd)
  (h:∀x s mn mv ms mp,True→(∀q,(F x s mn mv ms mp).ob=some q→q)→ar P f [.ptr 900 0,.ptr 901 0,.ptr 902 0,.ptr 903 0] (sWay gY gT x (.st .par s) mn mv ms mp) (F x s mn mv ms mp)):ad P f (Dm gY gT F):=by
 intro args S A hA ho _
 unfold Dm at hA
 split at hA
 ·split at hA
  ·rename_i hb0 hb1 hs
   simp only [Xs] at hA
   subst hA
   have e0:=Nat.eq_of_beq_eq_true hb0
   subst e0
   have e1:=Nat.eq_of_beq_eq_true hb1
   subst e1
   refine ⟨he,ar.slots ?_ (hp _ _ _ _ _ _) (by simpa [am] using hu _ _ _ _ _ _) (h _ _ _ _ _ _ trivial ho)⟩
   exact .cons (RdO.refl _) (.cons (RdO.refl _) (.cons (RdO.refl _) (.cons (RdO.refl _) (.cons (RdO.refl _) (.cons (RdO.refl _) (.cons (RdO.refl _) (.cons (RdO.refl _) (.cons (dg _ hs) .nil))))))))
  ·cases hA
 ·cases hA
def zY (gC:Nat) (gY:Nat) (F:Trm→Str→Str→Par→Ans):Pat
 | [.ptr 900 0,.str b,.str e,.fn gC' [.ptr 901 0,.ptr 902 0,.ptr 903 0]],[(900,.box c),(901,.box (.agg [.int .i64 k,.str g,.str q,.int .i64 z,.nils,.nils,.nils,.nils,.int .i64 pp])),(902,.box (.ptr 900 0)),(903,.box (.fn gY' [.ptr 902 0,.ptr 901 0]))]=>
  (match Nat.beq gC' gC,Nat.beq gY' gY,arg (.st .par) c with | true,true,some s=>some (F ⟨k,g,q,z,[],[],[],[],pp⟩ b e s) | _,_,_=>none)
 | _,_=>none
def Gl (gC:Nat) (gY:Nat) (x:Trm) (c:AV):List (Nat × SObj):=
 [(900,.box c),(901,.box (.agg [.int .i64 (x).kind,.str (x).pkg,.str (x).name,.int .i64 (x).n,.nils,.nils,.nils,.nils,.int .i64 (x).pos])),(902,.box (.ptr 900 0)),(903,.box (.fn gY [.ptr 902 0,.ptr 901 0]))]
theorem Dn {gC:Nat} {gY:Nat} {F:Trm→Str→Str→Par→Ans} (he:au P f) (hp:∀x b e s,(F x b e s).pan=none) (hu:∀x b e s,∀i∈[900,901,902,903],i∈am (F x b e s).upd)
  (h:∀x b e s,x.names=[]→x.vars=[]→x.shapes=[]→x.parts=[]→(∀q,(F x b e s).ob=some q→q)→ar P f [.ptr 900 0,.str b,.str e,.fn gC [.ptr 901 0,.ptr 902 0,.ptr 903 0]] (Gl gC gY x (.st .par s)) (F x b e s)):ad P f (zY gC gY F):=by
 intro args S A hA ho _
 unfold zY at hA
 split at hA
 ·split at hA
  ·rename_i hb0 hb1 hs
   simp only [Xs] at hA
   subst hA
   have e0:=Nat.eq_of_beq_eq_true hb0
   subst e0
   have e1:=Nat.eq_of_beq_eq_true hb1
   subst e1
   refine ⟨he,ar.slots ?_ (hp _ _ _ _) (by simpa [am] using hu _ _ _ _) (h _ _ _ _ rfl rfl rfl rfl ho)⟩
   exact .cons (dg _ hs) (.cons (RdO.refl _) (.cons (RdO.refl _) (.cons (RdO.refl _) .nil)))
  ·cases hA
 ·cases hA
def zZ (gC:Nat) (gY:Nat) (gT:Nat) (F:Trm→Str→Str→Par→Nat→Ans):Pat
 | [.ptr 900 0,.str b,.str e,.fn gC' [.ptr 901 0,.ptr 902 0,.ptr 903 0,.ptr 904 0]],[(900,.box c),(901,.box (.agg [.int .i64 k,.str g,.str q,.int .i64 z,.nils,.nils,.nils,.lst (.st .term) ps (some 905),.int .i64 pp])),(902,.box (.ptr 900 0)),(903,.box (.fn gY' [.ptr 902 0,.ptr 901 0])),(904,.box (.fn gT' [.ptr 901 0,.ptr 902 0])),(905,.tail (.st .term) mp)]=>
  (match Nat.beq gC' gC,Nat.beq gY' gY,Nat.beq gT' gT,arg (.st .par) c with | true,true,true,some s=>some (F ⟨k,g,q,z,[],[],[],ps,pp⟩ b e s mp) | _,_,_,_=>none)
 | _,_=>none
def Gm (gC:Nat) (gY:Nat) (gT:Nat) (x:Trm) (c:AV) (mp:Nat):List (Nat × SObj):=
 [(900,.box c),(901,.box (.agg [.int .i64 (x).kind,.str (x).pkg,.str (x).name,.int .i64 (x).n,.nils,.nils,.nils,.lst (.st .term) (x).parts (some 905),.int .i64 (x).pos])),(902,.box (.ptr 900 0)),(903,.box (.fn gY [.ptr 902 0,.ptr 901 0])),(904,.box (.fn gT [.ptr 901 0,.ptr 902 0])),(905,.tail (.st .term) mp)]
theorem Do {gC:Nat} {gY:Nat} {gT:Nat} {F:Trm→Str→Str→Par→Nat→Ans} (he:au P f) (hp:∀x b e s mp,(F x b e s mp).pan=none) (hu:∀x b e s mp,∀i∈[900,901,902,903,904,905],i∈am (F x b e s mp).upd)
  (h:∀x b e s mp,x.names=[]→x.vars=[]→x.shapes=[]→(∀q,(F x b e s mp).ob=some q→q)→ar P f [.ptr 900 0,.str b,.str e,.fn gC [.ptr 901 0,.ptr 902 0,.ptr 903 0,.ptr 904 0]] (Gm gC gY gT x (.st .par s) mp) (F x b e s mp)):ad P f (zZ gC gY gT F):=by
 intro args S A hA ho _
 unfold zZ at hA
 split at hA
 ·split at hA
  ·rename_i hb0 hb1 hb2 hs
   simp only [Xs] at hA
   subst hA
   have e0:=Nat.eq_of_beq_eq_true hb0
   subst e0
   have e1:=Nat.eq_of_beq_eq_true hb1
   subst e1
   have e2:=Nat.eq_of_beq_eq_true hb2
   subst e2
   refine ⟨he,ar.slots ?_ (hp _ _ _ _ _) (by simpa [am] using hu _ _ _ _ _) (h _ _ _ _ _ rfl rfl rfl ho)⟩
   exact .cons (dg _ hs) (.cons (RdO.refl _) (.cons (RdO.refl _) (.cons (RdO.refl _) (.cons (RdO.refl _) (.cons (RdO.refl _) .nil)))))
  ·cases hA
 ·cases hA
def qv (gC:Nat) (F:Trm→Str→Str→Par→Ans):Pat
 | [.ptr 900 0,.str b,.str e,.fn gC' [.ptr 901 0,.ptr 902 0]],[(900,.box c),(901,.box (.agg [.int .i64 k,.str g,.str q,.int .i64 z,.nils,.nils,.nils,.nils,.int .i64 pp])),(902,.box (.ptr 900 0))]=>
  (match Nat.beq gC' gC,arg (.st .par) c with | true,some s=>some (F ⟨k,g,q,z,[],[],[],[],pp⟩ b e s) | _,_=>none)
 | _,_=>none
def Dp (gC:Nat) (x:Trm) (c:AV):List (Nat × SObj):=
 [(900,.box c),(901,.box (.agg [.int .i64 (x).kind,.str (x).pkg,.str (x).name,.int .i64 (x).n,.nils,.nils,.nils,.nils,.int .i64 (x).pos])),(902,.box (.ptr 900 0))]
theorem vD {gC:Nat} {F:Trm→Str→Str→Par→Ans} (he:au P f) (hp:∀x b e s,(F x b e s).pan=none) (hu:∀x b e s,∀i∈[900,901,902],i∈am (F x b e s).upd)
  (h:∀x b e s,x.names=[]→x.vars=[]→x.shapes=[]→x.parts=[]→(∀q,(F x b e s).ob=some q→q)→ar P f [.ptr 900 0,.str b,.str e,.fn gC [.ptr 901 0,.ptr 902 0]] (Dp gC x (.st .par s)) (F x b e s)):ad P f (qv gC F):=by
 intro args S A hA ho _
 unfold qv at hA
 split at hA
 ·split at hA
  ·rename_i hb0 hs
   simp only [Xs] at hA
   subst hA
   have e0:=Nat.eq_of_beq_eq_true hb0
   subst e0
   refine ⟨he,ar.slots ?_ (hp _ _ _ _) (by simpa [am] using hu _ _ _ _) (h _ _ _ _ rfl rfl rfl rfl ho)⟩
   exact .cons (dg _ hs) (.cons (RdO.refl _) (.cons (RdO.refl _) .nil))
  ·cases hA
 ·cases hA
def qw (gC:Nat) (F:Trm→Str→Str→Par→Nat→Ans):Pat
 | [.ptr 900 0,.str b,.str e,.fn gC' [.ptr 901 0,.ptr 902 0]],[(900,.box c),(901,.box (.agg [.int .i64 k,.str g,.str q,.int .i64 z,.nils,.nils,.nils,.lst (.st .term) ps (some 903),.int .i64 pp])),(902,.box (.ptr 900 0)),(903,.tail (.st .term) mp)]=>
  (match Nat.beq gC' gC,arg (.st .par) c with | true,some s=>some (F ⟨k,g,q,z,[],[],[],ps,pp⟩ b e s mp) | _,_=>none)
 | _,_=>none
def Dq (gC:Nat) (x:Trm) (c:AV) (mp:Nat):List (Nat × SObj):=
 [(900,.box c),(901,.box (.agg [.int .i64 (x).kind,.str (x).pkg,.str (x).name,.int .i64 (x).n,.nils,.nils,.nils,.lst (.st .term) (x).parts (some 903),.int .i64 (x).pos])),(902,.box (.ptr 900 0)),(903,.tail (.st .term) mp)]
theorem B1 {gC:Nat} {F:Trm→Str→Str→Par→Nat→Ans} (he:au P f) (hp:∀x b e s mp,(F x b e s mp).pan=none) (hu:∀x b e s mp,∀i∈[900,901,902,903],i∈am (F x b e s mp).upd)
  (h:∀x b e s mp,x.names=[]→x.vars=[]→x.shapes=[]→(∀q,(F x b e s mp).ob=some q→q)→ar P f [.ptr 900 0,.str b,.str e,.fn gC [.ptr 901 0,.ptr 902 0]] (Dq gC x (.st .par s) mp) (F x b e s mp)):ad P f (qw gC F):=by
 intro args S A hA ho _
 unfold qw at hA
 split at hA
 ·split at hA
  ·rename_i hb0 hs
   simp only [Xs] at hA
   subst hA
   have e0:=Nat.eq_of_beq_eq_true hb0
   subst e0
   refine ⟨he,ar.slots ?_ (hp _ _ _ _ _) (by simpa [am] using hu _ _ _ _ _) (h _ _ _ _ _ rfl rfl rfl ho)⟩
   exact .cons (dg _ hs) (.cons (RdO.refl _) (.cons (RdO.refl _) (.cons (RdO.refl _) .nil)))
  ·cases hA
 ·cases hA
end
end Go.AL
end
section
namespace Go.Pd
open Go.AL
def bh (l:List Tokn) (a:Int):Par:=if a < 0∨(l.length:Int) < a then ⟨l,a,2,0⟩ else if 4097 < l.length then ⟨l,a,3,0⟩ else ⟨l,a,0,0⟩
def n9 {α:Type} (z:α) (p:α × Par):α × Int × Flt:=if b9 p.2=true then (z,0,⟨p.2.err,p.2.fat⟩) else (p.1,p.2.pos,⟨0,0⟩)
def Aa:Shape:=⟨0,[],[],[],[]⟩
def nc:Trm:=⟨0,[],[],0,[],[],[],[],0⟩
def gP (l:List Tokn) (a:Int):Shape × Int × Flt:=if b9 (bh l a)=true then (Aa,0,⟨(bh l a).err,(bh l a).fat⟩) else n9 Aa (bW (bh l a))
def dM (l:List Tokn) (a:Int):Flt:=if a=(l.length:Int) - 1 then ⟨0,0⟩ else ⟨90,(l.getD a.toNat (dfl (.st .token))).pos⟩
theorem iD {l:List Tokn} {a:Int} (hN:oT l) (h:b9 (bh l a)=false):a8 (bh l a):=by
 unfold bh at h ⊢
 split
 ·rename_i c;rw [if_pos c] at h;exact absurd h (by simp [b9])
 rename_i c
 rw [if_neg c] at h
 split
 ·rename_i d;rw [if_pos d] at h;exact absurd h (by simp [b9])
 rename_i d
 exact ⟨by show 0<=a;omega,by show a<=(l.length:Int);omega,by show l.length<=4097;omega,hN⟩
end Go.Pd
end
section
namespace Go.Pd
open Go.AL
mutual
def szT:Trm→Nat
 | ⟨_,_,_,_,_,_,_,ps,_⟩=>szTL ps+1
def szTL:List Trm→Nat
 | []=>0
 | p ::r=>szT p+szTL r
end
mutual
def countT:Trm→Int→Int × Int
 | ⟨_,_,_,_,_,_,_,ps,_⟩,m=>((countL ps m 1 0).1,(countL ps m 1 0).2+1)
def countL:List Trm→Int→Int→Int→Int × Int
 | [],_,n,d=>(n,d)
 | p ::r,m,n,d=>if m < n then (n,d) else countL r m (n+(countT p (m - n)).1) (max d (countT p (m - n)).2)
end
theorem B2 (t:Trm) (m:Int):countT t m=((countL t.parts m 1 0).1,(countL t.parts m 1 0).2+1):=by cases t;rw [countT]
theorem tW (t:Trm):szT t=szTL t.parts+1:=by cases t;rw [szT]
theorem tX (t:Trm):1<=szT t:=by rw [tW];omega
mutual
theorem countT_bound:∀(t:Trm) (m:Int),0<=m→1<=(countT t m).1/\(countT t m).1<=m+1/\1<=(countT t m).2/\(countT t m).2<=(countT t m).1
 | ⟨k,g,q,z,ns,vs,ss,ps,pp⟩,m,hm=>by
  have h:=countL_bound ps m 1 0 (by omega) (by omega) (by omega) (by omega)
  rw [countT]
  exact ⟨h.1,h.2.1,by show 1<=(countL ps m 1 0).2+1;omega,by show (countL ps m 1 0).2+1<=_;omega⟩
theorem countL_bound:∀(l:List Trm) (m n d:Int),1<=n→n<=m+1→0<=d→d+1<=n→1<=(countL l m n d).1/\(countL l m n d).1<=m+1/\0<=(countL l m n d).2/\(countL l m n d).2+1<=(countL l m n d).1
 | [],m,n,d,h1,h2,h3,h4=>by rw [countL];exact ⟨h1,h2,h3,h4⟩
 | p ::r,m,n,d,h1,h2,h3,h4=>by
  rw [countL]
  split
  ·exact ⟨h1,h2,h3,h4⟩
  ·have h:=countT_bound p (m - n) (by omega)
   exact countL_bound r m _ _ (by omega) (by omega) (by omega) (by omega)
end
theorem ph:∀{l:List Trm} {t:Trm},t∈l→szT t<=szTL l
 | p ::r,t,h=>by
  rw [szTL]
  rcases List.mem_cons.1 h with e | e
  ·subst e;omega
  ·have:=ph e;omega
def cd {α:Type} (F:α→Bool):List α→Nat→Int
 | [],_=>-1
 | x ::r,k=>if F x=true then cd F r (k+1) else (k:Int)
theorem kM {α:Type} (F:α→Bool):∀(l:List α) (k:Nat),decide (0<=cd F l k)=!l.all F
 | [],_=>rfl
 | x ::r,k=>by
  rw [cd,List.all_cons]
  by_cases h:F x=true
  ·rw [if_pos h,kM F r (k+1),h];rfl
  ·rw [if_neg h]
   have:F x=false:=by simpa using h
   rw [this]
   simp
def bV (s:Shape):Bool:=!decide (s.kind=10)
theorem vE (f:Shape→Bool):∀l:List Shape,allL f l=l.all (allS f)
 | []=>rfl
 | p ::r=>by rw [List.all_cons,←vE f r];rfl
end Go.Pd
end
section
namespace Go.AL
variable [Tabs]
section
variable {P:Program} {f:Nat}
def pfc (τ:Ty) (n g:Nat) (F:den τ→Ans):Pat
 | [a,.fn f [.ptr 900 0]],[(900,.box (.fn h []))]=>(match Nat.beq f n,Nat.beq h g,arg τ a with | true,true,some a=>some (F a) | _,_,_=>none)
 | _,_=>none
theorem kN {τ:Ty} {n g:Nat} {F:den τ→Ans} (he:au P f) (h:∀x,Wf τ x→(∀q,(F x).ob=some q→q)→ar P f [inj τ x,.fn n [.ptr 900 0]] [(900,.box (.fn g []))] (F x)):ad P f (pfc τ n g F):=by
 intro args S A hA ho _
 unfold pfc at hA
 split at hA
 ·split at hA
  ·rename_i hb hc hx
   simp only [Xs] at hA
   subst hA
   have e:=Nat.eq_of_beq_eq_true hb
   subst e
   have e:=Nat.eq_of_beq_eq_true hc
   subst e
   exact ⟨he,ar.args (.cons (Rd.arg hx) (.cons (Rd.refl _) .nil)) (ar.wf fun hw=>h _ hw.one ho)⟩
  ·cases hA
 ·cases hA
def pcl (τ:Ty) (g:Nat) (F:den τ→Ans):Pat
 | [a,.ptr 900 0],[(900,.box (.fn h []))]=>(match Nat.beq h g,arg τ a with | true,some a=>some (F a) | _,_=>none)
 | _,_=>none
theorem tY {τ:Ty} {g:Nat} {F:den τ→Ans} (he:au P f) (h:∀x,Wf τ x→(∀q,(F x).ob=some q→q)→ar P f [inj τ x,.ptr 900 0] [(900,.box (.fn g []))] (F x)):ad P f (pcl τ g F):=by
 intro args S A hA ho _
 unfold pcl at hA
 split at hA
 ·split at hA
  ·rename_i hc hx
   simp only [Xs] at hA
   subst hA
   have e:=Nat.eq_of_beq_eq_true hc
   subst e
   exact ⟨he,ar.args (.cons (Rd.arg hx) (.cons (Rd.refl _) .nil)) (ar.wf fun hw=>h _ hw.one ho)⟩
  ·cases hA
 ·cases hA
end
end Go.AL
end
section
namespace Go.Pd
open Go.AL
def bAt (s:Str) (a:Int):Int:=if a < (s.length:Int) then bI (s.getD a.toNat 0) else 0
def ae (p:Int→Bool) (s:Str) (a:Int):Nat:=((s.drop a.toNat).takeWhile fun b=>p (bI b)).length
def cut (s:Str) (a b:Int):Str:=(s.take b.toNat).drop a.toNat
def nd (r:Str) (k:Nat):Bool:=decide (k < r.length) && decide ((r.getD k 0).toNat / 64=2)
def nU (r:Str) (k:Nat):Nat:=(r.getD k 0).toNat % 64
def pj (c:Nat):Bool:=decide (c < 1114112) && !(decide (55296<=c) && decide (c < 57344))
def ce:Str→Nat
 | []=>0
 | b ::r=>
  if b.toNat < 128 then 1
  else if b.toNat / 32=6/\nd r 0=true then (if 128<=b.toNat % 32 *64+nU r 0 then 2 else 0)
  else if b.toNat / 16=14/\nd r 0=true/\nd r 1=true then
   (if 2048<=b.toNat % 16 *4096+nU r 0 *64+nU r 1/\pj (b.toNat % 16 *4096+nU r 0 *64+nU r 1)=true then 3 else 0)
  else if b.toNat / 8=30/\nd r 0=true/\nd r 1=true/\nd r 2=true then
   (if 65536<=b.toNat % 8 *262144+nU r 0 *4096+nU r 1 *64+nU r 2/\pj (b.toNat % 8 *262144+nU r 0 *4096+nU r 1 *64+nU r 2)=true then 4 else 0)
  else 0
def iE:Nat→Str→Nat→Option Nat
 | 0,_,_=>none
 | f+1,x,k=>if x=[] then none else if ce x=0 then some k else iE f (x.drop (ce x)) (k+ce x)
def cu (x:Str):Option Nat:=iE x.length x 0
structure SC where
 pos:Int
 out:List Tokn
 err:Int
 fat:Int
def bE (c:Int):Bool:=!decide (c=10)
def aD (c:Int):Bool:=bq c || bw c || aK c || decide (c=46) || decide (c=45)
def Dr:Str:=[40,41,123,125,91,93,60,62,61,94,42,44,58,46,47,64,124]
def fG (s:Str):Bool:=decide (s=[60,61]) || decide (s=[62,61]) || decide (s=[45,62]) || (decide (s.length=1) && decide (s.getD 0 0∈Dr))
def f7 (s:Str):Bool:=(s.all fun c=>aK (bI c)) && decide (s.length<=15) && (decide (s=[48]) || !decide (bI (s.getD 0 0)=48))
def splitB (c:UInt8):Str→List Str
 | []=>[[]]
 | b ::r=>if b=c then [] ::splitB c r else match splitB c r with | []=>[[b]] | p ::ps=>(b ::p) ::ps
def bG (s:Str):Bool:=!decide (s=[]) && s.all fun c=>aK (bI c)
def eV (c:Int):Bool:=aK c || bq c || bw c || decide (c=45)
def cv (s:Str):Bool:=!decide (s=[]) && !(bG s && decide (bI (s.getD 0 0)=48) && !decide (s=[48])) && s.all fun c=>eV (bI c)
def bK (s:Str):Int:=s.foldl (fun n c=>10 *n+((c.toNat:Int) - 48)) 0
def dX (s:Str):Bool:=bG s && decide (s.length<=6) && !(decide (1 < s.length) && decide (bI (s.getD 0 0)=48))
def bz (v:Vers):Int:=
 if v.major < 0∨999999 < v.major∨v.minor < 0∨999999 < v.minor∨v.patch < 0∨999999 < v.patch then 40
 else if 24 < v.pre.length then 40 else if v.pre=[] then 0 else if (splitB 46 v.pre).all cv=true then 0 else 40
def aC (s:Str):Str:=s.takeWhile fun b=>!decide (b=45)
def cg (s:Str):Str:=s.drop ((aC s).length+1)
def dI (s:Str):Bool:=decide ((aC s).length < s.length)
def noV:Vers:=⟨0,0,0,[]⟩
def dr (s:Str):Vers:=⟨bK ((splitB 46 (aC s)).getD 0 []),bK ((splitB 46 (aC s)).getD 1 []),bK ((splitB 46 (aC s)).getD 2 []),cg s⟩
def bQ (s:Str):Vers × Int:=
 if ¬(splitB 46 (aC s)).length=3∨dI s=true/\cg s=[] then (noV,40)
 else if (splitB 46 (aC s)).all dX=true then (if bz (dr s)=0 then (dr s,0) else (noV,40))
 else (noV,40)
def eM (e a:Int) (c:SC):Bool × SC:=(false,⟨c.pos,c.out,e,a⟩)
def gE (k:Int) (t:Str) (fr:Int) (c:SC):Bool × SC:=(true,⟨c.pos,c.out++[⟨k,t,fr⟩],c.err,c.fat⟩)
def gK (s:Str) (a b:Int) (c:SC):Bool × SC:=match cu (cut s a b) with | none=>(true,c) | some k=>eM 30 (a+k) c
def bS (c:SC) (a:Int):SC:=⟨a,c.out,c.err,c.fat⟩
def aI (c:Int):Bool:=decide (32<=c) && !decide (c=34) && !decide (c=92)
def gQ (b:Int):Option Int:=if b=110 then some 10 else if b=116 then some 9 else if b=34 then some 34 else if b=92 then some 92 else none
def bZ (s:Str) (fr:Int):Nat→Str→SC→Str × Bool × SC
 | 0,_,c=>([],false,c)
 | n+1,acc,c=>
  if bAt s c.pos < 32 then ([],eM 60 fr c)
  else if bAt s c.pos=34 then (acc,true,bS c (c.pos+1))
  else if bAt s c.pos=92 then
   match gQ (bAt s (c.pos+1)) with
   | none=>([],eM 60 fr c)
   | some x=>bZ s fr n (acc++[UInt8.ofNat x.toNat]) (bS c (c.pos+2))
  else
   match cu (cut s c.pos (c.pos+ae aI s c.pos)) with
   | some k=>([],eM 30 (c.pos+k) (bS c (c.pos+ae aI s c.pos)))
   | none=>bZ s fr n (acc++cut s c.pos (c.pos+ae aI s c.pos)) (bS c (c.pos+ae aI s c.pos))
def cm (s:Str) (c:SC):Str × Bool × SC:=bZ s c.pos (s.length+2) [] (bS c (c.pos+1))
def tZ (t:Str) (e:Int) (c:SC):Bool × SC:=
 if iQ t=true then gE 5 t c.pos (bS c e)
 else if aQ t=true then gE 1 t c.pos (bS c e)
 else if dq t=true then gE 2 t c.pos (bS c e)
 else eM 60 c.pos (bS c e)
def xX (t:Str) (e:Int) (c:SC):Bool × SC:=
 if f7 t=true then gE 3 t c.pos (bS c e)
 else if (bQ t).2=0 then gE 7 t c.pos (bS c e)
 else eM 60 c.pos (bS c e)
def xY (fr:Int) (q:Str × Bool × SC):Bool × SC:=if q.2.1=true then gE 4 q.1 fr q.2.2 else (false,q.2.2)
def fH (s:Str) (p k:Int):Bool:=decide (p+k<=(s.length:Int)) && fG (cut s p (p+k))
def vF (s:Str) (c:SC):Bool × SC:=
 if fH s c.pos 2=true then gE 6 (cut s c.pos (c.pos+2)) c.pos (bS c (c.pos+2))
 else if fH s c.pos 1=true then gE 6 (cut s c.pos (c.pos+1)) c.pos (bS c (c.pos+1))
 else eM 60 c.pos c
def aN (s:Str) (c:SC):Bool × SC:=
 if bq (bAt s c.pos)=true∨bw (bAt s c.pos)=true then tZ (cut s c.pos (c.pos+ae bp s c.pos)) (c.pos+ae bp s c.pos) c
 else if aK (bAt s c.pos)=true then xX (cut s c.pos (c.pos+ae aD s c.pos)) (c.pos+ae aD s c.pos) c
 else if bAt s c.pos=34 then xY c.pos (cm s c)
 else vF s c
def aE (b:Int):Bool:=decide (b=32) || decide (b=10) || decide (b=9) || decide (b=13)
def dK (s:Str):Nat→SC→List Tokn × Flt
 | 0,_=>([],⟨0,0⟩)
 | n+1,c=>
  if c.pos=(s.length:Int) then (c.out++[⟨0,[],(s.length:Int)⟩],⟨0,0⟩)
  else if aE (bAt s c.pos)=true then dK s n (bS c (c.pos+1))
  else if bAt s c.pos=45/\bAt s (c.pos+1)=45 then
   match cu (cut s c.pos (c.pos+ae bE s c.pos)) with
   | some k=>([],⟨30,c.pos+k⟩)
   | none=>dK s n (bS c (c.pos+ae bE s c.pos))
  else if (aN s c).1=true then dK s n (aN s c).2 else ([],⟨(aN s c).2.err,(aN s c).2.fat⟩)
def aU (s:Str):List Tokn × Flt:=if 4096 < s.length then ([],⟨3,4096⟩) else dK s (s.length+2) ⟨0,[],0,0⟩
end Go.Pd
end
section
namespace Go.AL
open Go.Pd
variable [Tabs]
section
variable {P:Program} {f:Nat}
def pLn (F:Str→Int→Nat→Int→Ans):Pat
 | [.ptr 900 0,.int .i64 k],[(900,.box (.agg [.str s,.int .i64 p])),(901,.tail (.st .token) n)]=>some (F s p n k)
 | _,_=>none
theorem GD {F:Str→Int→Nat→Int→Ans} (he:au P f) (h:∀s p n k,(∀q,(F s p n k).ob=some q→q)→ar P f [.ptr 900 0,.int .i64 k] [(900,.box (.agg [.str s,.int .i64 p])),(901,.tail (.st .token) n)] (F s p n k)):ad P f (pLn F):=by
 intro args S A hA ho _
 unfold pLn at hA
 split at hA
 ·simp only [Xs] at hA
  subst hA
  exact ⟨he,h _ _ _ _ ho⟩
 ·cases hA
def pLf (g:Nat) (F:Str→Int→Nat→Ans):Pat
 | [.ptr 900 0,.fn g' []],[(900,.box (.agg [.str s,.int .i64 p])),(901,.tail (.st .token) n)]=>(match Nat.beq g' g with | true=>some (F s p n) | false=>none)
 | _,_=>none
theorem u4 {g:Nat} {F:Str→Int→Nat→Ans} (he:au P f) (h:∀s p n,(∀q,(F s p n).ob=some q→q)→ar P f [.ptr 900 0,.fn g []] [(900,.box (.agg [.str s,.int .i64 p])),(901,.tail (.st .token) n)] (F s p n)):ad P f (pLf g F):=by
 intro args S A hA ho _
 unfold pLf at hA
 split at hA
 ·split at hA
  ·rename_i hb
   have e:=Nat.eq_of_beq_eq_true hb
   subst e
   simp only [Xs] at hA
   subst hA
   exact ⟨he,h _ _ _ ho⟩
  ·cases hA
 ·cases hA
def pC0 (F:Str→SC→Nat→Ans):Pat
 | [.ptr 900 0],[(900,.box (.agg [.str s,.int .i64 p,.lst (.st .token) out (some 901),.int .i64 e,.int .i64 g])),(901,.tail (.st .token) n)]=>some (F s ⟨p,out,e,g⟩ n)
 | _,_=>none
theorem Ds {F:Str→SC→Nat→Ans} (he:au P f) (h:∀s c n,(∀q,(F s c n).ob=some q→q)→ar P f [.ptr 900 0] [(900,.box (.agg [.str s,.int .i64 c.pos,.lst (.st .token) c.out (some 901),.int .i64 c.err,.int .i64 c.fat])),(901,.tail (.st .token) n)] (F s c n)):ad P f (pC0 F):=by
 intro args S A hA ho _
 unfold pC0 at hA
 split at hA
 ·simp only [Xs] at hA
  subst hA
  exact ⟨he,h _ _ _ ho⟩
 ·cases hA
def pC2 (F:Str→SC→Nat→Int→Int→Ans):Pat
 | [.ptr 900 0,.int .i64 a,.int .i64 b],[(900,.box (.agg [.str s,.int .i64 p,.lst (.st .token) out (some 901),.int .i64 e,.int .i64 g])),(901,.tail (.st .token) n)]=>some (F s ⟨p,out,e,g⟩ n a b)
 | _,_=>none
theorem Dt {F:Str→SC→Nat→Int→Int→Ans} (he:au P f) (h:∀s c n a b,(∀q,(F s c n a b).ob=some q→q)→ar P f [.ptr 900 0,.int .i64 a,.int .i64 b] [(900,.box (.agg [.str s,.int .i64 c.pos,.lst (.st .token) c.out (some 901),.int .i64 c.err,.int .i64 c.fat])),(901,.tail (.st .token) n)] (F s c n a b)):ad P f (pC2 F):=by
 intro args S A hA ho _
 unfold pC2 at hA
 split at hA
 ·simp only [Xs] at hA
  subst hA
  exact ⟨he,h _ _ _ _ _ ho⟩
 ·cases hA
def pCt (F:Str→SC→Nat→Int→Str→Int→Ans):Pat
 | [.int .i64 k,.str t,.ptr 900 0,.ptr 901 0],[(900,.box (.ptr 902 0)),(901,.box (.int .i64 fr)),(902,.box (.agg [.str s,.int .i64 p,.lst (.st .token) out (some 903),.int .i64 e,.int .i64 g])),(903,.tail (.st .token) n)]=>some (F s ⟨p,out,e,g⟩ n k t fr)
 | _,_=>none
theorem GE {F:Str→SC→Nat→Int→Str→Int→Ans} (he:au P f) (h:∀s c n k t fr,(∀q,(F s c n k t fr).ob=some q→q)→ar P f [.int .i64 k,.str t,.ptr 900 0,.ptr 901 0] [(900,.box (.ptr 902 0)),(901,.box (.int .i64 fr)),(902,.box (.agg [.str s,.int .i64 c.pos,.lst (.st .token) c.out (some 903),.int .i64 c.err,.int .i64 c.fat])),(903,.tail (.st .token) n)] (F s c n k t fr)):ad P f (pCt F):=by
 intro args S A hA ho _
 unfold pCt at hA
 split at hA
 ·simp only [Xs] at hA
  subst hA
  exact ⟨he,h _ _ _ _ _ _ ho⟩
 ·cases hA
end
end Go.AL
end
