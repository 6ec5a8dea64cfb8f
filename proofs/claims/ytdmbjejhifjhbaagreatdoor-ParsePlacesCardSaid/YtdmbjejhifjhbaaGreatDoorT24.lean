/- Plain facts. What the functions' conditions say, proved. The contracts of the functions. No condition. -/
import Derived.Test.YtdmbjejhifjhbaaGreatDoorT23
set_option linter.unusedVariables false
set_option linter.unusedSimpArgs false
set_option linter.unnecessarySimpa false
set_option linter.deprecated false
set_option linter.unusedSectionVars false
set_option maxRecDepth 100000
section
namespace Go.Pd
open Go.AL
def cq (l:List Tokn) (p:Int):Bool:=l.any fun k=>decide (k.pos=p) && !decide (k.kind=0)
mutual
def standT (l:List Tokn) (fr:Int):Trm→Bool
 | ⟨_,_,_,_,_,_,_,ps,pp⟩=>cq l pp && !decide (pp < fr) && standTL l pp ps
def standTL (l:List Tokn) (fr:Int):List Trm→Bool
 | []=>true
 | p ::r=>standT l fr p && standTL l fr r
end
theorem oS (l:List Tokn) (p:Int):∀r:List Trm,standTL l p r=r.all (standT l p)
 | []=>rfl
 | a ::r=>by rw [List.all_cons,←oS l p r];rw [standTL]
theorem im (l:List Tokn) (t:Trm) (fr:Int):standT l fr t=((cq l t.pos && !decide (t.pos < fr)) && standTL l t.pos t.parts):=by
 cases t
 rw [standT]
def dZ (l:List Tokn):Prop:=∀i j:Nat,i<=j→j < l.length→(l.getD i (dfl (.st .token))).pos<=(l.getD j (dfl (.st .token))).pos
theorem nv {l:List Tokn} {t:Trm} {p q:Int} (h:standT l p t=true) (hq:q<=p):standT l q t=true:=by
 rw [im] at h ⊢
 simp only [Bool.and_eq_true,Bool.not_eq_true',decide_eq_false_iff_not] at h ⊢
 exact ⟨⟨h.1.1,by omega⟩,h.2⟩
theorem EV {l:List Tokn} (hs:dZ l) {a b:Int} (h0:0<=a) (hab:a<=b) (hb:b<=(l.length:Int)):(eL l a).pos<=(eL l b).pos:=by
 unfold eL
 by_cases h:b < (l.length:Int)
 ·rw [if_pos h,if_pos (by omega)]
  exact hs _ _ (by omega) (by omega)
 ·rw [if_neg h]
  by_cases h2:a < (l.length:Int)
  ·rw [if_pos h2,if_neg (by omega)]
   exact hs _ _ (by omega) (by omega)
  ·rw [if_neg h2]
   exact Int.le_refl _
theorem Goes.err {s s':Par} (h:Goes s s') (e:s'.err=0):s.err=0:=by
 by_cases k:s.err=0
 ·exact k
 ·have:=h.le
  rw [tQ k] at this
  have:=cP e
  omega
theorem Goes.peek {s s':Par} (hs:dZ s.toks) (hi:a8 s) (h:Goes s s') (e:s'.err=0):(ao s).pos<=(ao s').pos:=by
 have e0:=h.err e
 have h1:=h.le
 obtain ⟨i0,i1,_⟩:=hi
 obtain ⟨j0,j1,_⟩:=h.good
 rw [h.toks] at j1
 simp only [rem,e,e0,if_true,h.toks] at h1
 unfold ao
 rw [h.toks]
 exact EV hs i0 (by omega) j1
theorem wX {l:List Tokn} {a:Int} (h0:0<=a) (h:¬(eL l a).kind=0):cq l (eL l a).pos=true:=by
 have hl:=fF h
 unfold cq
 rw [List.any_eq_true]
 refine ⟨eL l a,?_,by simp [h]⟩
 unfold eL
 rw [if_pos hl]
 exact eU l _ _ (by omega)
section
variable {l:List Tokn}
def PP (l:List Tokn) (p:Int) (t:Trm):Prop:=t.pos=p/\∀x∈t.parts,standT l p x=true
theorem PP.stand {p:Int} {t:Trm} (h:PP l p t) (hp:cq l p=true):standT l p t=true:=by
 rw [im,h.1,hp,oS]
 simp only [Int.lt_irrefl,decide_false,Bool.not_false,Bool.and_true,Bool.true_and,List.all_eq_true]
 exact h.2
def k8 (l:List Tokn) (n:Nat) (R:Par→Trm × Par):Prop:=∀s,s.toks=l→a8 s→rem s < n→(R s).2.err=0→standT l (ao s).pos (R s).1=true
def oe (l:List Tokn) (n:Nat) (p:Int) (one:Trm→Par→Trm × Par):Prop:=
 ∀x s,s.toks=l→a8 s→s.err=0→rem s<=n→p<=(ao s).pos→(one x s).2.err=0→PP l p x→PP l p (one x s).1
theorem PP.add {p:Int} {t u:Trm} (h:PP l p t) (hu:standT l p u=true):PP l p (cA t u):=by
 refine ⟨h.1,fun x hx=>?_⟩
 rcases List.mem_append.1 (show x∈t.parts++[u] from hx) with k | k
 ·exact h.2 x k
 ·rw [List.mem_singleton.1 k];exact hu
theorem rv {n:Nat} {p:Int} {R:Par→Trm × Par} (h:k8 l (n+1) R):oe l n p (aq R):=fun x s hs hi _ hn hp he hx=>
 hx.add (nv (h s hs hi (by omega) he) hp)
theorem rx {n:Nat} {p:Int} {one:Trm→Par→Trm × Par} (hl:dZ l) (hr:ek one n) (h:oe l n p one) (btw en:Str):∀(k:Nat) (x:Trm) (s:Par),s.toks=l→a8 s→rem s<=n→rem s < k+1→p<=(ao s).pos→
  (bc btw en one k x s).2.err=0→PP l p x→PP l p (bc btw en one k x s).1
 | 0,x,s,_,_,_,_,_,_,hx=>hx
 | k+1,x,s,hs,hi,hn,hk,hp,he,hx=>by
  simp only [bc] at he ⊢
  by_cases b:b9 s=true
  ·rw [if_pos b];exact hx
  rw [if_neg b] at he ⊢
  have h0:s.err=0:=dC.1 (by simpa using b)
  obtain ⟨g,e⟩:=hr x s hi h0 hn
  by_cases c:isF en (one x s).2=true
  ·rw [if_pos c] at he ⊢
   exact h x s hs hi h0 hn hp he hx
  rw [if_neg c] at he ⊢
  have gm:=g.trans (bF (t:=btw) g.good)
  have gl:=nS hr btw en k (one x s).1 (aj btw (one x s).2) gm.good (Nat.le_trans gm.le hn)
  have em:=gl.err he
  have eo:=(bF (t:=btw) g.good).err em
  have gp:=Goes.peek (by rw [hs];exact hl) hi gm em
  exact rx hl hr h btw en k _ _ (gm.toks.trans hs) gm.good (Nat.le_trans gm.le hn) (by
   have:=e.then (bF (t:=btw) g.good)
   have:=cP h0
   have:=cP em
   rcases e.then (bF (t:=btw) g.good) with q | q <;> omega) (by omega) he (h x s hs hi h0 hn hp eo hx)
theorem iJ {n:Nat} {p:Int} {one:Trm→Par→Trm × Par} (hl:dZ l) (hr:ek one n) (h:oe l n p one) (btw en:Str) {x:Trm} {s:Par} (hs:s.toks=l) (hi:a8 s) (hn:rem s<=n) (hp:p<=(ao s).pos)
  (he:(ab btw en one x s).2.err=0) (hx:PP l p x):PP l p (ab btw en one x s).1:=by
 unfold ab at he ⊢
 by_cases c:isF en s=true
 ·rw [if_pos c];exact hx
 rw [if_neg c] at he ⊢
 refine rx hl hr h btw en _ x s hs hi hn ?_ hp he hx
 obtain ⟨i0,i1,_⟩:=hi
 unfold rem
 split <;> omega
theorem og {p:Int} {a:Str} {t:Trm} {s:Par} (h:PP l p t):PP l p (eI a t s).1:=h
theorem Cv {n:Nat} {p:Int}:oe l n p az:=fun _ _ _ _ _ _ _ _ hx=>hx
theorem Cw {n:Nat} {p:Int} {R:Par→Trm × Par} (hl:dZ l) (hR:eh R n) (h:k8 l n R):oe l n p (ai R):=fun x s hs hi h0 hn hp he hx=>by
 have m1:=dE (ns:=x.names) hi
 have m2:=m1.then (ak (t:=[40]) m1.good)
 have m3:=m2.then (bY (k:=1) m2.good (by decide))
 have m4:=m3.then (gc (a:=[58]) (t:=cK (bu x (bP x.names s).1) (b6 1 (aj [40] (bP x.names s).2)).1.text) m3.good)
 have m5:=m4.then (ak (t:=[41]) m4.good)
 have m6:=m5.then (ak (t:=[45,62]) m5.good)
 have m7:=hR.moves m6.good (m6.lt hn h0)
 have e6:=m7.goes.err he
 exact PP.add (t:=(eI [58] (cK (bu x (bP x.names s).1) (b6 1 (aj [40] (bP x.names s).2)).1.text) (b6 1 (aj [40] (bP x.names s).2)).2).1) hx
  (nv (h _ (m6.goes.toks.trans hs) m6.good (m6.lt hn h0) he) (Int.le_trans hp (m6.goes.peek (by rw [hs];exact hl) hi e6)))
theorem wY {n:Nat} {p:Int} {R:Par→Trm × Par} (hl:dZ l) (hR:eh R n) (h:k8 l n R):oe l n p (ah R):=fun x s hs hi h0 hn hp he hx=>by
 have m1:=dE (ns:=x.names) hi
 have m2:=m1.then (ak (t:=[61]) m1.good)
 have m3:=hR.moves m2.good (m2.lt hn h0)
 have e2:=m3.goes.err he
 exact PP.add (t:=bu x (bP x.names s).1) hx
  (nv (h _ (m2.goes.toks.trans hs) m2.good (m2.lt hn h0) he) (Int.le_trans hp (m2.goes.peek (by rw [hs];exact hl) hi e2)))
theorem dt {p k x:Int} {a b:Str} {ns vs:List Str} {ss:List Shape}:PP l p ⟨k,a,b,x,ns,vs,ss,[],p⟩:=⟨rfl,fun x hx=>by cases hx⟩
theorem oh {p k x:Int} {a b:Str} {ns vs:List Str} {ss:List Shape} {u:Trm} (h:standT l p u=true):PP l p ⟨k,a,b,x,ns,vs,ss,[u],p⟩:=⟨rfl,fun y hy=>by rw [List.mem_singleton.1 hy];exact h⟩
theorem cI {n:Nat} {R:Par→Trm × Par} (hl:dZ l) (hR:eh R n) (h:k8 l n R) {s s':Par} (hs:s.toks=l) (hi:a8 s) (g:Goes s s') (hn:rem s' < n) (he:(R s').2.err=0):standT l (ao s).pos (R s').1=true:=
 nv (h s' (g.toks.trans hs) g.good hn he) (g.peek (by rw [hs];exact hl) hi ((hR s' g.good hn).1.err he))
theorem wZ {n:Nat} {R:Par→Trm × Par} (hl:dZ l) (hR:eh R n) (h:k8 l n R) {s s':Par} (hs:s.toks=l) (hi:a8 s) (g:Goes s s') (hn:rem s' < n) (he:(cU R s').2.err=0) :
  ∀x∈(cU R s').1,standT l (ao s).pos x=true:=by
 have m1:=ak (t:=[40]) g.good
 have m2:=hR.moves m1.good (Nat.lt_of_le_of_lt m1.goes.le hn)
 have e2:=(ak (t:=[41]) m2.good).goes.err he
 intro x hx
 rw [List.mem_singleton.1 (show x∈[(R (aj [40] s')).1] from hx)]
 exact cI hl hR h hs hi (g.trans m1.goes) (Nat.lt_of_le_of_lt m1.goes.le hn) e2
theorem Am {s:Par} (h:¬b9 s=true):s.err=0:=dC.1 (by simpa using h)
theorem EW {e a:Int} {s:Par} (he:¬e=0):¬(cy e a s).err=0:=by
 unfold cy
 split
 ·exact he
 ·rename_i h;exact h
def kZ (l:List Tokn) (p:Int) (q:Trm × Par):Prop:=q.2.err=0→standT l p q.1=true
theorem bN {p:Int} {c:Prop} [Decidable c] {q r:Trm × Par} (h1:c→kZ l p q) (h2:¬c→kZ l p r):kZ l p (if c then q else r):=by
 split
 ·rename_i h;exact h1 h
 ·rename_i h;exact h2 h
theorem lW {t:Str} {s:Par} (hs:s.toks=l) (hi:a8 s) (h:isF t s=true):cq l (ao s).pos=true:=by
 have:=wX hi.1 (vu h)
 rw [hs] at this
 unfold ao
 rw [hs]
 exact this
theorem pq {s:Par} (hs:s.toks=l) (hi:a8 s) (h:¬(ao s).kind=0):cq l (ao s).pos=true:=by
 have:=wX hi.1 h
 rw [hs] at this
 unfold ao
 rw [hs]
 exact this
theorem zu {n:Nat} {R:Par→Trm × Par} (hl:dZ l) (hR:eh R n) (h:k8 l n R) {s:Par} (hs:s.toks=l) (hi:a8 s) (hn:rem s < n+1):kZ l (ao s).pos (dB R s):=by
 unfold dB
 refine bN (fun b e=>absurd e (cb.1 b)) (fun b=>?_)
 have h0:=Am b
 refine bN (fun c _=>dt.stand (pq hs hi (by rw [c];decide))) (fun _=>?_)
 refine bN (fun c _=>dt.stand (pq hs hi (by rw [c];decide))) (fun _=>?_)
 refine bN (fun c=>?_) (fun _=>?_)
 ·have k:=pq hs hi (by rw [c];decide)
  exact bN (fun _ _=>dt.stand k) (fun _ _=>dt.stand k)
 refine bN (fun c _=>dt.stand (lW hs hi c)) (fun _=>?_)
 refine bN (fun c _=>dt.stand (lW hs hi c)) (fun _=>?_)
 refine bN (fun c=>?_) (fun _=>?_)
 ·have k:=lW hs hi c
  have m:=aJ hi c
  have r:=aR hi c
  have m2:=hR.moves m.good (by omega)
  refine bN (fun d e=>?_) (fun d e=>?_)
  ·have m3:=aJ m2.good d
   have m4:=gD m3.good
   have e1:=m3.goes.err (m4.goes.err ((ak (t:=[41]) m4.good).goes.err e))
   exact (oh (cI hl hR h hs hi m.goes (by omega) e1)).stand k
  ·have e1:=(ak (t:=[41]) m2.good).goes.err e
   exact cI hl hR h hs hi m.goes (by omega) e1
 refine bN (fun c e=>?_) (fun _=>?_)
 ·have k:=lW hs hi c
  have m:=aJ hi c
  have r:=aR hi c
  have gl:=aW (iR hR) [44] [125] (⟨8,[],[],0,[],[],[],[],(ao s).pos⟩:Trm) m.good (by omega)
  exact (iJ hl (iR hR) (wY hl hR h) [44] [125] (m.goes.toks.trans hs) m.good (by omega) (m.goes.peek (by rw [hs];exact hl) hi (gl.err e)) e dt).stand k
 have inn:∀(k:Int) (hk:¬k=0) (q:Int) (t:Str),isF t s=true→kZ l (ao s).pos ((⟨q,[],(b6 k (aA s)).1.text,0,[],[],[],(cU R (b6 k (aA s)).2).1,(ao s).pos⟩:Trm),(cU R (b6 k (aA s)).2).2):=fun k hk q t c e=>by
  have m:=aJ hi c
  have r:=aR hi c
  have m2:=m.then (bY (k:=k) m.good hk)
  have hle:=(bY (k:=k) m.good hk).goes.le
  exact PP.stand (p:=(ao s).pos) ⟨rfl,wZ hl hR h hs hi m2.goes (by omega) e⟩ (lW hs hi c)
 refine bN (fun c=>inn 1 (by decide) 10 _ c) (fun _=>?_)
 refine bN (fun c=>inn 2 (by decide) 16 _ c) (fun _=>?_)
 refine bN (fun c=>inn 2 (by decide) 17 _ c) (fun _=>?_)
 exact fun e=>absurd e (EW (by decide))
theorem mB {n:Nat} {R:Par→Trm × Par} (hl:dZ l) (hR:eh R n) (h:k8 l n R) {p:Int} (hk:cq l p=true):∀(k:Nat) (t:Trm) (s:Par),s.toks=l→a8 s→rem s < n+1→p<=(ao s).pos→standT l p t=true→
  kZ l p (fQ R p k t s)
 | 0,t,s,_,_,_,_,ht=>fun _=>ht
 | k+1,t,s,hs,hi,hn,hp,ht=>by
  rw [fQ]
  refine bN (fun _ _=>ht) (fun b=>?_)
  refine bN (fun c e=>?_) (fun _=>?_)
  ·have m:=aJ hi c
   have r:=aR hi c
   have hq:=cP (dP c).2
   obtain ⟨j,rfl⟩:∃j,n=j+1:=⟨n - 1,by omega⟩
   have g:=aW (df hR) [44] [41] (⟨7,[],[],0,[],[],[],[t],p⟩:Trm) m.good (by omega)
   have gp:=ij hR p k (ab [44] [41] (aq R) (⟨7,[],[],0,[],[],[],[t],p⟩:Trm) (aA s)).1 _ g.good (by have:=g.le;omega)
   have eg:=gp.err e
   have ps:dZ s.toks:=by rw [hs];exact hl
   have hm:=m.goes.peek ps hi (g.err eg)
   have hg:=(m.goes.trans g).peek ps hi eg
   have hpp:=iJ hl (df hR) (rv h) [44] [41] (m.goes.toks.trans hs) m.good (by omega) (Int.le_trans hp hm) eg (oh (k:=7) (x:=0) (a:=[]) (b:=[]) (ns:=[]) (vs:=[]) (ss:=[]) ht)
   exact mB hl hR h hk k _ _ ((m.goes.trans g).toks.trans hs) g.good (by have:=g.le;omega) (Int.le_trans hp hg) (hpp.stand hk) e
  refine bN (fun c e=>?_) (fun _ _=>ht)
  have m:=aJ hi c
  have m2:=m.then (bY (k:=1) m.good (by decide))
  have gp:=ij hR p k (⟨9,[],(b6 1 (aA s)).1.text,0,[],[],[],[t],p⟩:Trm) _ m2.good (by have:=m2.goes.le;omega)
  have eg:=gp.err e
  have hg:=m2.goes.peek (by rw [hs];exact hl) hi eg
  exact mB hl hR h hk k _ _ (m2.goes.toks.trans hs) m2.good (by have:=m2.goes.le;omega) (Int.le_trans hp hg) ((oh ht).stand hk) e
theorem x9 {n:Nat} {R:Par→Trm × Par} (hl:dZ l) (hR:eh R n) (h:k8 l n R) {s:Par} (hs:s.toks=l) (hi:a8 s) (hn:rem s < n+1):kZ l (ao s).pos (fE R s):=by
 intro e
 have m:=jP hR hi hn
 have gp:=ij hR (ao s).pos (s.toks.length+2) (dB R s).1 _ m.good (by have:=m.goes.le;omega)
 have ea:=gp.err e
 have e0:=m.goes.err ea
 have ta:=zu hl hR h hs hi hn ea
 have hg:=m.goes.peek (by rw [hs];exact hl) hi ea
 have hk:cq l (ao s).pos=true:=pq hs hi (fun hk=>by
  have h1:=jP hR hi hn
  have h2:=h1.goes.cap s.pos (by exact hk) (Int.le_refl _)
  have h3:=h1.eats
  obtain ⟨i0,i1,_⟩:=h1.good
  obtain ⟨j0,j1,_⟩:=hi
  rw [h1.goes.toks] at i1
  simp only [jm,rem,ea,e0,if_true,h1.goes.toks] at h3
  omega)
 exact mB hl hR h hk _ _ _ (m.goes.toks.trans hs) m.good (by have:=m.goes.le;omega) hg ta e
theorem ry (hl:dZ l):∀n,k8 l n (a7 n)
 | 0=>fun s _ _ h=>absurd h (Nat.not_lt_zero _)
 | n+1=>fun s hs hi hn=>by
  have hR:=dj n
  have h:=ry hl n
  have ps:dZ s.toks:=by rw [hs];exact hl
  have e2:∀{s':Par} {t:Trm} {a:Str},a8 s'→(eI a t s').2.err=0→s'.err=0:=fun i e=>(gc i).goes.err e
  show kZ l (ao s).pos (lR (a7 n) s)
  unfold lR
  refine bN (fun c e=>?_) (fun _=>?_)
  ·have k:=lW hs hi c
   have m:=aJ hi c
   have r:=aR hi c
   have m2:=m.then (ak (t:=[40]) m.good)
   have l1:=(ak (t:=[40]) m.good).goes.le
   have g:=aW (jn n) [44] [41] (⟨6,[],[],0,[],[],[],[],(ao s).pos⟩:Trm) m2.good (by omega)
   have l2:=g.le
   have m3:=ak (t:=[45,62]) g.good
   have l3:=m3.goes.le
   have m4:=hR.moves m3.good (by omega)
   have e3:=m4.goes.err e
   have e4:=m3.goes.err e3
   have hm:=m2.goes.peek ps hi (g.err e4)
   have hpp:=iJ hl (jn n) Cv [44] [41] (m2.goes.toks.trans hs) m2.good (by omega) hm e4 (dt (k:=6) (x:=0) (a:=[]) (b:=[]) (ns:=[]) (vs:=[]) (ss:=[]))
   exact (hpp.add (cI hl hR h hs hi ((m2.goes.trans g).trans m3.goes) (by omega) e)).stand k
  refine bN (fun c e=>?_) (fun _=>?_)
  ·have k:=lW hs hi c
   have m:=aJ hi c
   have r:=aR hi c
   have a:=bY (k:=1) m.good (by decide)
   have b:=m.then (a.then (ak (t:=[61]) a.good))
   have lb:=(a.then (ak (t:=[61]) a.good)).goes.le
   have p1:=hR.moves b.good (by omega)
   have q:=p1.then (ak (t:=[105,110]) p1.good)
   have lq:=q.goes.le
   have p2:=hR.moves q.good (by omega)
   have eq:=p2.goes.err e
   have e1:=(ak (t:=[105,110]) p1.good).goes.err eq
   exact ((dt.add (cI hl hR h hs hi b.goes (by omega) e1)).add (cI hl hR h hs hi (b.then q).goes (by omega) e)).stand k
  refine bN (fun c e=>?_) (fun _=>?_)
  ·have k:=lW hs hi c
   have m:=aJ hi c
   have r:=aR hi c
   have p1:=hR.moves m.good (by omega)
   have b:=p1.then (ak (t:=[116,104,101,110]) p1.good)
   have lb:=b.goes.le
   have p2:=hR.moves b.good (by omega)
   have d:=p2.then (ak (t:=[101,108,115,101]) p2.good)
   have ld:=d.goes.le
   have p3:=hR.moves d.good (by omega)
   have e3:=e2 p3.good e
   have ed:=p3.goes.err e3
   have e2':=(ak (t:=[101,108,115,101]) p2.good).goes.err ed
   have eb:=p2.goes.err e2'
   have e1:=(ak (t:=[116,104,101,110]) p1.good).goes.err eb
   exact (og (((dt.add (cI hl hR h hs hi m.goes (by omega) e1)).add (cI hl hR h hs hi (m.then b).goes (by omega) e2')).add (cI hl hR h hs hi ((m.then b).then d).goes (by omega) e3))).stand k
  refine bN (fun c e=>?_) (fun _=>?_)
  ·have k:=lW hs hi c
   have m:=aJ hi c
   have r:=aR hi c
   have p1:=hR.moves m.good (by omega)
   have b:=p1.then (ak (t:=[111,102]) p1.good)
   have d:=b.then (ak (t:=[123]) b.good)
   have ld:=d.goes.le
   have g:=aW (jo hR) [124] [125] (aq (a7 n) ⟨13,[],[],0,[],[],[],[],(ao s).pos⟩ (aA s)).1 d.good (by omega)
   have eg:=e2 g.good e
   have ed:=g.err eg
   have e1:=(ak (t:=[111,102]) p1.good).goes.err ((ak (t:=[123]) b.good).goes.err ed)
   have hm:=(m.then d).goes.peek ps hi ed
   have hp1:PP l (ao s).pos (aq (a7 n) ⟨13,[],[],0,[],[],[],[],(ao s).pos⟩ (aA s)).1:=dt.add (cI hl hR h hs hi m.goes (by omega) e1)
   exact (og (iJ hl (jo hR) (Cw hl hR h) [124] [125] ((m.then d).goes.toks.trans hs) d.good (by omega) hm eg hp1)).stand k
  refine bN (fun c e=>?_) (fun _=>x9 hl hR h hs hi hn)
  have k:=lW hs hi c
  have m:=aJ hi c
  have r:=aR hi c
  have hp:=cP (dP c).2
  obtain ⟨j,rfl⟩:∃j,n=j+1:=⟨n - 1,by omega⟩
  have g:=aW (df hR) [44] [93] (⟨11,[],[],0,[],[],[],[],(ao s).pos⟩:Trm) m.good (by omega)
  have eg:=e2 g.good e
  have hm:=m.goes.peek ps hi (g.err eg)
  exact (og (iJ hl (df hR) (rv h) [44] [93] (m.goes.toks.trans hs) m.good (by omega) hm eg dt)).stand k
end
def zw (l:List Tokn) (a:Int):Prop:=dZ l/\∀t∈l,t.pos<=a
theorem zw.add {l:List Tokn} {a:Int} {t:Tokn} (h:zw l a) (ht:a<=t.pos):zw (l++[t]) t.pos:=by
 have hl:(l++[t]).length=l.length+1:=by simp
 have gl:∀i:Nat,i < l.length→(l++[t]).getD i (dfl (.st .token))=l.getD i (dfl (.st .token)):=fun i hi=>by
  rw [List.getD_eq_getElem?_getD,List.getElem?_append_left hi,←List.getD_eq_getElem?_getD]
 have ge:(l++[t]).getD l.length (dfl (.st .token))=t:=by simp [List.getD_eq_getElem?_getD]
 refine ⟨fun i j hij hj=>?_,fun x hx=>?_⟩
 ·by_cases c:j < l.length
  ·rw [gl i (by omega),gl j c];exact h.1 i j hij c
  ·have ej:j=l.length:=by omega
   subst ej
   rw [ge]
   by_cases d:i < l.length
   ·rw [gl i d];exact Int.le_trans (h.2 _ (eU l i _ d)) ht
   ·rw [show i=l.length by omega,ge];exact Int.le_refl _
 ·rcases List.mem_append.1 hx with k | k
  ·exact Int.le_trans (h.2 x k) ht
  ·rw [List.mem_singleton.1 k];exact Int.le_refl _
theorem zw.le {l:List Tokn} {a b:Int} (h:zw l a) (hab:a<=b):zw l b:=⟨h.1,fun t ht=>Int.le_trans (h.2 t ht) hab⟩
theorem gW (s:Str):∀(n:Nat) (c:SC),0<=c.pos→c.pos<=(s.length:Int)→(s.length:Int) < c.pos+(n:Int)→zw c.out c.pos→(dK s n c).2.err=0→dZ (dK s n c).1
 | 0,c,h0,h1,h2,_,_=>by omega
 | n+1,c,h0,h1,h2,ho,h=>by
  rw [dK] at h ⊢
  by_cases a:c.pos=(s.length:Int)
  ·rw [if_pos a]
   exact (ho.add (t:=⟨0,[],(s.length:Int)⟩) (by show c.pos<=(s.length:Int);omega)).1
  rw [if_neg a] at h ⊢
  have hlt:c.pos < (s.length:Int):=by omega
  by_cases b:aE (bAt s c.pos)=true
  ·rw [if_pos b] at h ⊢
   exact gW s n _ (by show 0<=c.pos+1;omega) (by show c.pos+1<=_;omega) (by show _ < c.pos+1+(n:Int);omega) (ho.le (by show c.pos<=c.pos+1;omega)) h
  rw [if_neg b] at h ⊢
  by_cases d:bAt s c.pos=45/\bAt s (c.pos+1)=45
  ·rw [if_pos d] at h ⊢
   have hw:=cQ (pr:=bE) h0 h1
   have hh:=bT (pr:=bE) h0 hlt (by rw [←jQ hlt,d.1];rfl)
   cases hb:cu (cut s c.pos (c.pos+(ae bE s c.pos:Int))) with
   | some k=>rw [hb] at h;exact absurd (show (30:Int)=0 from h) (by decide)
   | none=>
    rw [hb] at h
    exact gW s n _ (by show 0<=c.pos+_;omega) hw (by show _ < c.pos+_+(n:Int);omega) (ho.le (by show c.pos<=c.pos+(ae bE s c.pos:Int);omega)) h
  rw [if_neg d] at h ⊢
  by_cases e:(aN s c).1=true
  ·rw [if_pos e] at h ⊢
   obtain ⟨t1,t2,t3⟩:=fJ h0 hlt e
   obtain ⟨t,g1,_,g3⟩:=oN h0 hlt e
   refine gW s n _ (by omega) t2 (by omega) ?_ h
   rw [g1]
   exact (ho.add (t:=t) (by omega)).le (by omega)
  ·rw [if_neg e] at h
   exact absurd h (by
    have:(aN s c).1=false:=by simpa using e
    exact mo h0 hlt this)
theorem uF {s:Str} (h:(aU s).2.err=0):dZ (aU s).1:=by
 unfold aU at h ⊢
 split at h
 ·exact absurd h (by decide)
 ·rename_i x
  rw [if_neg x]
  exact gW s (s.length+2) ⟨0,[],0,0⟩ (by show (0:Int)<=0;omega) (by show (0:Int)<=_;omega) (by show _ < (0:Int)+((s.length+2:Nat):Int);omega) ⟨fun i j _ hj=>absurd hj (Nat.not_lt_zero _),fun t ht=>by cases ht⟩ h
theorem zx {l:List Tokn} {t:Trm} {p:Int} (h:standT l p t=true):standT l t.pos t=true:=by
 rw [im] at h ⊢
 simp only [Bool.and_eq_true,Int.lt_irrefl,decide_false,Bool.not_false] at h ⊢
 exact ⟨⟨h.1.1,trivial⟩,h.2⟩
theorem rT {l:List Tokn} (hN:oT l) (hl:dZ l) (h:(bB l 0).2.2.err=0):standT l (bB l 0).1.pos (bB l 0).1=true:=by
 unfold bB at h ⊢
 by_cases b:b9 (bh l 0)=true
 ·rw [if_pos b] at h
  exact absurd h (cb.1 b)
 rw [if_neg b] at h ⊢
 have b':b9 (bh l 0)=false:=by simpa using b
 have g:=iD hN b'
 obtain ⟨e1,e2⟩:=o7 b'
 have key:∀q:Trm × Par,q.1=(a7 5000 (bh l 0)).1→(q.2.err=0→(a7 5000 (bh l 0)).2.err=0)→(n9 nc q).2.2.err=0→standT l (n9 nc q).1.pos (n9 nc q).1=true:=by
  intro q h1 h2 h3
  unfold n9 at h3 ⊢
  by_cases c:b9 q.2=true
  ·rw [if_pos c] at h3
   exact absurd h3 (cb.1 c)
  rw [if_neg c,h1]
  exact zx (ry hl 5000 _ e1 g (by have:=nT g;omega) (h2 (Am c)))
 unfold Ac at h ⊢
 refine key _ ?_ ?_ h
 ·split
  ·rfl
  split <;> rfl
 ·intro e
  split at e
  ·exact e
  split at e
  ·unfold cy at e
   split at e
   ·assumption
   ·exact e
  ·exact e
theorem rU {s:Str} (h:(iH s).2.err=0):(aU s).2.err=0/\standT (aU s).1 (iH s).1.pos (iH s).1=true:=by
 unfold iH qQ at h ⊢
 by_cases a:(aU s).2.err=0
 ·rw [if_pos a] at h ⊢
  refine ⟨a,?_⟩
  by_cases b:(bB (aU s).1 0).2.2.err=0
  ·rw [if_pos b] at h ⊢
   by_cases c:(dM (aU s).1 (bB (aU s).1 0).2.1).err=0
   ·rw [if_pos c]
    exact rT (mq a) (uF a) b
   ·rw [if_neg c] at h
    exact absurd h c
  ·rw [if_neg b] at h
   exact absurd h b
 ·rw [if_neg a] at h
  exact absurd h a
end Go.Pd
end
section
open Go Go.AL Go.Pd
namespace Go.AL.Seat
theorem zy (n:Nat) (t:Trm) (l:List Tokn) (p:Int) (ht:Wf (.st .term) t) (hl:Wf (.lst (.st .token)) l) (hn:szT t<=n+1) :
  let A:=(0:Int);let B:=false=false/\t=t/\True;let C:=t=t/\l=l/\p=p/\B;let D:=(↑(List.length l):Int);let E:=(1:Int);let F:=dfl (Ty.st SN.token);let G:=True/\false=standT l p t/\True;let H:=t=t/\l=l/\p=p/\false=false/\B;let I:=(↑(List.length t.parts):Int);let J:=dfl (Ty.st SN.term);(∃(x:Nat),x<=List.length l/\false=cq (List.take x l) t.pos/\A=(↑x:Int)/\C)/\∀(x:Nat),let K:=(↑x:Int);let L:=List.take x l;let M:=inR IntKind.i64 (K+E);let N:=A<=K/\K<D;let O:=List.getD l (Int.toNat K) F;let P:=cq L t.pos=cq L t.pos/\K=K/\H;x<=List.length l→if decide (K<D)=true then if cq L t.pos=true then M/\∃(y:Nat),y<=List.length l/\List.length l - y<List.length l - x/\true=cq (List.take y l) t.pos/\K+E=(↑y:Int)/\C else N/\if decide (O.pos=t.pos)=true then N/\M/\∃(y:Nat),y<=List.length l/\List.length l - y<List.length l - x/\(!decide (O.kind=A))=cq (List.take y l) t.pos/\K+E=(↑y:Int)/\C else M/\∃(y:Nat),y<=List.length l/\List.length l - y<List.length l - x/\false=cq (List.take y l) t.pos/\K+E=(↑y:Int)/\C else if (!cq L t.pos)=true then G else if decide (t.pos<p)=true then G else (∃(x_1:Nat),(x_1<=List.length t.parts/\standT l p t=standTL l t.pos (List.drop x_1 t.parts))/\A=(↑x_1:Int)/\P)/\∀(x_1:Nat),let Q:=(↑x_1:Int);let R:=List.getD t.parts (Int.toNat Q) J;x_1<=List.length t.parts/\standT l p t=standTL l t.pos (List.drop x_1 t.parts)→if decide (Q<I)=true then (A<=Q/\Q<I)/\szT R<=n/\if (!standT l t.pos R)=true then G else inR IntKind.i64 (Q+E)/\∃(y:Nat),(y<=List.length t.parts/\standT l p t=standTL l t.pos (List.drop y t.parts))/\List.length t.parts - y<List.length t.parts - x_1/\Q+E=(↑y:Int)/\P else True/\true=standT l p t/\True:=by
 conv=>zeta
 have ln:=hl.len
 have lp:=ht.term_parts.len
 have hz:=tW t
 simp only [Int.toNat_natCast,eq_self,true_and,and_true]
 refine ⟨⟨0,Nat.zero_le _,rfl,rfl⟩,?_⟩
 intro k h1
 refine a6 (fun h=>?_) (fun h=>?_)
 ·replace h:=Xo h
  have hk:k < l.length:=by omega
  have hs:cq (l.take (k+1)) t.pos=(cq (l.take k) t.pos || (decide ((l.getD k (dfl (.st .token))).pos=t.pos) && !decide ((l.getD k (dfl (.st .token))).kind=0))):=by
   rw [nR l k (dfl (.st .token)) hk];unfold cq;rw [List.any_append];simp
  refine a6 (fun a=>?_) (fun a=>?_)
  ·exact ⟨cp hk ln,k+1,by omega,by omega,by rw [hs,a];rfl,by omega⟩
  have a:cq (l.take k) t.pos=false:=by simpa using a
  refine ⟨by omega,a6 (fun b=>?_) (fun b=>?_)⟩
  ·exact ⟨by omega,cp hk ln,k+1,by omega,by omega,by rw [hs,a,b];simp,by omega⟩
  ·have b:decide ((l.getD k (dfl (.st .token))).pos=t.pos)=false:=by simpa using b
   exact ⟨cp hk ln,k+1,by omega,by omega,by rw [hs,a,b];rfl,by omega⟩
 ·have e:k=l.length:=by
   have:¬((k:Int) < (l.length:Int)):=fun e=>h (Xd e)
   omega
  subst e
  rw [List.take_length]
  refine a6 (fun a=>?_) (fun a=>?_)
  ·have a:cq l t.pos=false:=by simpa using a
   rw [im,a];rfl
  have a:cq l t.pos=true:=by simpa using a
  refine a6 (fun b=>?_) (fun b=>?_)
  ·rw [im,a,b];rfl
  have b:decide (t.pos < p)=false:=by simpa using b
  refine ⟨⟨0,⟨Nat.zero_le _,by rw [im,a,b];rfl⟩,rfl⟩,?_⟩
  rintro j ⟨j1,j2⟩
  refine a6 (fun h=>?_) (fun h=>?_)
  ·replace h:=Xo h
   have hj:j < t.parts.length:=by omega
   have hm:=ph (eU t.parts j (dfl (.st .term)) hj)
   rw [bf t.parts j (dfl (.st .term)) hj] at j2
   simp only [standTL] at j2
   refine ⟨by omega,by omega,?_⟩
   cases e:standT l t.pos (t.parts.getD j (dfl (.st .term)))
   ·rw [e] at j2;rw [j2];simp
   ·simp only [e,Bool.true_and] at j2
    exact ⟨cp hj lp,j+1,⟨by omega,j2⟩,by omega,by omega⟩
  ·have e:j=t.parts.length:=by
    have:¬((j:Int) < (t.parts.length:Int)):=fun e=>h (Xd e)
    omega
   subst e
   rw [j2,List.drop_length];rfl
theorem oY (G:Str→Trm × Flt) (s:Str) (hs:Wf .str s) (hst:(G s).2.err=0→(aU s).2.err=0/\standT (aU s).1 (G s).1.pos (G s).1=true) :
  let A:=G s;let B:=True/\true=true/\True;let C:=True/\false=true/\True;if (!decide (A.2.err=(0:Int)))=true then B else if (!!decide ((aU s).2.err=(0:Int)))=true then szT A.1<=szT A.1/\if standT (aU s).1 A.1.pos A.1=true then B else C else C:=by
 conv=>zeta
 refine a6 (fun _=>⟨trivial,rfl,trivial⟩) (fun h=>?_)
 have h:(G s).2.err=0:=by simpa using h
 obtain ⟨h1,h2⟩:=hst h
 refine a6 (fun _=>?_) (fun k=>absurd (by simp [h1]) k)
 refine ⟨Nat.le_refl _,?_⟩
 rw [h2]
 exact a6 (fun _=>⟨trivial,rfl,trivial⟩) (fun k=>absurd rfl k)
end Go.AL.Seat
end
section
open Go Go.AL Go.Proofs Go.Shelf Go.Pd
namespace Go.AL.Seat
open Go.Proofs.Tryz
variable [Tabs]
variable [SeatLaid]
theorem rz:au prog 23:=ee func23
theorem rV (n:Nat) (t:Trm) (l:List Tokn) (p:Int) (ht:Wf (.st .term) t) (hl:Wf (.lst (.st .token)) l) (hn:szT t<=n+1) (hA:ad prog 23 (p3 (.st .term) (.lst (.st .token)) (.int .i64) fun t l p=>⟨some (szT t<=n),none,.bool (standT l p t),[]⟩)):ar prog 23 [.st .term t,.lst (.st .token) l none,.int .i64 p] [] (.ret (.bool (standT l p t))):=
 g0 (sc (hA) sn) ⟨[(3,fun S0=>⟨Nat,fun k=>k<=l.length,fun k=>[(7,.bool (cq (l.take k) t.pos)),(8,.int .i64 k)],fun _=>[],fun k=>l.length - k⟩),(9,fun S0=>⟨Nat,fun k=>k<=t.parts.length/\standT l p t=standTL l t.pos (t.parts.drop k),fun k=>[(9,.int .i64 k)],fun _=>[],fun k=>t.parts.length - k⟩)],[],[]⟩ func23 (zy n t l p ht hl hn)
theorem xa:∀n:Nat,ad prog 23 (p3 (.st .term) (.lst (.st .token)) (.int .i64) fun t l p=>⟨some (szT t<=n),none,.bool (standT l p t),[]⟩):=by
 intro n
 induction n with
 | zero=>exact Gf rz fun t l p _ _ _ ho=>absurd (ho _ rfl) (by have:=tX t;omega)
 | succ n ih=>exact Gf rz fun t l p ht hl _ ho=>rV n t l p ht hl (ho _ rfl) ih
theorem mC (G:Str→Trm × Flt) (s:Str) (hs:Wf .str s) (hst:(G s).2.err=0→(aU s).2.err=0/\standT (aU s).1 (G s).1.pos (G s).1=true) (hG:ad prog 20 (p1 .str fun s=>.ret (.tup [.st .term (G s).1,.st .fault (G s).2]))):ar prog 6 [.str s] [] (.ret (.bool true)):=
 g0 (sc (hG) (sc (zt) (sc zr (sc (xa (szT (G s).1)) sn)))) a0 func6 (oY G s hs hst)
end Go.AL.Seat
end
section
namespace Go.Proofs.YtdmbjejhifjhbaaGreatDoor.JParsePlaces
open Go.AL Go.AL.Seat Go.Pd Go.ChangeShapes Go.WideShapes Go.RowKit Go.Proofs.YtdmbjejhifjhbaaGreatDoor.Join
set_option maxRecDepth 1000000
theorem par:Tryz.f6.params=#[9]:=by kernel_rfl
theorem res:Tryz.f6.resultTypes=#[4]:=by kernel_rfl
theorem spec {H:Type} (ds:List (DataW H)) (hd:ds.length=1):Rows.parsePlacesSpec.fn H ds={results:=[.lit (.bool true)],args:=ds}:=by
 match ds,hd with
 | [d0],_=>rfl
theorem EX (H:Type) (enc:TypeId × Value→H) (W:World) (base:Nat) (args:Array Value) (ds gs:List (DataW H)) (before:List MemPlace)
  (hval:∀(j:Nat) t v,Tryz.f6.params[j]?=some t→args[j]?=some v→Value.okWide Tryz.prog W .any base t v)
  (hW:DataW.Whole enc Tryz.prog Tryz.f6.params.toList Rows.parsePlacesSpec.vars false W args.toList ds gs before) (hL:laidMet Tryz.prog laid W) (hsh:W.ShapedOpen Tryz.prog) :
  Calls Tryz.prog 6 args W fun e W'=>∃v,e=.returned v/\Rows.parsePlacesSpec.post enc Tryz.prog Tryz.f6 false true false false W args v W':=by
 letI:Tabs:=qp W
 haveI:SeatLaid:=DD hL hsh
 have hW':=hW
 obtain ⟨p,q,hA,hV,_,_,_⟩:=hW
 rw [par] at hA hval
 obtain ⟨v0,vs0,d0,ds0,p0,q0,hargs0,rfl,rfl,h0,r0⟩:=trodAll_cons hA
 obtain ⟨rfl,rfl,rfl⟩:=trodAll_nil r0
 obtain rfl:args=#[v0]:=by
  have:=congrArg List.toArray hargs0
  simpa using this
 obtain ⟨x0,hx0⟩:=D7 undS (hval 0 9 v0 rfl rfl) h0
 refine (AQ (mC iH x0 ⟨_,_,hx0⟩ (fun h=>rU h) nk) (fun b o v h=>h.2) (VL.cons hx0 .nil)).mono fun e W' ⟨he,hb⟩=>?_
 subst he
 refine ⟨_,rfl,D6 (tb:=4) Fu (fun t ht=>?_) rfl (fun ds hd=>spec ds ?_) res undB hW' hb⟩
 ·rw [par] at ht
  have ht:t∈[9]:=ht
  simp only [List.mem_cons,List.not_mem_nil,or_false] at ht
  rcases ht with rfl
  ·exact ⟨GY,Nat.lt_trans (by decide) GZ⟩
 ·rw [par] at hd
  exact hd
theorem reads (os:Os) {H:Type} (enc:TypeId × Value→H):(DataW.whole enc Tryz.prog ((lj os).forCall (fun _ _=>0) ⟨#[],#[.string ⟨#[]⟩],[]⟩).memory Tryz.f6.params.toList Rows.parsePlacesSpec.vars false [Value.string ⟨#[]⟩] 8).map (fun x=>(x.1,x.2.1))=some ([.lit (.string [])],[]):=by kernel_rfl
theorem GR (os:Os) (started:os.Started) (H:Type) (enc:TypeId × Value→H) (F:Stop.Interp) :
  ReturnsInHanded {} Tryz.checked os 6 .any ((OpenSpec.ofChange Rows.parsePlacesSpec).preRow enc Tryz.prog Tryz.f6 Rows.parsePlacesRow.domain false Rows.parsePlacesRow.laid) (((OpenSpec.ofChange Rows.parsePlacesSpec).at F).post enc Tryz.prog Tryz.f6 false true false false):=by
 obtain ⟨⟨y1,y2,y3⟩,hx,hy⟩:=Option.map_eq_some_iff.1 (reads os enc)
 simp only [Prod.mk.injEq] at hy
 obtain ⟨rfl,rfl⟩:=hy
 refine returnsInHanded_of_row (C:=Tryz.checked) (s:=OpenSpec.ofChange Rows.parsePlacesSpec) own started (by kernel_rfl) Tryz.func6
  (witness_row_atRef (enc:=enc) (C:=Tryz.checked) false (lj os) #[.string ⟨#[]⟩] rfl (by kernel_rfl) (by kernel_rfl) (by kernel_rfl)
   (OpenSpec.preRow_of_cond 8 hx (by kernel_rfl) (fun k hk=>by cases hk) (by kernel_rfl) (DE os _))) ?_
 intro W base args ds gs before hval hW _ _ _ hL hsh _
 exact EX H enc W base args ds gs before hval hW hL hsh
theorem c1:(Rows.parsePlacesRow.inPlace ==Tryz.prog.inPlace 6)=true:=by kernel_rfl
theorem c2:(Rows.parsePlacesRow.unfollowed ==Tryz.prog.unfollowed 6)=true:=by kernel_rfl
theorem c3:(Rows.parsePlacesRow.recurses ==Tryz.prog.recurses 6)=true:=by kernel_rfl
theorem c4:(Rows.parsePlacesRow.named ==Tryz.prog.varsNamed 6)=true:=by kernel_rfl
theorem GS:joinedFacts Tryz.prog 6 Tryz.f6 (OpenSpec.ofChange Rows.parsePlacesSpec).bare Rows.parsePlacesRow=true:=by
 unfold joinedFacts
 rw [c1,c2,c3,c4]
 kernel_rfl
theorem said:Rows.ParsePlacesSaid:=
 OpenClaim.holds_of_cond 6 Tryz.f6 rfl rfl rfl rfl rfl rfl rfl ⟨rfl,rfl,rfl,rfl,rfl⟩ rfl rfl rfl rfl rfl (by kernel_rfl) Tryz.func6 GS
  (Xo (by kernel_rfl)) (by unfold Func.isWrapper;first | (rw [if_pos (by decide+kernel)];kernel_rfl) | (rw [if_neg (by decide+kernel)];exact ⟨rfl,rfl⟩))
  (fun os started H enc _ F=>by rw [OpenClaim.pre_eq_preRow];exact GR os started H enc F)
theorem fO (f:FuncId) (fn:Func) (hf:Tryz.pinned.checked.prog.funcNamed "pandect/pandectlaw09.ParsePlaces"=some f) (hfn:Tryz.pinned.checked.prog.funcs[f]?=some fn) :
  true=Tryz.pinned.checked.prog.looks []/\∀(j:Nat) t,fn.params[j]?=some t→Tryz.pinned.checked.prog.wantsStandIn t=false:=by
 obtain rfl:f=6:=Option.some.inj ((show Tryz.prog.funcNamed "pandect/pandectlaw09.ParsePlaces"=some 6 by kernel_rfl).symm.trans hf) |>.symm
 obtain rfl:fn=Tryz.f6:=(Option.some.inj (Tryz.func6.symm.trans hfn)).symm
 refine ⟨by kernel_rfl,fun j t ht=>?_⟩
 rw [par] at ht
 have ht:=Array.mem_of_getElem? ht
 simp only [List.mem_toArray,List.mem_cons,List.not_mem_nil,or_false] at ht
 rcases ht with rfl
 ·exact (show Tryz.prog.wantsStandIn 9=false by kernel_rfl)
theorem card:Rows.ParsePlacesCardSaid:=
 Claim7.holds_tied_plain_at .later [] _ _ _ _ said (fun _ h=>by cases h) (by kernel_rfl) (fun _ h=>by cases h) parsePlaces_row_tie rfl ⟨rfl,rfl⟩ (by kernel_rfl) rfl fO (by kernel_rfl)
end Go.Proofs.YtdmbjejhifjhbaaGreatDoor.JParsePlaces
end
