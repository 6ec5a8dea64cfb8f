/- Plain facts. What the functions' conditions say, proved. No condition. -/
import Derived.Test.YtdmbjejhifjhbaaGreatDoorT22
import Derived.KernelRfl
import Derived.Sort.Walk0
set_option linter.unusedVariables false
set_option linter.unusedSimpArgs false
set_option linter.unnecessarySimpa false
set_option linter.deprecated false
set_option linter.unusedSectionVars false
set_option maxRecDepth 100000
section
namespace Go.Pd
open Go.AL
abbrev st (l:List Tokn) (a:Int):PS:=⟨l,a,0,0⟩
variable {l:List Tokn}
def Rel {α:Type} (l:List Tokn) (p:α × PS) (r:α × Int × Flt):Prop:=if r.2.2.err=0 then p=(r.1,st l r.2.1) else p.2.err=r.2.2.err/\p.2.fat=r.2.2.pos
def Dw (l:List Tokn) (p:PS) (r:Int × Flt):Prop:=if r.2.err=0 then p=st l r.1 else p.err=r.2.err/\p.fat=r.2.pos
def xQ {α:Type} (f:PS→α × PS):Prop:=∀s,¬s.err=0→(f s).2=s
theorem vq (l:List Tokn) (t:Str) (a:Int):isF t (st l a)=cb l a t:=by simp [isF,aV]
theorem vr (t:Str) {s:PS} (h:¬s.err=0):isF t s=false:=by simp [isF,aV,h]
theorem pP (l:List Tokn) (a:Int):aC (st l a)=st l (a+1):=rfl
theorem rQ (l:List Tokn) (e p a:Int):cv e p (st l a)=⟨l,a,e,p⟩:=rfl
theorem oC {e p:Int} {s:PS} (h:¬s.err=0):cv e p s=s:=by simp [cv,h]
theorem tG {t:Str} {s:PS} (h:¬s.err=0):aj t s=s:=by simp [aj,vr t h,oC h]
theorem Dx {k:Int} {s:PS} (h:¬s.err=0):(aS k s).2=s:=by simp [aS,aV,h,oC h]
theorem rR (l:List Tokn) (t:Str) (a:Int):Dw l (aj t (st l a)) (aE l a t):=by
 unfold Dw aj aE
 rw [vq]
 split
 ·rfl
 ·simp [rQ,jh,ao]
theorem xR (l:List Tokn) (k:Int) (a:Int):Rel l ((aS k (st l a)).1.text,(aS k (st l a)).2) (bQ l a k):=by
 unfold Rel aS bQ
 simp only [ao,aV]
 split
 ·simp_all [pP]
 ·simp_all [rQ,jh]
theorem Dy (l:List Tokn) (k:Int) (a:Int) (h:(bQ l a k).2.2.err=0):(aS k (st l a)).1=bB l a:=by
 unfold aS
 unfold bQ at h
 simp only [ao,aV]
 split at h
 ·simp_all
 ·simp [jh] at h
theorem Dz (l:List Tokn) (ns:List Str) (a:Int):Rel l (aO ns (st l a)) (aG l a ns):=by
 have h:=xR l 1 a
 have h2:=Dy l 1 a
 unfold Rel at h ⊢
 unfold aO aG
 by_cases e:(bQ l a 1).2.2.err=0
 ·rw [if_pos e] at h
  have h1:=congrArg Prod.fst h
  have h3:=congrArg Prod.snd h
  simp only at h1 h3
  rw [h3,h1]
  by_cases m:(bQ l a 1).1∈ns
  ·simp only [e,m,aV,cv,h2 e,decide_true,Bool.not_true,and_self,if_true];simp
  ·simp only [e,m,aV,decide_true,Bool.not_true,and_false,if_false,if_true]
 ·rw [if_neg e] at h
  have hb:¬(aS 1 (st l a)).2.err=0:=by rw [h.1];exact e
  simp only [e,aV,hb,decide_false,Bool.not_false,Bool.true_eq_false,false_and,if_false]
  exact h
theorem tH {σ:Type} {b e:Str} {one:σ→PS→σ × PS} {n:Nat} {x:σ} {s:PS} (h:¬s.err=0):(bS b e one n x s).2=s:=by
 cases n <;> simp [bS,aV,h]
def vt {σ:Type} (l:List Tokn) (one:σ→PS→σ × PS) (r:σ→Int→σ × Int × Flt):Prop:=∀x a,Rel l (one x (st l a)) (r x a)
def rS {σ:Type} (l:List Tokn) (p:σ × PS) (r:σ × Int × Flt):Prop:=if r.2.2.err=0 then p=(r.1,st l (r.2.1+1)) else p.2.err=r.2.2.err/\p.2.fat=r.2.2.pos
theorem rT {σ:Type} {l:List Tokn} {one:σ→PS→σ × PS} {r:σ→Int→σ × Int × Flt} (h:vt l one r) (btw en:Str):∀(n:Nat) (x:σ) (a:Int),
  rS l (bS btw en one n x (st l a)) (cN l r btw en n x a)
 | 0,x,a=>by simp [rS,bS,cN,okF]
 | n+1,x,a=>by
  have h1:=h x a
  simp only [bS,cN]
  have hb:aV (st l a)=false:=rfl
  rw [hb]
  simp only [Bool.false_eq_true,if_false]
  unfold Rel at h1
  by_cases e:(r x a).2.2.err=0
  ·rw [if_pos e] at h1
   rw [h1,if_pos e]
   simp only [vq]
   by_cases f:cb l (r x a).2.1 en=true
   ·simp [f,rS,pP]
   ·rw [if_neg f,if_neg f]
    have h2:=rR l btw (r x a).2.1
    unfold Dw at h2
    by_cases g:(aE l (r x a).2.1 btw).2.err=0
    ·rw [if_pos g] at h2
     rw [h2,if_pos g]
     exact rT h btw en n _ _
    ·rw [if_neg g] at h2
     rw [if_neg g]
     have hk:¬(aj btw (st l (r x a).2.1)).err=0:=by rw [h2.1];exact g
     simp only [rS,if_neg g,tH hk]
     exact h2
  ·rw [if_neg e] at h1
   have hk:¬(one x (st l a)).2.err=0:=by rw [h1.1];exact e
   rw [if_neg e,vr en hk,tG hk]
   simp only [Bool.false_eq_true,if_false,rS,if_neg e,tH hk]
   exact h1
theorem rU {σ:Type} {l:List Tokn} {one:σ→PS→σ × PS} {r:σ→Int→σ × Int × Flt} (h:vt l one r) (btw en:Str) (x:σ) (a:Int) :
  rS l (ad btw en one x (st l a)) (cy l r btw en x a):=by
 unfold ad cy
 rw [vq]
 split
 ·simp [rS,pP]
 ·exact rT h btw en _ x a
theorem Rel.elim {α:Type} {p:α × PS} {r:α × Int × Flt} (h:Rel l p r):(r.2.2.err=0/\p=(r.1,st l r.2.1))∨(¬r.2.2.err=0/\¬p.2.err=0/\p.2.err=r.2.2.err/\p.2.fat=r.2.2.pos):=by
 unfold Rel at h
 split at h
 ·rename_i e;exact .inl ⟨e,h⟩
 ·rename_i e;exact .inr ⟨e,by rw [h.1];exact e,h⟩
theorem Dw.elim {p:PS} {r:Int × Flt} (h:Dw l p r):(r.2.err=0/\p=st l r.1)∨(¬r.2.err=0/\¬p.err=0/\p.err=r.2.err/\p.fat=r.2.pos):=by
 unfold Dw at h
 split at h
 ·rename_i e;exact .inl ⟨e,h⟩
 ·rename_i e;exact .inr ⟨e,by rw [h.1];exact e,h⟩
theorem rS.elim {α:Type} {p:α × PS} {r:α × Int × Flt} (h:rS l p r):(r.2.2.err=0/\p=(r.1,st l (r.2.1+1)))∨(¬r.2.2.err=0/\¬p.2.err=0/\p.2.err=r.2.2.err/\p.2.fat=r.2.2.pos):=by
 unfold rS at h
 split at h
 ·rename_i e;exact .inl ⟨e,h⟩
 ·rename_i e;exact .inr ⟨e,by rw [h.1];exact e,h⟩
theorem Rel.ok {l:List Tokn} {α:Type} {x:α} {a b:Int} {f:Flt} (hf:f.err=0) (h:a=b):Rel l (x,st l a) (x,b,f):=by simp [Rel,hf,h]
theorem Rel.bad {α:Type} {p:α × PS} {x:α} {b:Int} {f:Flt} (hf:¬f.err=0) (h:p.2.err=f.err/\p.2.fat=f.pos):Rel l p (x,b,f):=by simp only [Rel,hf,if_false];exact h
theorem rV {α:Type} {l:List Tokn} {t:Str} {p:α × PS} {r:α × Int × Flt} (h:Rel l p r):Rel l (p.1,aj t p.2) (g8 l t r):=by
 unfold g8
 rcases h.elim with ⟨e,rfl⟩ | ⟨e,hb,h⟩
 ·rw [if_pos e]
  rcases (rR l t r.2.1).elim with ⟨f,g⟩ | ⟨f,_,g⟩
  ·simp only [Rel,f,if_true];rw [g]
  ·exact .bad f g
 ·rw [if_neg e]
  simp only [Rel,if_neg e,tG hb]
  exact h
theorem rW {α:Type} {p:α × PS} {r:α × Int × Flt} (h:rS l p r):Rel l p (hU r):=by
 unfold hU
 rcases h.elim with ⟨e,rfl⟩ | ⟨e,hb,h⟩
 ·rw [if_pos e];exact .ok rfl rfl
 ·rw [if_neg e];simp only [Rel,if_neg e];exact h
theorem Rel.map {α β:Type} (f:α→β) {p:α × PS} {r:α × Int × Flt} (h:Rel l p r):Rel l (f p.1,p.2) (f r.1,r.2.1,r.2.2):=by
 rcases h.elim with ⟨e,rfl⟩ | ⟨e,hb,h⟩
 ·exact .ok e rfl
 ·exact .bad e h
section
variable {l:List Tokn} {R:PS→Shape × PS} {R':Int→SR3}
theorem vu (hK:xQ R):xQ (iT R):=by
 intro s h
 have hb:aV s=true:=by simp [aV,h]
 simp only [iT,hb,vr _ h,Bool.true_eq_false,and_false,if_false,Bool.false_eq_true,oC h]
theorem nJ:∀n,xQ (ag n)
 | 0=>fun s _=>rfl
 | n+1=>vu (nJ n)
theorem nK (hK:xQ R) (h:∀a,Rel l (R (st l a)) (R' a)):vt l (ap R) (bW l R'):=by
 intro x a
 have h1:=rV (l:=l) (t:=[58]) (Dz l x.names a)
 simp only [ap,bW]
 rcases h1.elim with ⟨e,g⟩ | ⟨e,hb,g⟩
 ·rw [if_pos e]
  simp only [Prod.mk.injEq] at g
  obtain ⟨g1,g2⟩:=g
  rw [g1,g2]
  rcases (h (g8 l [58] (aG l a x.names)).2.1).elim with ⟨e2,k⟩ | ⟨e2,kb,k⟩
  ·rw [if_pos e2,k];exact .ok rfl rfl
  ·rw [if_neg e2];exact .bad e2 k
 ·rw [if_neg e]
  have:=hK _ hb
  simp only at this
  exact .bad e (by simp only [this];exact g)
theorem xS (h:∀a,Rel l (R (st l a)) (R' a)):vt l (aw R) (ca R'):=by
 intro x a
 simp only [aw,ca,xP]
 rcases (h a).elim with ⟨e,k⟩ | ⟨e,kb,k⟩
 ·rw [if_pos e,k];exact .ok rfl rfl
 ·rw [if_neg e];exact .bad e k
theorem Aq (hK:xQ R) (h:∀a,Rel l (R (st l a)) (R' a)) (a:Int):Rel l (iT R (st l a)) (kw l R' a):=by
 have hb:aV (st l a)=false:=rfl
 simp only [iT,kw,hb,vq,and_true,ao,pP]
 split
 ·exact .ok rfl rfl
 split
 ·rcases (rR l [47] (a+1)).elim with ⟨e,g⟩ | ⟨e,gb,g⟩
  ·rw [if_pos e,g]
   exact (xR l 2 _).map (co (bB l a).text)
  ·rw [if_neg e]
   refine .bad e ?_
   rw [Dx gb]
   exact g
 split
 ·exact (rV (h (a+1))).map fun x=>(⟨5,[],[],[],[x]⟩:Shape)
 split
 ·exact rW (rU (nK hK h) _ _ _ _)
 split
 ·exact rW (rU (nK hK h) _ _ _ _)
 split
 ·simp only [cr]
  have h1:=rV (l:=l) (t:=[45,62]) (rW (rU (l:=l) (xS h) [44] [41] (⟨8,[],[],[],[]⟩:Shape) (a+1)))
  rcases h1.elim with ⟨e,g⟩ | ⟨e,gb,g⟩
  ·rw [if_pos e]
   simp only [Prod.mk.injEq] at g
   obtain ⟨g1,g2⟩:=g
   rw [g1,g2]
   exact (h _).map fun p=>xP _ p
  ·rw [if_neg e]
   simp only [Rel,if_neg e,aw]
   rw [hK _ gb]
   exact g
 ·simp [Rel,rQ,jh]
theorem oD (l:List Tokn):∀(n:Nat) (a:Int),Rel l (ag n (st l a)) (ai l n a)
 | 0,a=>.ok rfl rfl
 | n+1,a=>Aq (nJ n) (oD l n) a
theorem DA (l:List Tokn) (a:Int):Rel l (aW (st l a)) (dX l a):=by
 simp only [aW,dX]
 rcases (oD l big a).elim with ⟨e,g⟩ | ⟨e,gb,g⟩
 ·rw [g]
  by_cases c:bK (ai l big a).1=0
  ·simp only [aV,c,e,decide_true,Bool.not_true,Bool.false_eq_true,if_false,if_true,not_true_eq_false,and_false];exact .ok e rfl
  ·simp only [aV,c,e,decide_true,Bool.not_true,Bool.false_eq_true,if_false,not_false_eq_true,and_self,if_true,cv,ao];exact .bad c ⟨rfl,rfl⟩
 ·have hb:aV (ag big (st l a)).2=true:=by simp [aV,gb]
  simp only [hb,if_true,e,false_and,if_false]
  exact .bad e g
end
end Go.Pd
end
section
namespace Go.Pd
open Go.AL
def On (l:List Tokn) (a:Int) (f:Flt) (b:Int):Prop:=f.err=0→a < b/\b<=(l.length:Int)
def OnR {α:Type} (l:List Tokn) (n:Nat) (R:Int→α × Int × Flt):Prop:=∀a,0<=a→a<=(l.length:Int)→((l.length:Int) - a).toNat+1 < n→On l a (R a).2.2 (R a).2.1
section
variable {l:List Tokn}
theorem ir {a:Int} {t:Str} (h:cb l a t=true):a < (l.length:Int):=by
 apply f7
 unfold cb at h
 intro k
 rw [k] at h
 simp at h
theorem rX (a:Int):(jh l a).err=90:=rfl
theorem gF {a:Int} {t:Str} (h:(aE l a t).2.err=0):(aE l a t).1=a+1/\a < (l.length:Int):=by
 unfold aE at h ⊢
 by_cases k:cb l a t=true
 ·rw [if_pos k];exact ⟨rfl,ir k⟩
 ·rw [if_neg k] at h;exact absurd h (by rw [rX];decide)
theorem I3 {k:Int} (hk:¬k=0) (a:Int):On l a (bQ l a k).2.2 (bQ l a k).2.1:=by
 unfold bQ
 by_cases h:(bB l a).kind=k
 ·rw [if_pos h];have:=f7 (l:=l) (a:=a) (by omega);exact fun _=>⟨by show a < a+1;omega,by show a+1<=_;omega⟩
 ·rw [if_neg h];intro e;exact absurd e (by rw [rX];decide)
theorem Ar {a:Int} {ns:List Str} (h:(aG l a ns).2.2.err=0):(bQ l a 1).2.2.err=0:=by
 unfold aG at h
 by_cases k:(bQ l a 1).2.2.err=0/\(bQ l a 1).1∈ns
 ·exact k.1
 ·simp only [if_neg k] at h;exact h
theorem xT (a:Int) (ns:List Str):On l a (aG l a ns).2.2 (aG l a ns).2.1:=fun e=>I3 (by decide) a (Ar e)
theorem Jm {α:Type} {R:PS→α × PS} {R':Int→α × Int × Flt} {n:Nat} (hl:l.length<=4097) (hN:dr l) (hs:gf R n) (hr:∀a,Rel l (R (st l a)) (R' a)):OnR l n R':=by
 intro a h0 h1 hn he
 have hrem:∀b:Int,rem (st l b)=((l.length:Int) - b).toNat+1:=fun b=>by simp [rem]
 obtain ⟨g,e⟩:=hs (st l a) ⟨h0,h1,hl,hN⟩ (by rw [hrem];exact hn)
 have h:=hr a
 unfold Rel at h
 rw [if_pos he] at h
 have e2:(R (st l a)).2=st l (R' a).2.1:=by rw [h]
 rw [e2] at g e
 have gg:=g.good
 unfold a8 at gg
 simp only at gg
 unfold jC at e
 rw [hrem,hrem] at e
 omega
theorem nL (hl:l.length<=4097) (hN:dr l) (n:Nat):OnR l n (ai l n):=Jm hl hN (ba n) (oD l n)
end
end Go.Pd
end
section
namespace Go.AL
variable [Tabs]
section
variable {P:Program}
def p4 (τ σ ρ μ:Ty) (F:den τ→den σ→den ρ→den μ→Ans):Pat
 | [a,b,c,d],[]=>(match arg τ a,arg σ b,arg ρ c,arg μ d with | some a,some b,some c,some d=>some (F a b c d) | _,_,_,_=>none)
 | _,_=>none
def p5 (τ σ ρ μ ν:Ty) (F:den τ→den σ→den ρ→den μ→den ν→Ans):Pat
 | [a,b,c,d,e],[]=>(match arg τ a,arg σ b,arg ρ c,arg μ d,arg ν e with | some a,some b,some c,some d,some e=>some (F a b c d e) | _,_,_,_,_=>none)
 | _,_=>none
theorem Jn {f:Nat} {τ σ ρ μ ν:Ty} {F:den τ→den σ→den ρ→den μ→den ν→Ans} (he:ar P f)
  (h:∀x y z u v,Wf τ x→Wf σ y→Wf ρ z→(∀q,(F x y z u v).ob=some q→q)→aq P f [inj τ x,inj σ y,inj ρ z,inj μ u,inj ν v] [] (F x y z u v)):ac P f (p5 τ σ ρ μ ν F):=by
 intro args S A hA ho _
 unfold p5 at hA
 split at hA
 ·split at hA
  ·rename_i x y z u v hx hy hz hu hv
   simp at hA
   subst hA
   exact ⟨he,aq.args (.cons (Rd.arg hx) (.cons (Rd.arg hy) (.cons (Rd.arg hz) (.cons (Rd.arg hu) (.cons (Rd.arg hv) .nil))))) (aq.wf fun hw=>h x y z u v hw.one hw.two hw.three ho)⟩
  ·cases hA
 ·cases hA
end
end Go.AL
end
section
namespace Go.Pd
open Go.AL
def eo (l:List Tokn) (a:Int):Int × Flt:=if a < 0∨(l.length:Int) < a then (0,⟨2,0⟩) else if 4097 < l.length then (0,⟨3,0⟩) else (a,⟨0,0⟩)
def frF (l:List Tokn) (a:Int) (ns:List Str) (k:Nat):Flt:=if (bQ l a 1).2.2.err=0/\(bQ l a 1).1∈ns.take k then ⟨111,(bB l a).pos⟩ else (bQ l a 1).2.2
section
variable {l:List Tokn} {a:Int} {ns:List Str}
theorem Gk:frF l a ns 0=(bQ l a 1).2.2:=by unfold frF;rw [if_neg (by simp)]
theorem Gl {k:Nat} (h:(frF l a ns k).err=0):(bQ l a 1).2.2.err=0/\¬(bQ l a 1).1∈ns.take k/\frF l a ns k=(bQ l a 1).2.2:=by
 unfold frF at h ⊢
 by_cases c:(bQ l a 1).2.2.err=0/\(bQ l a 1).1∈ns.take k
 ·rw [if_pos c] at h;exact absurd h (by show ¬(111:Int)=0;decide)
 ·rw [if_neg c] at h ⊢;exact ⟨h,fun m=>c ⟨h,m⟩,rfl⟩
theorem I4 {k:Nat} (h:(frF l a ns k).err=0) (hk:k < ns.length) (e:ns.getD k []=(bQ l a 1).1):frF l a ns (k+1)=⟨111,(bB l a).pos⟩:=by
 obtain ⟨h1,h2,_⟩:=Gl h
 unfold frF
 rw [if_pos ⟨h1,by rw [eZ ns k [] hk,←e];simp⟩]
theorem Gm {k:Nat} (h:(frF l a ns k).err=0) (hk:k < ns.length) (e:¬ns.getD k []=(bQ l a 1).1):frF l a ns k=frF l a ns (k+1):=by
 obtain ⟨h1,h2,h3⟩:=Gl h
 rw [h3]
 unfold frF
 rw [if_neg (fun c=>by
  have:=c.2
  rw [eZ ns k [] hk] at this
  rcases List.mem_append.1 this with m | m
  ·exact h2 m
  ·simp only [List.mem_singleton] at m;exact e m.symm)]
theorem I5:frF l a ns ns.length=(aG l a ns).2.2:=by unfold frF;rw [List.take_length];rfl
theorem I6 {k:Nat} (h:¬(frF l a ns k).err=0):frF l a ns k=(aG l a ns).2.2:=by
 show _=if (bQ l a 1).2.2.err=0/\(bQ l a 1).1∈ns then (⟨111,(bB l a).pos⟩:Flt) else (bQ l a 1).2.2
 unfold frF at h ⊢
 by_cases c:(bQ l a 1).2.2.err=0/\(bQ l a 1).1∈ns.take k
 ·rw [if_pos c,if_pos ⟨c.1,List.mem_of_mem_take c.2⟩]
 ·rw [if_neg c] at h ⊢
  rw [if_neg (fun m=>h m.1)]
end
section
variable {l:List Tokn} {σ:Type} {r:σ→Int→σ × Int × Flt} {btw en:Str} {k:Nat} {x:σ} {a:Int}
theorem mP (h:¬(r x a).2.2.err=0):cN l r btw en (k+1) x a=r x a:=by rw [cN,if_neg h]
theorem As (h:(r x a).2.2.err=0) (s:cb l (r x a).2.1 en=true):cN l r btw en (k+1) x a=((r x a).1,(r x a).2.1,okF):=by rw [cN,if_pos h,if_pos s]
theorem vv (h:(r x a).2.2.err=0) (s:¬cb l (r x a).2.1 en=true) (d:¬(aE l (r x a).2.1 btw).2.err=0) :
  cN l r btw en (k+1) x a=((r x a).1,(aE l (r x a).2.1 btw).1,(aE l (r x a).2.1 btw).2):=by rw [cN,if_pos h,if_neg s,if_neg d]
theorem vw (h:(r x a).2.2.err=0) (s:¬cb l (r x a).2.1 en=true) (d:(aE l (r x a).2.1 btw).2.err=0) :
  cN l r btw en (k+1) x a=cN l r btw en k (r x a).1 (aE l (r x a).2.1 btw).1:=by rw [cN,if_pos h,if_neg s,if_pos d]
theorem Gn (s:cb l a en=true):cy l r btw en x a=(x,a,okF):=by unfold cy;rw [if_pos s]
theorem Iv (s:¬cb l a en=true):cy l r btw en x a=cN l r btw en (l.length+2) x a:=by unfold cy;rw [if_neg s]
theorem pQ {b:σ × Int × Flt} (h:b.2.2.err=0):hU b=(b.1,b.2.1+1,okF):=by unfold hU;rw [if_pos h]
theorem g9 {b:σ × Int × Flt} (h:¬b.2.2.err=0):hU b=b:=by unfold hU;rw [if_neg h]
theorem lC {t:Str} {b:σ × Int × Flt} (h:b.2.2.err=0):g8 l t b=(b.1,aE l b.2.1 t):=by unfold g8;rw [if_pos h]
theorem oE {t:Str} {b:σ × Int × Flt} (h:¬b.2.2.err=0):g8 l t b=b:=by unfold g8;rw [if_neg h]
end
section
variable {l:List Tokn} {R:Int→SR3} {x:Shape} {a:Int}
theorem rn_1 (h:¬(aG l a x.names).2.2.err=0):bW l R x a=(x,(aG l a x.names).2.1,(aG l a x.names).2.2):=by
 unfold bW;rw [oE h];dsimp only;rw [if_neg h]
theorem rn_2 (h:(aG l a x.names).2.2.err=0) (d:¬(aE l (aG l a x.names).2.1 [58]).2.err=0):bW l R x a=(x,(aE l (aG l a x.names).2.1 [58]).1,(aE l (aG l a x.names).2.1 [58]).2):=by
 unfold bW;rw [lC h];dsimp only;rw [if_neg d]
theorem rn_3 (h:(aG l a x.names).2.2.err=0) (d:(aE l (aG l a x.names).2.1 [58]).2.err=0) (e:¬(R (aE l (aG l a x.names).2.1 [58]).1).2.2.err=0) :
  bW l R x a=(x,(R (aE l (aG l a x.names).2.1 [58]).1).2.1,(R (aE l (aG l a x.names).2.1 [58]).1).2.2):=by
 unfold bW;rw [lC h];dsimp only;rw [if_pos d,if_neg e]
theorem rn_4 (h:(aG l a x.names).2.2.err=0) (d:(aE l (aG l a x.names).2.1 [58]).2.err=0) (e:(R (aE l (aG l a x.names).2.1 [58]).1).2.2.err=0) :
  bW l R x a=(⟨x.kind,x.pkg,x.name,x.names++[(aG l a x.names).1],x.parts++[(R (aE l (aG l a x.names).2.1 [58]).1).1]⟩,(R (aE l (aG l a x.names).2.1 [58]).1).2.1,okF):=by
 unfold bW;rw [lC h];dsimp only;rw [if_pos d,if_pos e]
theorem rp_1 (h:¬(R a).2.2.err=0):ca R x a=(x,(R a).2.1,(R a).2.2):=by unfold ca;rw [if_neg h]
theorem rp_2 (h:(R a).2.2.err=0):ca R x a=(xP x (R a).1,(R a).2.1,okF):=by unfold ca;rw [if_pos h]
end
end Go.Pd
end
section
namespace Go.Pd
open Go.AL
def p0 (A:Ans):Pat
 | [],[]=>some A
 | _,_=>none
theorem Jo [Tabs] {P:Program} {f:Nat} {A:Ans} (he:ar P f) (h:aq P f [] [] A):ac P f (p0 A):=by
 intro args S A' hA _ _
 unfold p0 at hA
 split at hA
 ·simp only [Xs] at hA
  subst hA
  exact ⟨he,h⟩
 ·cases hA
end Go.Pd
end
section
open Go Go.AL Go.Pd
namespace Go.AL.Seat
namespace C30
def A0:=(1:Int)
def B0 (x:Nat × Int)(s:Shape)(m:Int):=(x.1<=List.length s.parts/\A0<=x.2/\x.2<=m+A0/\sizeL (List.drop x.1 s.parts) x.2 m=sizeF s m)
def C0:=(0:Int)
def D0 (x:Nat × Int):=(↑x.1:Int)
def E0 (s:Shape)(x:Nat × Int):=(List.getD s.parts (Int.toNat (D0 x)) (dfl (Ty.st SN.shape)))
end C30
open C30 in
theorem I7 (n:Nat) (s:Shape) (m:Int) (hs:Wf (.st .shape) s) (ho:sz s<=n+1/\0<=m/\m<=1000000) :
  (∃(x:Nat × Int),(B0 x s m)/\A0=x.2/\C0=(D0 x)/\s=s/\m=m/\C0=C0/\s=s/\True)/\∀(x:Nat × Int),x.1<=List.length s.parts/\A0<=x.2/\x.2<=m+A0/\sizeL (List.drop x.1 s.parts) x.2 m=sizeF s m→if decide ((D0 x)<(↑(List.length s.parts):Int))=true then if decide (x.2<=m)=true then (C0<=(D0 x)/\(D0 x)<(↑(List.length s.parts):Int))/\inR IntKind.i64 (m - x.2)/\(sz (E0 s x)<=n/\C0<=m - x.2/\m - x.2<=(1000000:Int))/\inR IntKind.i64 (x.2+sizeF (E0 s x) (m - x.2))/\inR IntKind.i64 ((D0 x)+A0)/\∃(y:Nat × Int),(B0 y s m)/\List.length s.parts - y.1<List.length s.parts - x.1/\x.2+sizeF (E0 s x) (m - x.2)=y.2/\(D0 x)+A0=(D0 y)/\s=s/\m=m/\C0=C0/\s=s/\True else True/\x.2=sizeF s m/\True else True/\x.2=sizeF s m/\True:=by
 delta E0 D0 C0 B0 A0
 have ln:=hs.parts.len
 have hz:=p7 s
 obtain ⟨ho1,ho2,ho3⟩:=ho
 have h0:sizeL s.parts 1 m=sizeF s m:=by cases s;rfl
 simp only [Int.toNat_natCast,eq_self,true_and,and_true]
 refine ⟨⟨(0,1),⟨Nat.zero_le _,by omega,by omega,h0⟩,rfl,rfl⟩,?_⟩
 rintro ⟨k,c⟩ ⟨h1,h2,h3,h4⟩
 simp only at h1 h2 h3 h4 ⊢
 refine a6 (fun hk=>?_) (fun hk=>?_)
 ·replace hk:=Xo hk
  have hk:k < s.parts.length:=by omega
  have hm:=ld (dy s.parts k (dfl (.st .shape)) hk)
  rw [aT s.parts k (dfl (.st .shape)) hk] at h4
  simp only [sizeL] at h4
  refine a6 (fun hc=>?_) (fun hc=>?_)
  ·replace hc:=Xo hc
   rw [if_pos hc] at h4
   have hb:=sizeF_bd (s.parts.getD k (dfl (.st .shape))) (m - c) (by omega)
   exact ⟨by omega,ak (by omega) (by omega),by omega,ak (by omega) (by omega),bN hk ln,(k+1,_),⟨by omega,by simp only;omega,by simp only;omega,h4⟩,by simp only;omega,rfl,rfl⟩
  ·rw [if_neg (fun e=>hc (Xd e))] at h4
   exact h4
 ·replace hk:¬((k:Int) < (s.parts.length:Int)):=fun e=>hk (Xd e)
  have e:k=s.parts.length:=by omega
  subst e
  rw [List.drop_length] at h4
  exact h4
end Go.AL.Seat
end
section
open Go Go.AL Go.Pd
namespace Go.AL.Seat
theorem DB (c:Int)  :
  if decide ((97:Int)<=c)=true then True/\decide (c<=(122:Int))=bJ c/\True else True/\false=bJ c/\True:=by
 simp only [true_and,and_true]
 unfold bJ
 by_cases h:(97:Int)<=c
 ·rw [if_pos (Xd h)];simp [h]
 ·rw [if_neg (by simpa using h)];simp [h]
theorem DC (c:Int)  :
  if decide ((65:Int)<=c)=true then True/\decide (c<=(90:Int))=bP c/\True else True/\false=bP c/\True:=by
 simp only [true_and,and_true]
 unfold bP
 by_cases h:(65:Int)<=c
 ·rw [if_pos (Xd h)];simp [h]
 ·rw [if_neg (by simpa using h)];simp [h]
theorem DD (c:Int)  :
  if decide ((48:Int)<=c)=true then True/\decide (c<=(57:Int))=aM c/\True else True/\false=aM c/\True:=by
 simp only [true_and,and_true]
 unfold aM
 by_cases h:(48:Int)<=c
 ·rw [if_pos (Xd h)];simp [h]
 ·rw [if_neg (by simpa using h)];simp [h]
end Go.AL.Seat
end
section
open Go Go.AL Go.Pd
namespace Go.AL.Seat
namespace C34
def A0 (x:Nat)(s:Str):=(x<=List.length s/\cl s=x+cl (List.drop x s))
def B0 (x:Nat):=(↑x:Int)
def C0 (s:Str):=s=s/\(0:Int)=(0:Int)/\True
def D0 (x:Nat)(s:Str):=((0:Int)<=(B0 x)/\(B0 x)<(↑(List.length s):Int))
def E0 (s:Str)(x:Nat):=(↑(UInt8.toNat (List.getD s (Int.toNat (B0 x)) (0:UInt8))):Int)
def H0 (x:Nat)(s:Str):=inR IntKind.i64 ((B0 x)+(1:Int))/\∃(y:Nat),(A0 y s)/\List.length s - y<List.length s - x/\(B0 x)+(1:Int)=(B0 y)/\(C0 s)
end C34
open C34 in
theorem Gp (s:Str) (hs:Wf .str s) :
  (∃(x:Nat),(A0 x s)/\(0:Int)=(B0 x)/\(C0 s))/\∀(x:Nat),x<=List.length s/\cl s=x+cl (List.drop x s)→if decide ((B0 x)<(↑(List.length s):Int))=true then (D0 x s)/\if bJ (E0 s x)=true then (H0 x s) else (D0 x s)/\if bP (E0 s x)=true then (H0 x s) else (D0 x s)/\if aM (E0 s x)=true then (H0 x s) else (D0 x s)/\if decide ((E0 s x)=(95:Int))=true then (H0 x s) else True/\(B0 x)=(↑(cl s):Int)/\True else True/\(B0 x)=(↑(cl s):Int)/\True:=by
 delta H0 E0 D0 C0 B0 A0
 have ln:=hs.str
 have eb:∀b:UInt8,(b.toNat:Int)=bI b:=fun _=>rfl
 simp only [Int.toNat_natCast,eq_self,true_and,and_true,eb]
 refine ⟨⟨0,⟨Nat.zero_le _,by simp⟩,rfl⟩,?_⟩
 rintro k ⟨h1,h2⟩
 refine a6 (fun h=>?_) (fun h=>?_)
 ·replace h:=Xo h
  have hk:k < s.length:=by omega
  rw [aT s k 0 hk] at h2
  simp only [cl] at h2
  have fin:bA (bI (s.getD k 0))=true→(inR IntKind.i64 ((k:Int)+1)/\∃y:Nat,(y<=s.length/\cl s=y+cl (s.drop y))/\s.length - y < s.length - k/\(k:Int)+1=(y:Int)):=by
   intro e
   rw [if_pos e] at h2
   exact ⟨bN hk ln,k+1,⟨by omega,by omega⟩,by omega,by omega⟩
  have hr:bA (bI (s.getD k 0))=(bJ (bI (s.getD k 0)) || bP (bI (s.getD k 0)) || aM (bI (s.getD k 0)) || decide (bI (s.getD k 0)=95)):=rfl
  refine ⟨by omega,a6 (fun a=>fin (by rw [hr,a];simp)) (fun a=>⟨by omega,a6 (fun b=>fin (by rw [hr,b];simp)) (fun b=>⟨by omega,a6 (fun c=>fin (by rw [hr,c];simp)) (fun c=>⟨by omega,a6 (fun d=>fin (by rw [hr,d];simp)) (fun d=>?_)⟩)⟩)⟩)⟩
  rw [if_neg ?_] at h2
  ·omega
  ·rw [hr];simp only [Bool.not_eq_true] at a b c d;rw [a,b,c,d];simp
 ·replace h:¬((k:Int) < (s.length:Int)):=fun e=>h (Xd e)
  have e:k=s.length:=by omega
  subst e
  rw [List.drop_length] at h2
  simp only [cl] at h2
  omega
end Go.AL.Seat
end
section
open Go Go.AL Go.Pd
namespace Go.AL.Seat
namespace C35
def A0 (x:Nat)(l:List Str)(s:Str):=(x<=List.length l/\decide (s∈l)=decide (s∈List.drop x l))
def B0 (x:Nat):=(↑x:Int)
end C35
open C35 in
theorem Gq (s:Str) (l:List Str) (hl:Wf (.lst .str) l) :
  (∃(x:Nat),(A0 x l s)/\(0:Int)=(B0 x)/\s=s/\l=l/\True)/\∀(x:Nat),x<=List.length l/\decide (s∈l)=decide (s∈List.drop x l)→if decide ((B0 x)<(↑(List.length l):Int))=true then ((0:Int)<=(B0 x)/\(B0 x)<(↑(List.length l):Int))/\if decide (s=List.getD l (Int.toNat (B0 x)) (dfl Ty.str))=true then True/\true=decide (s∈l)/\True else inR IntKind.i64 ((B0 x)+(1:Int))/\∃(y:Nat),(A0 y l s)/\List.length l - y<List.length l - x/\(B0 x)+(1:Int)=(B0 y)/\s=s/\l=l/\True else True/\false=decide (s∈l)/\True:=by
 delta B0 A0
 have ln:=hl.len
 simp only [Int.toNat_natCast,eq_self,true_and,and_true]
 refine ⟨⟨0,⟨Nat.zero_le _,by simp⟩,rfl⟩,?_⟩
 rintro k ⟨h1,h2⟩
 refine a6 (fun h=>?_) (fun h=>?_)
 ·replace h:=Xo h
  have hk:k < l.length:=by omega
  rw [aT l k (dfl .str) hk] at h2
  refine ⟨by omega,a6 (fun a=>?_) (fun a=>?_)⟩
  ·rw [h2,Xo a];simp
  ·refine ⟨bN hk ln,k+1,⟨by omega,?_⟩,by omega,by omega⟩
   rw [h2,decide_eq_decide,List.mem_cons]
   constructor
   ·rintro (h | h)
    ·exact absurd (Xd h) a
    ·exact h
   ·exact Or.inr
 ·replace h:¬((k:Int) < (l.length:Int)):=fun e=>h (Xd e)
  have e:k=l.length:=by omega
  subst e
  rw [h2,List.drop_length];simp
end Go.AL.Seat
end
section
open Go Go.AL Go.Pd
namespace Go.AL.Seat
theorem Gr (s:Str)  :
  True/\decide (s∈[([109,111,100,117,108,101]:Str),([105,109,112,111,114,116]:Str),([112,105,110]:Str),([114,97,110,103,101]:Str),([116,121,112,101]:Str),([111,112,97,113,117,101]:Str),([108,101,116]:Str),([105,110]:Str),([101,120,112,111,114,116]:Str),([102,117,110]:Str),([105,102]:Str),([116,104,101,110]:Str),([101,108,115,101]:Str),([99,97,115,101]:Str),([111,102]:Str),([97,115]:Str),([110,101,119]:Str),([114,97,119]:Str),([116,114,117,101]:Str),([102,97,108,115,101]:Str)])=j9 s/\True:=by
 exact ⟨trivial,rfl,trivial⟩
end Go.AL.Seat
end
section
open Go Go.AL Go.Pd
namespace Go.AL.Seat
namespace C37
def A0 (s:Str):=(↑(List.length s):Int)
def B0 (s:Str):=True/\false=aU s/\True
end C37
open C37 in
theorem Gs (s:Str)  :
  if (!decide (s=[]))=true then if decide ((A0 s)<=(24:Int))=true then ((0:Int)<=(0:Int)/\(0:Int)<(A0 s))/\if bJ (↑(UInt8.toNat (List.getD s (Int.toNat (0:Int)) (0:UInt8))):Int)=true then if decide ((↑(cl s):Int)=(A0 s))=true then True/\(!j9 s)=aU s/\True else (B0 s) else (B0 s) else (B0 s) else (B0 s):=by
 delta B0 A0
 have eb:∀b:UInt8,(b.toNat:Int)=bI b:=fun _=>rfl
 simp only [Int.toNat_natCast,Int.toNat_zero,eq_self,true_and,and_true,eb]
 have hF:aU s=(!decide (s=[]) && decide (s.length<=24) && bJ (bI (s.getD 0 0)) && decide (cl s=s.length) && !j9 s):=by unfold aU;rw [pm]
 refine a6 (fun a=>?_) (fun a=>?_)
 ·have a':decide (s=[])=false:=by simpa using a
  have hpos:0 < s.length:=List.length_pos_iff.2 (of_decide_eq_false a')
  refine a6 (fun b=>?_) (fun b=>?_)
  ·have b':s.length<=24:=by have:=Xo b;omega
   refine ⟨by omega,a6 (fun c=>?_) (fun c=>?_)⟩
   ·refine a6 (fun d=>?_) (fun d=>?_)
    ·have d':cl s=s.length:=by have:=Xo d;omega
     rw [hF,a',c,d'];simp [b']
    ·have d':¬cl s=s.length:=fun e=>d (Xd (by omega))
     rw [hF];simp [d']
   ·simp only [Bool.not_eq_true] at c
    rw [hF,c];simp
  ·have b':¬s.length<=24:=fun e=>b (Xd (by omega))
   rw [hF];simp [b']
 ·have a':decide (s=[])=true:=by simpa using a
  rw [hF,a'];simp
end Go.AL.Seat
end
section
open Go Go.AL Go.Pd
namespace Go.AL.Seat
namespace C38
def A0 (s:Str):=(↑(List.length s):Int)
def B0 (s:Str):=True/\false=cZ s/\True
end C38
open C38 in
theorem DE (s:Str)  :
  if (!decide (s=[]))=true then if decide ((A0 s)<=(24:Int))=true then ((0:Int)<=(0:Int)/\(0:Int)<(A0 s))/\if bP (↑(UInt8.toNat (List.getD s (Int.toNat (0:Int)) (0:UInt8))):Int)=true then True/\decide ((↑(cl s):Int)=(A0 s))=cZ s/\True else (B0 s) else (B0 s) else (B0 s):=by
 delta B0 A0
 have eb:∀b:UInt8,(b.toNat:Int)=bI b:=fun _=>rfl
 simp only [Int.toNat_natCast,Int.toNat_zero,eq_self,true_and,and_true,eb]
 have hF:cZ s=(!decide (s=[]) && decide (s.length<=24) && bP (bI (s.getD 0 0)) && decide (cl s=s.length)):=by unfold cZ;rw [pm]
 refine a6 (fun a=>?_) (fun a=>?_)
 ·have a':decide (s=[])=false:=by simpa using a
  have hpos:0 < s.length:=List.length_pos_iff.2 (of_decide_eq_false a')
  refine a6 (fun b=>?_) (fun b=>?_)
  ·have b':s.length<=24:=by have:=Xo b;omega
   refine ⟨by omega,a6 (fun c=>?_) (fun c=>?_)⟩
   ·rw [hF,a',c]
    simp [b',Int.ofNat_inj]
   ·simp only [Bool.not_eq_true] at c
    rw [hF,c];simp
  ·have b':¬s.length<=24:=fun e=>b (Xd (by omega))
   rw [hF];simp [b']
 ·have a':decide (s=[])=true:=by simpa using a
  rw [hF,a'];simp
end Go.AL.Seat
end
section
open Go Go.AL Go.Pd
namespace Go.AL.Seat
namespace C39
def A0 (x:Nat)(ns:List Str):=(x<=List.length ns/\List.all (List.take x ns) aU=true/\List.Nodup (List.take x ns))
def B0 (x:Nat):=(↑x:Int)
def C0 (x:Nat)(ns:List Str):=((0:Int)<=(B0 x)/\(B0 x)<(↑(List.length ns):Int))
def D0 (x:Nat):=(Int.toNat (B0 x))
def E0:=(dfl Ty.str)
def H0 (x:Nat)(ns:List Str)(n:Int):=(B0 x)=(B0 x)/\ns=ns/\n=n/\true=true/\false=false/\True
end C39
open C39 in
theorem DF (ns:List Str) (n:Int) (hl:Wf (.lst .str) ns) :
  (∃(x:Nat),(A0 x ns)/\(0:Int)=(B0 x)/\ns=ns/\n=n/\True)/\∀(x:Nat),x<=List.length ns/\List.all (List.take x ns) aU=true/\List.Nodup (List.take x ns)→if decide ((B0 x)<(↑(List.length ns):Int))=true then (C0 x ns)/\if (!aU (List.getD ns (D0 x) E0))=true then True/\false=gK ns n/\True else (∃(x_1:Nat),((B0 x_1)<=(B0 x)/\¬List.getD ns (D0 x) E0∈List.take x_1 ns)/\(0:Int)=(B0 x_1)/\(H0 x ns n))/\∀(x_1:Nat),(B0 x_1)<=(B0 x)/\¬List.getD ns (D0 x) E0∈List.take x_1 ns→if decide ((B0 x_1)<(B0 x))=true then (C0 x_1 ns)/\(C0 x ns)/\if decide (List.getD ns (D0 x_1) E0=List.getD ns (D0 x) E0)=true then True/\false=gK ns n/\True else inR IntKind.i64 ((B0 x_1)+(1:Int))/\∃(y:Nat),((B0 y)<=(B0 x)/\¬List.getD ns (D0 x) E0∈List.take y ns)/\Int.toNat (B0 x) - y<Int.toNat (B0 x) - x_1/\(B0 x_1)+(1:Int)=(B0 y)/\(H0 x ns n) else inR IntKind.i64 ((B0 x)+(1:Int))/\∃(y:Nat),(A0 y ns)/\List.length ns - y<List.length ns - x/\(B0 x)+(1:Int)=(B0 y)/\ns=ns/\n=n/\True else True/\decide ((↑(List.length ns):Int)=n)=gK ns n/\True:=by
 delta H0 E0 D0 C0 B0 A0
 have ln:=hl.len
 simp only [Int.toNat_natCast,eq_self,true_and,and_true]
 refine ⟨⟨0,⟨Nat.zero_le _,by simp,by simp⟩,rfl⟩,?_⟩
 rintro k ⟨h1,h2,h3⟩
 refine a6 (fun h=>?_) (fun h=>?_)
 ·replace h:=Xo h
  have hk:k < ns.length:=by omega
  have hmem:=dy ns k (dfl .str) hk
  have ht:=eZ ns k (dfl .str) hk
  refine ⟨by omega,a6 (fun a=>?_) (fun a=>?_)⟩
  ·have a':ns.all aU=false:=by
    rw [Bool.eq_false_iff]
    intro e
    have:=List.all_eq_true.1 e _ hmem
    rw [this] at a
    simp at a
   unfold gK
   rw [a']
   simp
  ·have a':aU (ns.getD k (dfl .str))=true:=by simpa using a
   refine ⟨⟨0,⟨by omega,by simp⟩,rfl⟩,?_⟩
   rintro j ⟨j1,j2⟩
   refine a6 (fun b=>?_) (fun b=>?_)
   ·replace b:=Xo b
    have hj:j < k:=by omega
    have hjn:j < ns.length:=by omega
    have htj:=eZ ns j (dfl .str) hjn
    refine ⟨by omega,by omega,a6 (fun c=>?_) (fun c=>?_)⟩
    ·replace c:=Xo c
     have hnd:¬ns.Nodup:=by
      intro hn
      rw [List.nodup_iff_pairwise_ne] at hn
      have:=List.pairwise_iff_getElem.1 hn j k hjn hk hj
      rw [List.getD_eq_getElem?_getD,List.getD_eq_getElem?_getD,List.getElem?_eq_getElem hjn,List.getElem?_eq_getElem hk] at c
      exact this c
     unfold gK
     simp [hnd]
    ·refine ⟨bN hjn ln,j+1,⟨by omega,?_⟩,by omega,by omega⟩
     rw [htj,List.mem_append,List.mem_singleton,not_or]
     exact ⟨j2,fun e=>c (Xd e.symm)⟩
   ·have hj:j=k:=by
     have:¬((j:Int) < (k:Int)):=fun e=>b (Xd e)
     omega
    subst hj
    refine ⟨bN hk ln,j+1,⟨by omega,?_,?_⟩,by omega,by omega⟩
    ·rw [ht,List.all_append,h2];simpa using a'
    ·rw [ht,List.nodup_append]
     refine ⟨h3,by simp,fun x hx y hy=>?_⟩
     rw [List.mem_singleton] at hy
     subst hy
     intro e
     subst e
     exact j2 hx
 ·replace h:¬((k:Int) < (ns.length:Int)):=fun e=>h (Xd e)
  have e:k=ns.length:=by omega
  subst e
  rw [List.take_length] at h2 h3
  unfold gK
  rw [h2]
  simp [h3]
end Go.AL.Seat
end
section
open Go Go.AL Go.Pd
namespace Go.AL.Seat
namespace C3a
def A0 (s:Shape):=(↑(List.length s.parts):Int)
def B0 (s:Shape):=True/\decide ((A0 s)=(0:Int))=bw s/\True
def C0 (s:Shape):=True/\false=bw s/\True
def D0 (s:Shape):=if decide ((↑(List.length s.names):Int)=(0:Int))=true then (B0 s) else (C0 s)
def E0 (s:Shape):=if cZ s.name=true then (D0 s) else (C0 s)
def H0 (s:Shape):=if cZ s.name=true then (C0 s) else (C0 s)
def I0 (s:Shape):=if aU s.pkg=true then (E0 s) else if decide (s.pkg=[])=true then if decide (s.kind=(9:Int))=true then (H0 s) else (H0 s) else (H0 s)
def J0 (s:Shape):=if decide (s.name=([73,110,116]:Str))=true then (I0 s) else if decide (s.name=([66,111,111,108]:Str))=true then (I0 s) else if decide (s.name=([84,101,120,116]:Str))=true then (I0 s) else if aU s.pkg=true then (E0 s) else if decide (s.pkg=[])=true then if decide (s.kind=(9:Int))=true then if cZ s.name=true then if (!decide (s.name=([65,110,121]:Str)))=true then (D0 s) else (C0 s) else (C0 s) else (H0 s) else (H0 s)
def K0 (s:Shape):=True/\gK s.names (A0 s)=bw s/\True
end C3a
open C3a in
theorem Gt (s:Shape) (hs:Wf (.st .shape) s) :
  if decide (s.kind=(9:Int))=true then (J0 s) else if decide (s.kind=(10:Int))=true then (J0 s) else if (!decide (s.pkg=[]))=true then (C0 s) else if (!decide (s.name=[]))=true then (C0 s) else if decide (s.kind=(6:Int))=true then (K0 s) else if decide (s.kind=(7:Int))=true then (K0 s) else if decide ((0:Int)<(↑(List.length s.names):Int))=true then (C0 s) else if decide (s.kind=(8:Int))=true then True/\decide ((1:Int)<=(A0 s))=bw s/\True else if decide (s.kind=(5:Int))=true then True/\decide ((A0 s)=(1:Int))=bw s/\True else if decide ((1:Int)<=s.kind)=true then if decide (s.kind<=(4:Int))=true then (B0 s) else (C0 s) else (C0 s):=by
 delta K0 J0 I0 H0 E0 D0 C0 B0 A0
 have n0:((s.names.length:Int)=0)↔s.names=[]:=by rw [←List.length_eq_zero_iff];omega
 have n1:(0 < (s.names.length:Int))↔¬s.names=[]:=by rw [←List.length_eq_zero_iff];omega
 have p0:((s.parts.length:Int)=0)↔s.parts=[]:=by rw [←List.length_eq_zero_iff];omega
 have p1:((s.parts.length:Int)=1)↔s.parts.length=1:=by omega
 have p2:(1<=(s.parts.length:Int))↔¬s.parts=[]:=by rw [←List.length_eq_zero_iff];omega
 have hn:gK s.names (s.parts.length:Int)=eG s:=by
  unfold gK eG
  rw [decide_eq_decide.2 (show ((s.names.length:Int)=(s.parts.length:Int))↔s.names.length=s.parts.length by omega)]
 simp only [n0,n1,p0,p1,p2,hn,decide_eq_true_eq,true_and,and_true]
 have hf:bw s=bw s:=rfl
 conv at hf=>rhs;unfold bw
 unfold lc at hf
 have hk:(s.kind=1∨s.kind=2∨s.kind=3∨s.kind=4)↔(1<=s.kind/\s.kind<=4):=by omega
 simp only [hk] at hf
 clear hk n0 n1 p0 p1 p2 hn
 revert hf
 generalize bw s=F
 generalize eG s=A
 generalize cZ s.name=B
 generalize aU s.pkg=C
 generalize s.kind=K
 intro hf
 repeat' (refine a6 (fun _=>?_) (fun _=>?_))
 all_goals (subst hf;(try simp_all);try (intros;omega))
end Go.AL.Seat
end
section
open Go Go.AL Go.Pd
namespace Go.AL.Seat
namespace C3b
def A0 (x:Nat)(s:Shape):=(x<=List.length s.parts/\allS bw s=allL bw (List.drop x s.parts))
def B0 (x:Nat):=(↑x:Int)
def C0 (s:Shape):=s=s/\false=false/\s=s/\True
def D0 (s:Shape)(x:Nat):=(List.getD s.parts (Int.toNat (B0 x)) (dfl (Ty.st SN.shape)))
end C3b
open C3b in
theorem Gu (n:Nat) (s:Shape) (hs:Wf (.st .shape) s) (hn:sz s<=n+1) :
  if (!bw s)=true then True/\false=allS bw s/\True else (∃(x:Nat),(A0 x s)/\(0:Int)=(B0 x)/\(C0 s))/\∀(x:Nat),x<=List.length s.parts/\allS bw s=allL bw (List.drop x s.parts)→if decide ((B0 x)<(↑(List.length s.parts):Int))=true then ((0:Int)<=(B0 x)/\(B0 x)<(↑(List.length s.parts):Int))/\sz (D0 s x)<=n/\if (!allS bw (D0 s x))=true then True/\false=allS bw s/\True else inR IntKind.i64 ((B0 x)+(1:Int))/\∃(y:Nat),(A0 y s)/\List.length s.parts - y<List.length s.parts - x/\(B0 x)+(1:Int)=(B0 y)/\(C0 s) else True/\true=allS bw s/\True:=by
 delta D0 C0 B0 A0
 have ln:=hs.parts.len
 have hz:=p7 s
 simp only [Int.toNat_natCast,eq_self,true_and,and_true]
 refine a6 (fun h=>?_) (fun h=>?_)
 ·have h:bw s=false:=by simpa using h
  rw [nv,h];rfl
 have h:bw s=true:=by simpa using h
 refine ⟨⟨0,⟨Nat.zero_le _,by rw [nv,h];rfl⟩,rfl⟩,?_⟩
 rintro k ⟨h1,h3⟩
 refine a6 (fun h=>?_) (fun h=>?_)
 ·replace h:=Xo h
  have hk:k < s.parts.length:=by omega
  have hm:=ld (dy s.parts k (dfl (.st .shape)) hk)
  rw [aT s.parts k (dfl (.st .shape)) hk] at h3
  simp only [allL] at h3
  refine ⟨by omega,by omega,?_⟩
  cases e:allS bw (s.parts.getD k (dfl (.st .shape)))
  ·rw [e] at h3;rw [h3];simp
  ·simp only [e,Bool.true_and] at h3
   exact ⟨bN hk ln,k+1,⟨by omega,h3⟩,by omega,by omega⟩
 ·replace h:¬((k:Int) < (s.parts.length:Int)):=fun e=>h (Xd e)
  have e:k=s.parts.length:=by omega
  subst e
  rw [h3,List.drop_length];rfl
end Go.AL.Seat
end
section
open Go Go.AL Go.Pd
namespace Go.AL.Seat
namespace C3c
def A0:=(0:Int)
def B0 (x:Nat × Int)(s:Shape):=max x.2 (↑(maxDeep (List.drop x.1 s.parts)):Int)=(↑(maxDeep s.parts):Int)
def C0 (x:Nat × Int)(s:Shape):=(x.1<=List.length s.parts/\A0<=x.2/\(B0 x s))
def D0 (x:Nat × Int):=(↑x.1:Int)
def E0 (s:Shape)(x:Nat × Int):=(List.getD s.parts (Int.toNat (D0 x)) (dfl (Ty.st SN.shape)))
end C3c
open C3c in
theorem I8 (n:Nat) (s:Shape) (hs:Wf (.st .shape) s) (hn:sz s<=n+1) (hb:n<=1000000) :
  (∃(x:Nat × Int),(C0 x s)/\A0=x.2/\A0=(D0 x)/\s=s/\A0=A0/\s=s/\True)/\∀(x:Nat × Int),x.1<=List.length s.parts/\A0<=x.2/\(B0 x s)→if decide ((D0 x)<(↑(List.length s.parts):Int))=true then (A0<=(D0 x)/\(D0 x)<(↑(List.length s.parts):Int))/\sz (E0 s x)<=n/\if decide (x.2<(↑(deepF (E0 s x)):Int))=true then inR IntKind.i64 ((D0 x)+(1:Int))/\∃(y:Nat × Int),(C0 y s)/\List.length s.parts - y.1<List.length s.parts - x.1/\(↑(deepF (E0 s x)):Int)=y.2/\(D0 x)+(1:Int)=(D0 y)/\s=s/\A0=A0/\s=s/\True else inR IntKind.i64 ((D0 x)+(1:Int))/\∃(y:Nat × Int),(C0 y s)/\List.length s.parts - y.1<List.length s.parts - x.1/\x.2=y.2/\(D0 x)+(1:Int)=(D0 y)/\s=s/\A0=A0/\s=s/\True else inR IntKind.i64 (x.2+(1:Int))/\True/\x.2+(1:Int)=(↑(deepF s):Int)/\True:=by
 delta E0 D0 C0 B0 A0
 have ln:=hs.parts.len
 have hz:=p7 s
 have hd:deepF s=maxDeep s.parts+1:=by cases s;rfl
 have hds:=maxDeep_sz s.parts
 simp only [Int.toNat_natCast,eq_self,true_and,and_true]
 refine ⟨⟨(0,0),⟨Nat.zero_le _,by simp,by simp only [List.drop_zero];omega⟩,rfl,rfl⟩,?_⟩
 rintro ⟨k,c⟩ ⟨h1,h2,h3⟩
 simp only at h1 h2 h3 ⊢
 refine a6 (fun h=>?_) (fun h=>?_)
 ·replace h:=Xo h
  have hk:k < s.parts.length:=by omega
  have hm:=ld (dy s.parts k (dfl (.st .shape)) hk)
  rw [aT s.parts k (dfl (.st .shape)) hk] at h3
  simp only [maxDeep] at h3
  refine ⟨by omega,by omega,a6 (fun a=>?_) (fun a=>?_)⟩
  ·replace a:=Xo a
   exact ⟨bN hk ln,(k+1,(deepF (s.parts.getD k (dfl (.st .shape))):Int)),⟨by omega,by simp only;omega,by simp only;omega⟩,by simp only;omega,rfl,rfl⟩
  ·replace a:¬c < (deepF (s.parts.getD k (dfl (.st .shape))):Int):=fun e=>a (Xd e)
   exact ⟨bN hk ln,(k+1,c),⟨by omega,by simp only;omega,by simp only;omega⟩,by simp only;omega,rfl,rfl⟩
 ·replace h:¬((k:Int) < (s.parts.length:Int)):=fun e=>h (Xd e)
  have e:k=s.parts.length:=by omega
  subst e
  rw [List.drop_length] at h3
  simp only [maxDeep] at h3
  exact ⟨ak (by omega) (by omega),by omega⟩
end Go.AL.Seat
end
section
open Go Go.AL Go.Pd
namespace Go.AL.Seat
namespace C3d
def A0:=(400:Int)
end C3d
open C3d in
theorem DG (s:Shape) (hs:Wf (.st .shape) s) :
  (sz s<=sz s/\(0:Int)<=A0/\A0<=(1000000:Int))/\if decide (A0<sizeF s A0)=true then True/\(3:Int)=bK s/\True else sz s<=(400:Nat)/\if decide ((40:Int)<(↑(deepF s):Int))=true then True/\(91:Int)=bK s/\True else sz s<=(400:Nat)/\if (!allS bw s)=true then True/\(70:Int)=bK s/\True else True/\(0:Int)=bK s/\True:=by
 delta A0
 simp only [eq_self,true_and,and_true]
 rw [J3]
 refine ⟨⟨Nat.le_refl _,by omega,by omega⟩,a6 (fun h=>?_) (fun h=>?_)⟩
 ·rw [if_pos (Xo h)]
 ·have h':¬(400:Int) < sizeF s 400:=fun e=>h (Xd e)
  have hs4:sz s<=400:=by rw [sizeF_eq s 400 (by omega)] at h';omega
  rw [if_neg h']
  refine ⟨hs4,a6 (fun g=>?_) (fun g=>⟨hs4,?_⟩)⟩
  ·rw [if_pos (Xo g)]
  ·rw [if_neg (fun e=>g (Xd e))]
   cases allS bw s <;> simp
end Go.AL.Seat
end
section
open Go Go.AL Go.Pd
namespace Go.AL.Seat
namespace C3e
def A0 (a:Shape)(b:Shape):=True/\false=eqS a b/\True
def B0 (a:Shape):=(↑(List.length a.names):Int)
def C0 (a:Shape):=(↑(List.length a.parts):Int)
def D0 (a:Shape)(b:Shape):=List.length a.parts=List.length b.parts
def E0 (a:Shape)(b:Shape)(x:Nat):=eqS a b=(decide (List.drop x a.names=List.drop x b.names) && eqL a.parts b.parts)
def H0 (x:Nat)(a:Shape)(b:Shape):=(x<=List.length a.names/\List.length a.names=List.length b.names/\(D0 a b)/\(E0 a b x))
def I0 (x:Nat):=(↑x:Int)
def J0 (a:Shape)(b:Shape):=a=a/\b=b/\false=false/\a=a/\b=b/\True
def K0 (x_1:Nat)(a:Shape)(b:Shape):=(x_1<=List.length a.parts/\(D0 a b)/\eqS a b=eqL (List.drop x_1 a.parts) (List.drop x_1 b.parts))
def L0 (x:Nat)(a:Shape)(b:Shape):=(I0 x)=(I0 x)/\a=a/\b=b/\false=false/\false=false/\a=a/\b=b/\True
def M0 (a:Shape)(x_1:Nat):=(List.getD a.parts (Int.toNat (I0 x_1)) (dfl (Ty.st SN.shape)))
end C3e
open C3e in
theorem DH (n:Nat) (a b:Shape) (ha:Wf (.st .shape) a) (hb:Wf (.st .shape) b) (hn:sz a<=n+1) :
  if (!decide (a.kind=b.kind))=true then (A0 a b) else if (!decide (a.pkg=b.pkg))=true then (A0 a b) else if (!decide (a.name=b.name))=true then (A0 a b) else if (!decide ((B0 a)=(B0 b)))=true then (A0 a b) else if (!decide ((C0 a)=(C0 b)))=true then (A0 a b) else (∃(x:Nat),(H0 x a b)/\(0:Int)=(I0 x)/\(J0 a b))/\∀(x:Nat),x<=List.length a.names/\List.length a.names=List.length b.names/\(D0 a b)/\(E0 a b x)→if decide ((I0 x)<(B0 a))=true then ((0:Int)<=(I0 x)/\(I0 x)<(B0 a))/\((0:Int)<=(I0 x)/\(I0 x)<(B0 b))/\if (!decide (List.getD a.names (Int.toNat (I0 x)) (dfl Ty.str)=List.getD b.names (Int.toNat (I0 x)) (dfl Ty.str)))=true then (A0 a b) else inR IntKind.i64 ((I0 x)+(1:Int))/\∃(y:Nat),(H0 y a b)/\List.length a.names - y<List.length a.names - x/\(I0 x)+(1:Int)=(I0 y)/\(J0 a b) else (∃(x_1:Nat),(K0 x_1 a b)/\(0:Int)=(I0 x_1)/\(L0 x a b))/\∀(x_1:Nat),x_1<=List.length a.parts/\(D0 a b)/\eqS a b=eqL (List.drop x_1 a.parts) (List.drop x_1 b.parts)→if decide ((I0 x_1)<(C0 a))=true then ((0:Int)<=(I0 x_1)/\(I0 x_1)<(C0 a))/\((0:Int)<=(I0 x_1)/\(I0 x_1)<(C0 b))/\sz (M0 a x_1)<=n/\if (!eqS (M0 a x_1) (M0 b x_1))=true then (A0 a b) else inR IntKind.i64 ((I0 x_1)+(1:Int))/\∃(y:Nat),(K0 y a b)/\List.length a.parts - y<List.length a.parts - x_1/\(I0 x_1)+(1:Int)=(I0 y)/\(L0 x a b) else True/\true=eqS a b/\True:=by
 delta M0 L0 K0 J0 I0 H0 E0 D0 C0 B0 A0
 have lna:=ha.names.len
 have lpa:=ha.parts.len
 have hz:=p7 a
 have he:eqS a b=(decide (a.kind=b.kind) && decide (a.pkg=b.pkg) && decide (a.name=b.name) && decide (a.names=b.names) && eqL a.parts b.parts):=by cases a;cases b;rfl
 simp only [Int.toNat_natCast,eq_self,true_and,and_true]
 refine a6 (fun h=>?_) (fun h1=>a6 (fun h=>?_) (fun h2=>a6 (fun h=>?_) (fun h3=>a6 (fun h=>?_) (fun h4=>a6 (fun h=>?_) (fun h5=>?_)))))
 ·rw [he];simp only [Bool.not_eq_true'] at h;rw [h];simp
 ·rw [he];simp only [Bool.not_eq_true'] at h;rw [h];simp
 ·rw [he];simp only [Bool.not_eq_true'] at h;rw [h];simp
 ·have:¬a.names=b.names:=by intro e;rw [e] at h;simp at h
  rw [he];simp [this]
 ·have:a.parts.length≠b.parts.length:=by intro e;rw [e] at h;simp at h
  rw [he,Bf this];simp
 have l4:a.names.length=b.names.length:=by simp at h4;omega
 have l5:a.parts.length=b.parts.length:=by simp at h5;omega
 have he':eqS a b=(decide (a.names=b.names) && eqL a.parts b.parts):=by
  rw [he];simp only [Bool.not_eq_true,Bool.not_eq_false'] at h1 h2 h3;rw [h1,h2,h3];simp
 refine ⟨⟨0,⟨Nat.zero_le _,l4,l5,by simpa using he'⟩,rfl⟩,?_⟩
 rintro k ⟨k1,_,_,k4⟩
 refine a6 (fun h=>?_) (fun h=>?_)
 ·replace h:=Xo h
  have hk:k < a.names.length:=by omega
  have hk':k < b.names.length:=by omega
  rw [aT a.names k (dfl .str) hk,aT b.names k (dfl .str) hk'] at k4
  refine ⟨by omega,by omega,a6 (fun c=>?_) (fun c=>?_)⟩
  ·have c':¬a.names.getD k (dfl .str)=b.names.getD k (dfl .str):=by simpa using c
   rw [k4]
   have:¬(a.names.getD k (dfl .str) ::a.names.drop (k+1)=b.names.getD k (dfl .str) ::b.names.drop (k+1)):=fun e=>c' (List.cons.inj e).1
   simp only [this,decide_false,Bool.false_and]
  ·have c':a.names.getD k (dfl .str)=b.names.getD k (dfl .str):=by simpa using c
   refine ⟨bN hk lna,k+1,⟨by omega,l4,l5,?_⟩,by omega,by omega⟩
   rw [k4,c']
   congr 1
   rw [decide_eq_decide]
   simp
 ·replace h:¬((k:Int) < (a.names.length:Int)):=fun e=>h (Xd e)
  have e:k=a.names.length:=by omega
  subst e
  have k4':eqS a b=eqL a.parts b.parts:=by rw [k4,List.drop_length,l4,List.drop_length];simp
  refine ⟨⟨0,⟨Nat.zero_le _,l5,by simpa using k4'⟩,rfl⟩,?_⟩
  rintro j ⟨j1,_,j3⟩
  refine a6 (fun h=>?_) (fun h=>?_)
  ·replace h:=Xo h
   have hj:j < a.parts.length:=by omega
   have hj':j < b.parts.length:=by omega
   have hm:=ld (dy a.parts j (dfl (.st .shape)) hj)
   rw [aT a.parts j (dfl (.st .shape)) hj,aT b.parts j (dfl (.st .shape)) hj'] at j3
   simp only [eqL] at j3
   refine ⟨by omega,by omega,by omega,a6 (fun c=>?_) (fun c=>?_)⟩
   ·have c':eqS (a.parts.getD j (dfl (.st .shape))) (b.parts.getD j (dfl (.st .shape)))=false:=by simpa using c
    rw [j3,c'];rfl
   ·have c':eqS (a.parts.getD j (dfl (.st .shape))) (b.parts.getD j (dfl (.st .shape)))=true:=by simpa using c
    rw [c',Bool.true_and] at j3
    exact ⟨bN hj lpa,j+1,⟨by omega,l5,j3⟩,by omega,by omega⟩
  ·replace h:¬((j:Int) < (a.parts.length:Int)):=fun e=>h (Xd e)
   have e:j=a.parts.length:=by omega
   subst e
   rw [j3,List.drop_length,l5,List.drop_length];rfl
end Go.AL.Seat
end
section
open Go Go.AL Go.Pd
namespace Go.AL.Seat
namespace C3f
def A0:=fun (c:UInt8)=>aM (bI c)
def B0 (x:Nat)(s:Str):=(x<=List.length s/\(List.all s A0)=List.all (List.drop x s) A0)
def C0 (x:Nat):=(↑x:Int)
def D0 (x:Nat)(s:Str):=((0:Int)<=(C0 x)/\(C0 x)<(↑(List.length s):Int))
def E0 (s:Str)(x:Nat):=(↑(UInt8.toNat (List.getD s (Int.toNat (C0 x)) (0:UInt8))):Int)
end C3f
open C3f in
theorem xU (s:Str) (hs:Wf .str s) :
  (∃(x:Nat),(B0 x s)/\(0:Int)=(C0 x)/\s=s/\True)/\∀(x:Nat),(B0 x s)→if decide ((C0 x)<(↑(List.length s):Int))=true then (D0 x s)/\if decide ((E0 s x)<(48:Int))=true then True/\false=bO s/\True else (D0 x s)/\if decide ((57:Int)<(E0 s x))=true then True/\false=bO s/\True else inR IntKind.i64 ((C0 x)+(1:Int))/\∃(y:Nat),(B0 y s)/\List.length s - y<List.length s - x/\(C0 x)+(1:Int)=(C0 y)/\s=s/\True else True/\(!decide (s=[]))=bO s/\True:=by
 delta E0 D0 C0 B0 A0
 have ln:=hs.str
 have eb:∀b:UInt8,(b.toNat:Int)=bI b:=fun _=>rfl
 simp only [eb,Int.toNat_natCast]
 refine ⟨⟨0,⟨Nat.zero_le _,rfl⟩,rfl,?_⟩,?_⟩
 ·exact Xr
 rintro k ⟨h1,h2⟩
 refine a6 (fun h=>?_) (fun h=>?_)
 ·have hk:k < s.length:=by have:=Xo h;omega
  rw [aT s k 0 hk,List.all_cons] at h2
  have l0:(0:Int)<=(k:Int)/\(k:Int) < (s.length:Int):=⟨by omega,by omega⟩
  have bad:aM (bI (s.getD k 0))=false→false=bO s:=fun e=>by
   unfold bO
   rw [h2,e,Bool.false_and,Bool.and_false]
  refine ⟨l0,a6 (fun a=>⟨trivial,?_,trivial⟩) (fun a=>⟨l0,a6 (fun b=>⟨trivial,?_,trivial⟩) (fun b=>?_)⟩)⟩
  ·have a:=Xo a
   refine bad ?_
   unfold aM
   rw [Xf (by omega),Bool.false_and]
  ·have b:=Xo b
   refine bad ?_
   unfold aM
   rw [Bool.and_comm,Xf (by omega),Bool.false_and]
  ·have a:¬bI (s.getD k 0) < 48:=fun e=>a (Xd e)
   have b:¬57 < bI (s.getD k 0):=fun e=>b (Xd e)
   have hd:aM (bI (s.getD k 0))=true:=by
    unfold aM
    rw [Xd (by omega),Bool.true_and,Xd (by omega)]
   rw [hd,Bool.true_and] at h2
   refine ⟨bN hk ln,k+1,⟨by omega,h2⟩,by omega,rfl,?_⟩
   exact Xr
 ·have hk:s.length<=k:=by
   have:¬(k:Int) < (s.length:Int):=fun e=>h (Xd e)
   omega
  rw [List.drop_eq_nil_of_le hk] at h2
  refine ⟨trivial,?_,trivial⟩
  unfold bO
  rw [h2]
  exact (Bool.and_true _).symm
end Go.AL.Seat
end
section
open Go Go.AL Go.Pd
namespace Go.AL.Seat
namespace C3g
def A0:=fun (c:UInt8)=>gW (bI c)
def B0 (x:Nat)(s:Str):=(x<=List.length s/\(List.all s A0)=List.all (List.drop x s) A0)
def C0:=(0:Int)
def D0 (x:Nat):=(↑x:Int)
def E0 (x:Nat)(s:Str):=(C0<=(D0 x)/\(D0 x)<(↑(List.length s):Int))
def H0 (s:Str)(x:Nat):=(↑(UInt8.toNat (List.getD s (Int.toNat (D0 x)) (0:UInt8))):Int)
def I0 (s:Str):=True/\false=df s/\True
def J0 (x:Nat)(s:Str):=inR IntKind.i64 ((D0 x)+(1:Int))/\∃(y:Nat),(B0 y s)/\List.length s - y<List.length s - x/\(D0 x)+(1:Int)=(D0 y)/\s=s/\True
def K0 (x:Nat)(s:Str):=(E0 x s)/\if (!decide ((H0 s x)=(45:Int)))=true then (E0 x s)/\if decide ((H0 s x)<(48:Int))=true then (I0 s) else (E0 x s)/\if decide ((57:Int)<(H0 s x))=true then (I0 s) else (J0 x s) else (J0 x s)
def L0 (s:Str)(x:Nat):=if (!decide ((H0 s x)<=(90:Int)))=true then (K0 x s) else (J0 x s)
end C3g
open C3g in
theorem DI (s:Str) (hs:Wf .str s) :
  (∃(x:Nat),(B0 x s)/\C0=(D0 x)/\s=s/\True)/\∀(x:Nat),(B0 x s)→if decide ((D0 x)<(↑(List.length s):Int))=true then (E0 x s)/\if decide ((97:Int)<=(H0 s x))=true then (E0 x s)/\(E0 x s)/\if decide ((65:Int)<=(H0 s x))=true then (E0 x s)/\if (!decide ((H0 s x)<=(122:Int)))=true then (L0 s x) else (J0 x s) else if (!decide ((H0 s x)<=(122:Int)))=true then (K0 x s) else (J0 x s) else (E0 x s)/\if decide ((65:Int)<=(H0 s x))=true then (E0 x s)/\(L0 s x) else (K0 x s) else if (!decide (s=[]))=true then if (!bO s)=true then True/\true=df s/\True else if decide (s=([48]:Str))=true then True/\true=df s/\True else (C0<=C0/\C0<(↑(List.length s):Int))/\True/\(!decide ((↑(UInt8.toNat (List.getD s (Int.toNat C0) (0:UInt8))):Int)=(48:Int)))=df s/\True else (I0 s):=by
 delta L0 K0 J0 I0 H0 E0 D0 C0 B0 A0
 have ln:=hs.str
 have eb:∀b:UInt8,(b.toNat:Int)=bI b:=fun _=>rfl
 simp only [eb,Int.toNat_natCast,Int.toNat_zero]
 refine ⟨⟨0,⟨Nat.zero_le _,rfl⟩,rfl,?_⟩,?_⟩
 ·exact Xr
 rintro k ⟨h1,h2⟩
 refine a6 (fun h=>?_) (fun h=>?_)
 ·have hk:k < s.length:=by have:=Xo h;omega
  clear h
  rw [aT s k 0 hk,List.all_cons] at h2
  have l0:(0:Int)<=(k:Int)/\(k:Int) < (s.length:Int):=⟨by omega,by omega⟩
  have bad:¬((48<=bI (s.getD k 0)/\bI (s.getD k 0)<=57)∨(97<=bI (s.getD k 0)/\bI (s.getD k 0)<=122)∨(65<=bI (s.getD k 0)/\bI (s.getD k 0)<=90)∨bI (s.getD k 0)=45)→false=df s:=fun e=>by
   have e:gW (bI (s.getD k 0))=false:=Bool.eq_false_iff.2 (fun q=>e ((lm _).1 q))
   unfold df
   rw [h2,e,Bool.false_and,Bool.and_false]
  have good:((48<=bI (s.getD k 0)/\bI (s.getD k 0)<=57)∨(97<=bI (s.getD k 0)/\bI (s.getD k 0)<=122)∨(65<=bI (s.getD k 0)/\bI (s.getD k 0)<=90)∨bI (s.getD k 0)=45)→(s.all fun c=>gW (bI c))=(s.drop (k+1)).all fun c=>gW (bI c):=fun e=>by
   rw [h2,(lm _).2 e,Bool.true_and]
  clear h2 h1
  repeat' (first | refine ⟨l0,?_⟩ | refine a6 (fun q=>?_) (fun q=>?_))
  all_goals simp only [decide_eq_true_eq,Bool.not_eq_true',decide_eq_false_iff_not] at *
  all_goals first
   | exact ⟨trivial,bad (by omega),trivial⟩
   | (refine ⟨bN hk ln,k+1,⟨by omega,good (by omega)⟩,by omega,(by first | rfl | trivial),?_⟩;exact Xr)
 ·have hk:s.length<=k:=by
   have:¬(k:Int) < (s.length:Int):=fun e=>h (Xd e)
   omega
  rw [List.drop_eq_nil_of_le hk] at h2
  have h2:(s.all fun c=>gW (bI c))=true:=h2
  have e:df s=(!decide (s=[]) && !(bO s && decide (bI (s.getD 0 0)=48) && !decide (s=[48]))):=by
   unfold df
   rw [h2,Bool.and_true]
  rw [e]
  clear e h2 h h1
  refine a6 (fun a=>a6 (fun b=>?_) (fun b=>a6 (fun c=>?_) (fun c=>?_))) (fun a=>?_)
  ·rw [Bool.not_eq_true'] at b
   rw [a,b,Bool.false_and,Bool.false_and]
   exact ⟨trivial,rfl,trivial⟩
  ·rw [a,c,Bool.not_true,Bool.and_false]
   exact ⟨trivial,rfl,trivial⟩
  ·have a':¬s=[]:=by simpa using a
   have hp:=List.length_pos_iff.2 a'
   have b:bO s=true:=by simpa using b
   rw [a,b,Bool.eq_false_iff.2 c,Bool.true_and,Bool.true_and,Bool.not_false,Bool.and_true]
   exact ⟨⟨Int.le_refl 0,by omega⟩,trivial,rfl,trivial⟩
  ·rw [Bool.eq_false_iff.2 a,Bool.false_and]
   exact ⟨trivial,rfl,trivial⟩
end Go.AL.Seat
end
section
open Go Go.AL Go.Pd
namespace Go.AL.Seat
namespace C3h
def A0:=(10:Int)
def B0:=A0≠(0:Int)
def C0:=(1:Int)
def D0:=([48,49,50,51,52,53,54,55,56,57]:Str)
def E0:=(↑(List.length D0):Int)
def H0 (x:Nat × Nat × Str)(n:Int):=(x.1<=(20:Nat)/\x.2.1<(10:Nat) ^ x.1/\x.2.1<=(999999:Nat)/\List.length x.2.2<=(21:Nat) - x.1/\bU n=nG x.1 x.2.1 x.2.2)
def I0 (x:Nat × Nat × Str):=(↑x.2.1:Int)
def J0:=dO UInt8=dO UInt8/\True
def K0 (x:Nat × Nat × Str):=(Int.tdiv (I0 x) A0)
end C3h
open C3h in
theorem xV (n:Int) (ho:0<=n/\n<=999999) :
  (B0/\inR IntKind.i64 (Int.tmod n A0))/\inR IntKind.i64 (Int.tmod n A0+C0)/\((0:Int)<=Int.tmod n A0/\Int.tmod n A0<=Int.tmod n A0+C0/\Int.tmod n A0+C0<=E0)/\(∃(x:Nat × Nat × Str),(H0 x n)/\n=(I0 x)/\List.drop (Int.toNat (Int.tmod n A0)) (List.take (Int.toNat (Int.tmod n A0+C0)) D0)=x.2.2/\J0)/\∀(x:Nat × Nat × Str),x.1<=(20:Nat)/\x.2.1<(10:Nat) ^ x.1/\x.2.1<=(999999:Nat)/\List.length x.2.2<=(21:Nat) - x.1/\bU n=nG x.1 x.2.1 x.2.2→if decide (A0<=(I0 x))=true then (B0/\inR IntKind.i64 (K0 x))/\(B0/\inR IntKind.i64 (Int.tmod (K0 x) A0))/\inR IntKind.i64 (Int.tmod (K0 x) A0+C0)/\((0:Int)<=Int.tmod (K0 x) A0/\Int.tmod (K0 x) A0<=Int.tmod (K0 x) A0+C0/\Int.tmod (K0 x) A0+C0<=E0)/\List.length (List.drop (Int.toNat (Int.tmod (K0 x) A0)) (List.take (Int.toNat (Int.tmod (K0 x) A0+C0)) D0))+List.length x.2.2<=(9223372036854775807:Nat)/\∃(y:Nat × Nat × Str),(H0 y n)/\y.1<x.1/\Int.tdiv (I0 x) A0=(I0 y)/\List.drop (Int.toNat (Int.tmod (K0 x) A0)) (List.take (Int.toNat (Int.tmod (K0 x) A0+C0)) D0)++x.2.2=y.2.2/\J0 else True/\x.2.2=bU n/\True:=by
 delta K0 J0 I0 H0 E0 D0 C0 B0 A0
 obtain ⟨m,rfl⟩:=Int.eq_ofNat_of_zero_le ho.1
 have tm:∀a:Nat,Int.tmod (a:Int) 10=((a % 10:Nat):Int):=fun _=>rfl
 have td:∀a:Nat,Int.tdiv (a:Int) 10=((a / 10:Nat):Int):=fun _=>rfl
 have tn:∀a:Nat,Int.toNat ((a:Int)+1)=a+1:=fun a=>by omega
 have ds:∀a:Nat,List.drop a (List.take (a+1) [(48:UInt8),(49:UInt8),(50:UInt8),(51:UInt8),(52:UInt8),(53:UInt8),(54:UInt8),(55:UInt8),(56:UInt8),(57:UInt8)])=kC a:=fun _=>rfl
 have dl:List.length [(48:UInt8),(49:UInt8),(50:UInt8),(51:UInt8),(52:UInt8),(53:UInt8),(54:UInt8),(55:UInt8),(56:UInt8),(57:UInt8)]=10:=rfl
 simp only [tm,td,tn,Int.toNat_natCast,ds,dl]
 have hm:m<=999999:=by omega
 refine ⟨⟨by decide,ak (by omega) (by omega)⟩,ak (by omega) (by omega),⟨by omega,by omega,by omega⟩,⟨(20,m,kC (m % 10)),⟨Nat.le_refl _,Nat.lt_of_le_of_lt hm (by show 999999 < 10 ^ 20;decide),hm,by have:=nH (m % 10);show (kC (m % 10)).length<=21 - 20;omega,rfl⟩,rfl,?_⟩,?_⟩
 ·exact Xr
 rintro ⟨f,x,acc⟩ ⟨h1,h2,h3,h4,h5⟩
 simp only at h1 h2 h3 h4 h5 ⊢
 refine a6 (fun a=>?_) (fun a=>?_)
 ·have a:=Xo a
  cases f with
  | zero=>rw [Nat.pow_zero] at h2;omega
  | succ f=>
   have hd:=nH (x / 10 % 10)
   have h5:bU (m:Int)=nG f (x / 10) (kC (x / 10 % 10)++acc):=by
    rw [h5]
    show (if 10<=x then _ else _)=_
    rw [if_pos (by omega)]
   have h2:x / 10 < 10 ^ f:=by
    rw [Nat.pow_succ] at h2
    exact (Nat.div_lt_iff_lt_mul (by decide)).2 h2
   refine ⟨⟨by decide,ak (by omega) (by omega)⟩,⟨by decide,ak (by omega) (by omega)⟩,ak (by omega) (by omega),⟨by omega,by omega,by omega⟩,by omega,(f,x / 10,kC (x / 10 % 10)++acc),⟨by show f<=20;omega,h2,by show x / 10<=999999;omega,by show (kC (x / 10 % 10)++acc).length<=21 - f;rw [List.length_append];omega,h5⟩,by show f < f+1;omega,rfl,rfl,?_⟩
   exact Xr
 ·have a:¬(10:Int)<=(x:Int):=fun e=>a (Xd e)
  refine ⟨trivial,?_,trivial⟩
  rw [h5]
  cases f with
  | zero=>rfl
  | succ f=>
   show acc=if 10<=x then _ else _
   rw [if_neg (by omega)]
end Go.AL.Seat
end
section
open Go Go.AL Go.Pd
namespace Go.AL.Seat
namespace C3i
def A0:=(0:Int)
def B0 (v:Vers):=True/\(40:Int)=bv v/\True
def C0:=(999999:Int)
def D0 (v:Vers):=(splitB (46:UInt8) v.pre)
def E0 (v:Vers)(x:Nat):=List.all (D0 v) df=List.all (List.drop x (D0 v)) df
def H0 (x:Nat):=(↑x:Int)
def I0 (v:Vers):=v=v/\false=false/\false=false/\splitB (46:UInt8) v.pre=splitB (46:UInt8) v.pre/\v=v/\True
end C3i
open C3i in
theorem At (v:Vers) (hv:Wf (.st .version) v) :
  if decide (v.major<A0)=true then (B0 v) else if decide (C0<v.major)=true then (B0 v) else if decide (v.minor<A0)=true then (B0 v) else if decide (C0<v.minor)=true then (B0 v) else if decide (v.patch<A0)=true then (B0 v) else if decide (C0<v.patch)=true then (B0 v) else if decide ((24:Int)<(↑(List.length v.pre):Int))=true then (B0 v) else if decide (v.pre=[])=true then True/\A0=bv v/\True else List.length v.pre<=(4096:Nat)/\(∃(x:Nat),(x<=List.length (D0 v)/\(E0 v x))/\A0=(H0 x)/\(I0 v))/\∀(x:Nat),x<=List.length (D0 v)/\(E0 v x)→if decide ((H0 x)<(↑(List.length (D0 v)):Int))=true then (A0<=(H0 x)/\(H0 x)<(↑(List.length (D0 v)):Int))/\if (!df (List.getD (D0 v) (Int.toNat (H0 x)) (dfl Ty.str)))=true then (B0 v) else inR IntKind.i64 ((H0 x)+(1:Int))/\∃(y:Nat),(y<=List.length (D0 v)/\(E0 v y))/\List.length (D0 v) - y<List.length (D0 v) - x/\(H0 x)+(1:Int)=(H0 y)/\(I0 v) else True/\A0=bv v/\True:=by
 delta I0 H0 E0 D0 C0 B0 A0
 refine a6 (fun a=>?_) (fun a=>a6 (fun b=>?_) (fun b=>a6 (fun c=>?_) (fun c=>a6 (fun d=>?_) (fun d=>a6 (fun e=>?_) (fun e=>a6 (fun f=>?_) (fun f=>a6 (fun g=>?_) (fun g=>a6 (fun h=>?_) (fun h=>?_))))))))
 ·refine ⟨trivial,?_,trivial⟩
  unfold bv
  rw [if_pos (by have:=Xo a;omega)]
 ·refine ⟨trivial,?_,trivial⟩
  unfold bv
  rw [if_pos (by have:=Xo b;omega)]
 ·refine ⟨trivial,?_,trivial⟩
  unfold bv
  rw [if_pos (by have:=Xo c;omega)]
 ·refine ⟨trivial,?_,trivial⟩
  unfold bv
  rw [if_pos (by have:=Xo d;omega)]
 ·refine ⟨trivial,?_,trivial⟩
  unfold bv
  rw [if_pos (by have:=Xo e;omega)]
 ·refine ⟨trivial,?_,trivial⟩
  unfold bv
  rw [if_pos (by have:=Xo f;omega)]
 all_goals
  have hn:¬(v.major < 0∨999999 < v.major∨v.minor < 0∨999999 < v.minor∨v.patch < 0∨999999 < v.patch):=by
   have a:¬v.major < 0:=fun q=>a (Xd q)
   have b:¬999999 < v.major:=fun q=>b (Xd q)
   have c:¬v.minor < 0:=fun q=>c (Xd q)
   have d:¬999999 < v.minor:=fun q=>d (Xd q)
   have e:¬v.patch < 0:=fun q=>e (Xd q)
   have f:¬999999 < v.patch:=fun q=>f (Xd q)
   omega
 ·refine ⟨trivial,?_,trivial⟩
  unfold bv
  rw [if_neg hn,if_pos (by have:=Xo g;omega)]
 ·refine ⟨trivial,?_,trivial⟩
  have g:¬(24:Int) < (v.pre.length:Int):=fun e=>g (Xd e)
  unfold bv
  rw [if_neg hn,if_neg (by omega),if_pos (Xo h)]
 have g:¬(24:Int) < (v.pre.length:Int):=fun e=>g (Xd e)
 have hg:bv v=if (splitB 46 v.pre).all df=true then 0 else 40:=by
  unfold bv
  rw [if_neg hn,if_neg (by omega),if_neg (fun q=>h (Xd q))]
 have hs:=gI 46 v.pre
 refine ⟨by omega,⟨0,⟨Nat.zero_le _,rfl⟩,rfl,?_⟩,?_⟩
 ·exact Xr
 rintro k ⟨k1,k2⟩
 refine a6 (fun m=>?_) (fun m=>?_)
 ·have m:=Xo m
  have hk:k < (splitB 46 v.pre).length:=by omega
  rw [aT (splitB 46 v.pre) k (dfl Ty.str) hk,List.all_cons] at k2
  simp only [Int.toNat_natCast]
  refine ⟨⟨by omega,m⟩,a6 (fun n=>?_) (fun n=>?_)⟩
  ·have n:df ((splitB 46 v.pre).getD k (dfl Ty.str))=false:=by simpa using n
   rw [n,Bool.false_and] at k2
   rw [hg,if_neg (by rw [k2];exact Bool.false_ne_true)]
   exact ⟨trivial,rfl,trivial⟩
  ·have n:df ((splitB 46 v.pre).getD k (dfl Ty.str))=true:=by simpa using n
   rw [n,Bool.true_and] at k2
   refine ⟨ak (by omega) (by omega),k+1,⟨by omega,k2⟩,by omega,rfl,?_⟩
   exact Xr
 ·have hk:(splitB 46 v.pre).length<=k:=by
   have:¬(k:Int) < ((splitB 46 v.pre).length:Int):=fun e=>m (Xd e)
   omega
  rw [List.drop_eq_nil_of_le hk] at k2
  have k2:(splitB 46 v.pre).all df=true:=k2
  rw [hg,if_pos k2]
  exact ⟨trivial,rfl,trivial⟩
end Go.AL.Seat
end
