/- Plain facts. What the functions' conditions say, proved. No condition. -/
import Derived.Test.YtpngcclngehaiaaGreatDoorT04
set_option linter.all false
set_option maxRecDepth 100000
section
namespace Go.Pd
open Go.AL
theorem lh {a b p q:Shape} (ha:aq a=0) (hb:aq b=0) (hp:p∈a.parts) (hq:q∈b.parts) (h:bH p q=true):au 799 p q=true:=by
 have ca:=aG ha
 have cb:=aG hb
 have h1:=bP hp
 have h2:=bP hq
 have h3:=dT a
 have h4:=dT b
 rw [ji 799 800 p q (by omega) (by omega)]
 exact (dM.1 h).2.2
theorem qh {n:Nat} {a b:Shape}:au (n+1) a b=true↔a.kind=b.kind/\a.pkg=b.pkg/\a.name=b.name/\
  (if a.kind=6 then aD (fun p x=>au n x p) a b.names b.parts else if a.kind=7 then aD (au n) b a.names a.parts else bD (au n) a.parts b.parts)=true:=by
 simp only [au,Bool.and_eq_true,decide_eq_true_eq,and_assoc]
theorem iN.kind {a b:Shape} (h:iN a b):a.kind=b.kind:=h.elim (fun e=>by rw [e]) xU
def LowL (l' l:List Shape):Prop:=l'.length=l.length/\∀i,i < l.length→iN (l'.getD i an) (l.getD i an)
theorem vE {l:List Shape} {x:Shape} (h:x∈l):∃i,i < l.length/\l.getD i an=x:=by
 obtain ⟨i,hi,e⟩:=List.getElem_of_mem h
 exact ⟨i,hi,by rw [List.getD_eq_getElem?_getD,List.getElem?_eq_getElem hi];exact e⟩
theorem vF {l:List Shape} {i:Nat} (h:i < l.length):l.getD i cQ=l.getD i an:=by
 rw [List.getD_eq_getElem?_getD,List.getD_eq_getElem?_getD,List.getElem?_eq_getElem h];rfl
theorem rS {k:Int} (hk:k=6∨k=7) {ns:List Str} {l' l:List Shape} (h:LowL l' l):kD (⟨k,[],[],ns,l'⟩,cW) (⟨k,[],[],ns,l⟩,cW):=by
 obtain ⟨hl,hp⟩:=h
 have at_:aq ⟨k,[],[],ns,l⟩=0→∀i,i < l.length→bH (l'.getD i an) (l.getD i an)=true:=fun c i hi=>(hp i hi).check (gB c (getD_mem l i an hi))
 have ff:aq ⟨k,[],[],ns,l⟩=0→ai ⟨k,[],[],ns,l'⟩=true:=fun c=>by
  have f:=(cD (aG c).2.2).1
  unfold ai at f ⊢
  unfold cw at f ⊢
  dsimp only at f ⊢
  rw [if_neg (by omega),if_neg (by omega),if_pos hk] at f ⊢
  rw [hl]
  exact f
 refine CZ rfl (fun c=>?_) (fun c c'=>?_)
 ·rw [fJ,Bool.and_eq_true,iL,List.all_eq_true]
  refine ⟨ff c,fun x hx=>?_⟩
  obtain ⟨i,hi,e⟩:=vE (show x∈l' from hx)
  rw [←e]
  exact (aG (dM.1 (at_ c i (by omega))).1).2.2
 ·have f':=(cD (aG c').2.2).1
  have f:=(cD (aG c).2.2).1
  obtain ⟨n',d',_⟩:=bJ f' hk
  obtain ⟨n,d,_⟩:=bJ f hk
  have n:ns.length=l.length:=n
  have n':ns.length=l'.length:=n'
  have un:∀i,i < ns.length→au 799 (l'.getD i cQ) (l.getD i cQ)=true:=fun i hi=>by
   rw [vF (by omega),vF (by omega)]
   exact lh c' c (getD_mem l' i _ (by omega)) (getD_mem l i _ (by omega)) (at_ c i (by omega))
  refine (qh (n:=799)).2 ⟨rfl,rfl,rfl,?_⟩
  dsimp only
  rcases hk with e | e
  ·rw [if_pos e]
   exact (bA n).2 fun i hi=>⟨_,kx d' n' hi,un i hi⟩
  ·rw [if_neg (by omega),if_pos e]
   exact (bA n').2 fun i hi=>⟨_,kx d n hi,un i hi⟩
theorem rT {F:Shape→Shape→Bool} {s' s:Shape} (h:F s' s=true):∀{l:List Shape},(∀p∈l,F p p=true)→bD F (l++[s']) (l++[s])=true
 | [],_=>h
 | [p],hl=>by
  show (F p p && F s' s)=true
  rw [hl p (.head _),h];rfl
 | p ::q ::r,hl=>by
  have:=rT h (l:=q ::r) fun x hx=>hl x (.tail _ hx)
  show (F p p && bD F ((q ::r)++[s']) ((q ::r)++[s]))=true
  rw [hl p (.head _),this];rfl
theorem Es {l:List Shape} {r' r:Shape × Flt} (h:Res r' r):kD (⟨8,[],[],[],l++[r'.1]⟩,r'.2) (⟨8,[],[],[],l++[r.1]⟩,r.2):=by
 intro h1 c
 rcases h h1 with k | ⟨k1,k2⟩
 ·exact .inl k
 have cr:aq r.1=0:=gB c (List.mem_append.2 (.inr (.head _)))
 have kb:=k2.check cr
 have c1:=(dM.1 kb).1
 refine CZ (r':=(⟨8,[],[],[],l++[r'.1]⟩,r'.2)) (r:=(⟨8,[],[],[],l++[r.1]⟩,r.2)) k1 (fun c=>?_) (fun c c'=>?_) h1 c
 ·have f:=cD (aG c).2.2
  rw [fJ,Bool.and_eq_true,iL,List.all_eq_true]
  refine ⟨?_,fun x hx=>?_⟩
  ·unfold ai
   simp
  ·rcases List.mem_append.1 hx with hx | hx
   ·exact (aG (gB c (List.mem_append.2 (.inl hx)))).2.2
   ·rw [List.mem_singleton.1 hx];exact (aG c1).2.2
 ·refine (qh (n:=799)).2 ⟨rfl,rfl,rfl,?_⟩
  dsimp only
  rw [if_neg (show ¬(8:Int)=6 by decide),if_neg (show ¬(8:Int)=7 by decide)]
  refine rT (lh c' c (List.mem_append.2 (.inr (.head _))) (List.mem_append.2 (.inr (.head _))) kb) fun p hp=>?_
  exact lh c c (List.mem_append.2 (.inl hp)) (List.mem_append.2 (.inl hp)) (ie (gB c (List.mem_append.2 (.inl hp))))
section
variable {T:Trm→Envt→Shape × Flt} (hT:∀p e' e,Low e' e→Res (T p e') (T p e))
include hT
theorem ej {p:Trm} {w' w:Shape} {e' e:Envt} (h:Low e' e) (hw:iN w w'):CY (aA T p w' e') (aA T p w e):=by
 intro h0
 unfold aA at h0
 by_cases c:(T p e).2.err=0/\eK (T p e).1 w=false
 ·rw [if_pos c] at h0;exact absurd (show (140:Int)=0 from h0) (by decide)
 ·rw [if_neg c] at h0
  have near:eK (T p e).1 w=true:=by
   cases g:eK (T p e).1 w with
   | true=>rfl
   | false=>exact absurd ⟨h0,g⟩ c
  rcases hT p e' e h h0 with k | ⟨k1,k2⟩
  ·left
   unfold aA
   rw [if_neg (fun q=>k.ne q.1)]
   exact k
  ·right
   have nr:eK (T p e').1 w'=true:=by
    have h1:eK (T p e').1 w=true:=k2.elim (fun e=>by rw [e];exact near) (fun b=>xT b near)
    exact hw.elim (fun e=>by rw [←e];exact h1) (fun b=>vB h1 b)
   unfold aA
   rw [if_neg (fun q=>by rw [nr] at q;cases q.2)]
   exact k1
theorem mR {w:Shape} {e' e:Envt} (h:Low e' e):∀ps:List Trm,CY (cE T e' w ps) (cE T e w ps)
 | []=>fun _=>.inr rfl
 | p ::r=>by
  intro h0
  simp only [cE] at h0 ⊢
  have hp:=ej hT (p:=p) (w:=w) (w':=w) h (.inl rfl)
  by_cases c:(aA T p w e).err=0
  ·rw [if_pos c] at h0
   rcases hp c with k | k
   ·rw [if_neg k.ne];exact .inl k
   ·rw [if_pos k];exact mR h r h0
  ·rw [if_neg c] at h0;exact absurd h0 c
theorem rU {e' e:Envt} (h:Low e' e):∀(ps:List Trm) (ws' ws:List Shape),ws'.length=ws.length→(∀i,i < ps.length→i < ws.length→iN (ws.getD i an) (ws'.getD i an))→CY (dV T e' ps ws') (dV T e ps ws)
 | [],ws',ws,_,_=>fun _=>.inr (by simp only [dV];rfl)
 | p ::r,[],ws,_,_=>fun _=>.inr (by simp only [dV];rfl)
 | p ::r,_ ::_,[],hl,_=>by cases hl
 | p ::r,w' ::q',w ::q,hl,hw=>by
  intro h0
  simp only [dV] at h0 ⊢
  have hp:=ej hT (p:=p) (w:=w) (w':=w') h (hw 0 (by simp) (by simp))
  by_cases c:(aA T p w e).err=0
  ·rw [if_pos c] at h0
   rcases hp c with k | k
   ·rw [if_neg k.ne];exact .inl k
   ·rw [if_pos k]
    exact rU h r q' q (by simpa using hl) (fun i h1 h2=>hw (i+1) (by simpa using h1) (by simpa using h2)) h0
  ·rw [if_neg c] at h0;exact absurd h0 c
theorem rV {w:Shape} {e' e:Envt} (h:Low e' e):∀(ps:List Trm) (vs:List Str) (ss:List Shape),CY (fj T e' w ps vs ss) (fj T e w ps vs ss)
 | [],_,_=>fun _=>.inr (by simp only [fj];rfl)
 | _ ::_,[],_=>fun _=>.inr (by simp only [fj];rfl)
 | _ ::_,_ ::_,[]=>fun _=>.inr (by simp only [fj];rfl)
 | p ::r,v ::vs,s ::ss=>by
  intro h0
  simp only [fj] at h0 ⊢
  have hp:=ej hT (p:=p) (w:=w) (w':=w) (h.same [ec v s]) (.inl rfl)
  by_cases c:(aA T p w (bL e [ec v s])).err=0
  ·rw [if_pos c] at h0
   rcases hp c with k | k
   ·rw [if_neg k.ne];exact .inl k
   ·rw [if_pos k];exact rV h r vs ss h0
  ·rw [if_neg c] at h0;exact absurd h0 c
theorem qi {e' e:Envt} (h:Low e' e):∀ps:List Trm,(bV T e ps).2.2.err=0→F3 (bV T e' ps).2.2∨((bV T e' ps).2.2.err=0/\LowL (bV T e' ps).1 (bV T e ps).1)
 | [],_=>.inr ⟨rfl,rfl,fun i hi=>by simp [bV] at hi⟩
 | p ::r,h0=>by
  simp only [bV] at h0 ⊢
  by_cases c:(T p e).2.err=0
  ·rw [if_pos c] at h0 ⊢
   rcases hT p e' e h c with k | ⟨k1,k2⟩
   ·rw [if_neg k.ne];exact .inl k
   ·rw [if_pos k1]
    rcases qi h r h0 with m | ⟨m1,m2,m3⟩
    ·exact .inl m
    ·refine .inr ⟨m1,by simp only [List.length_cons];omega,fun i hi=>?_⟩
     cases i with
     | zero=>exact k2
     | succ i=>exact m3 i (by simpa using hi)
  ·rw [if_neg c] at h0;exact absurd h0 c
end
end Go.Pd
end
section
namespace Go.Pd
open Go.AL
theorem di {c:Prop} [Decidable c] {a' a b' b:Shape × Flt} (h1:c→kD a' a) (h2:¬c→kD b' b):kD (if c then a' else b') (if c then a else b):=by
 by_cases h:c
 ·rw [if_pos h,if_pos h];exact h1 h
 ·rw [if_neg h,if_neg h];exact h2 h
theorem mc {s:Shape} {f' f:Flt} (h:CY f' f):kD (s,f') (s,f):=fun h1 h2=>(h h1).imp id fun k=>⟨k,.inr (.inr (ie h2))⟩
section
variable {T:Trm→Envt→Shape × Flt} (hT:∀p e' e,Low e' e→Res (T p e') (T p e))
include hT
theorem D0 {t:Trm} {e' e:Envt} (h:Low e' e):kD (bU T t e') (bU T t e):=by
 unfold bU
 dsimp only
 by_cases c:(T (t.parts.getD 0 az) e).2.err=0
 rotate_left
 ·rw [if_neg c];exact eo c
 rw [if_pos c]
 rcases hT (t.parts.getD 0 az) e' e h c with k | ⟨k1,k2⟩
 ·rw [if_neg k.ne];exact fun _ _=>.inl k
 rw [if_pos k1]
 revert k2
 generalize (T (t.parts.getD 0 az) e').1=s'
 generalize (T (t.parts.getD 0 az) e).1=s
 intro k2
 have hk:=k2.kind
 by_cases k4:s.kind=4
 ·rw [if_pos k4,if_pos (hk.trans k4)]
  by_cases a:(cE T e (ofK 4) (t.parts.drop 1)).err=0
  ·rw [if_pos a]
   rcases mR hT h (t.parts.drop 1) a with f | f
   ·rw [if_neg f.ne];exact fun _ _=>.inl f
   ·rw [if_pos f];exact fun _ h2=>.inr ⟨rfl,.inr (.inr (k2.check h2))⟩
  ·rw [if_neg a];exact eo a
 rw [if_neg k4,if_neg (fun q=>k4 (hk.symm.trans q))]
 by_cases g:s.kind=8/\s.parts.length=t.parts.length
 rotate_left
 ·rw [if_neg g];exact eo (show ¬(140:Int)=0 by decide)
 rw [if_pos g]
 obtain ⟨g1,g2⟩:=g
 have pc:s'.parts.length=s.parts.length/\(∀i,i+1 < s.parts.length→iN (s.parts.getD i an) (s'.parts.getD i an))/\iN (s'.parts.getD (s'.parts.length - 1) an) (s.parts.getD (s.parts.length - 1) an):=by
  rcases k2 with e | b
  ·rw [e];exact ⟨rfl,fun i _=>.inl rfl,.inl rfl⟩
  ·obtain ⟨b1,b2,b3,b4⟩:=AX b g1
   exact ⟨b2,fun i hi=>.inr (b3 i hi),.inr b4⟩
 rw [if_pos ⟨hk.trans g1,pc.1.trans g2⟩]
 have hL:=rU hT h (t.parts.drop 1) s'.parts s.parts pc.1 (fun i h1 h2=>pc.2.1 i (by rw [List.length_drop] at h1;omega))
 by_cases a:(dV T e (t.parts.drop 1) s.parts).err=0
 ·rw [if_pos a]
  rcases hL a with f | f
  ·rw [if_neg f.ne];exact fun _ _=>.inl f
  ·rw [if_pos f];exact fun _ h2=>.inr ⟨rfl,.inr (.inr (pc.2.2.check h2))⟩
 ·rw [if_neg a];exact eo a
theorem AZ {t:Trm} {e' e:Envt} (h:Low e' e):kD (bW T t e') (bW T t e):=by
 unfold bW
 dsimp only
 by_cases c:(T (t.parts.getD 0 az) e).2.err=0
 rotate_left
 ·rw [if_neg c];exact eo c
 rw [if_pos c]
 rcases hT (t.parts.getD 0 az) e' e h c with k | ⟨k1,k2⟩
 ·rw [if_neg k.ne];exact fun _ _=>.inl k
 rw [if_pos k1]
 revert k1 k2
 generalize T (t.parts.getD 0 az) e'=r'
 revert c
 generalize T (t.parts.getD 0 az) e=r
 intro c k1 k2
 have hk:=k2.kind
 by_cases k4:r.1.kind=4
 ·rw [if_pos k4,if_pos (hk.trans k4)]
  exact fun _ h2=>.inr ⟨k1,.inr (.inr (k2.check h2))⟩
 rw [if_neg k4,if_neg (fun q=>k4 (hk.symm.trans q))]
 by_cases g:r.1.kind=6/\(aE r.1 t.name).isSome=true
 rotate_left
 ·rw [if_neg g];exact eo (show ¬(140:Int)=0 by decide)
 rw [if_pos g]
 obtain ⟨g1,g2⟩:=g
 cases gp:aE r.1 t.name with
 | none=>rw [gp] at g2;cases g2
 | some p=>
  have:∃x,aE r'.1 t.name=some x/\iN x p:=by
   rcases k2 with e | b
   ·rw [e];exact ⟨p,gp,.inl rfl⟩
   ·obtain ⟨_,x,x1,x2⟩:=vC b g1 gp
    exact ⟨x,x1,.inr x2⟩
  obtain ⟨x,x1,x2⟩:=this
  rw [x1,if_pos ⟨hk.trans g1,rfl⟩]
  exact fun _ h2=>.inr ⟨rfl,.inr (.inr (x2.check h2))⟩
theorem Et {t:Trm} {e' e:Envt} (h:Low e' e):kD (cX T t e') (cX T t e):=by
 cases g:dt e.own t.name with
 | none=>rw [kr g,kr (by rw [h.own];exact g)];exact eo (show ¬(110:Int)=0 by decide)
 | some s=>
  rw [ku g,ku (by rw [h.own];exact g),h.self]
  exact di (fun _=>mc (ej hT h (.inl rfl))) fun _=>mc (ej hT h (.inl rfl))
theorem B0 {t:Trm} {e' e:Envt} (h:Low e' e):kD (aJ T t e') (aJ T t e):=by
 unfold aJ
 dsimp only
 rw [h.types]
 generalize ae e.types t.pos t.shapes=L
 by_cases c:L.2.err=0
 rotate_left
 ·rw [if_neg c,if_neg c];exact eo c
 rw [if_pos c,if_pos c]
 refine di (fun _=>Es (hT _ _ _ (h.same _))) fun _=>?_
 by_cases k11:t.kind=11
 ·rw [if_pos k11,if_pos k11]
  by_cases a:(cE T e (L.1.getD 0 an) t.parts).err=0
  ·rw [if_pos a]
   rcases mR hT h t.parts a with f | f
   ·rw [if_neg f.ne];exact fun _ _=>.inl f
   ·rw [if_pos f];exact lZ
  ·rw [if_neg a];exact eo a
 rw [if_neg k11,if_neg k11]
 refine di (fun _=>mc (ej hT h (.inl rfl))) fun _=>di (fun _=>mc ?_) fun _=>mc ?_
 ·intro h0
  have f0:=ej hT (p:=t.parts.getD 0 az) (w:=ofK 2) (w':=ofK 2) h (.inl rfl)
  by_cases a0:(aA T (t.parts.getD 0 az) (ofK 2) e).err=0
  ·rw [if_pos a0] at h0
   rcases f0 a0 with f | f
   ·rw [if_neg f.ne];exact .inl f
   rw [if_pos f]
   have f1:=ej hT (p:=t.parts.getD 1 az) (w:=L.1.getD 0 an) (w':=L.1.getD 0 an) h (.inl rfl)
   by_cases a1:(aA T (t.parts.getD 1 az) (L.1.getD 0 an) e).err=0
   ·rw [if_pos a1] at h0
    rcases f1 a1 with f | f
    ·rw [if_neg f.ne];exact .inl f
    rw [if_pos f]
    exact ej hT h (.inl rfl) h0
   ·rw [if_neg a1] at h0;exact absurd h0 a1
  ·rw [if_neg a0] at h0;exact absurd h0 a0
 ·intro h0
  have f0:=ej hT (p:=t.parts.getD 0 az) (w:=⟨7,[],[],t.names,L.1.take (L.1.length - 1)⟩) (w':=⟨7,[],[],t.names,L.1.take (L.1.length - 1)⟩) h (.inl rfl)
  by_cases a0:(aA T (t.parts.getD 0 az) ⟨7,[],[],t.names,L.1.take (L.1.length - 1)⟩ e).err=0
  ·rw [if_pos a0] at h0
   rcases f0 a0 with f | f
   ·rw [if_neg f.ne];exact .inl f
   rw [if_pos f]
   exact rV hT h _ _ _ h0
  ·rw [if_neg a0] at h0;exact absurd h0 a0
theorem plain_low {t:Trm} {e' e:Envt} (h:Low e' e):kD (ao T t e') (ao T t e):=by
 unfold ao
 refine di (fun _=>lZ) fun _=>di (fun _=>lZ) fun _=>di (fun _=>lZ) fun _=>di (fun _=>?_) fun _=>di (fun _=>D0 hT h) fun _=>di (fun _=>?_) fun _=>di (fun _=>AZ hT h) fun _=>
  di (fun _=>?_) fun _=>di (fun _=>?_) fun _=>di (fun _=>Et hT h) fun _=>B0 hT h
 ·rcases h.vals t.pkg t.name with ⟨a,b⟩ | ⟨s,s',a,b,c⟩
  ·rw [a,b];exact eo (show ¬(110:Int)=0 by decide)
  ·rw [a,b];exact fun _ h2=>.inr ⟨rfl,.inr (.inr (c.sort.check h2))⟩
 ·have hL:=qi hT h t.parts
  by_cases c:(bV T e t.parts).2.2.err=0
  ·rw [if_pos c]
   rcases hL c with k | ⟨k1,k2⟩
   ·rw [if_neg k.ne];exact fun _ _=>.inl k
   ·rw [if_pos k1];exact rS (.inl rfl) k2
  ·rw [if_neg c];exact eo c
 ·intro h1 c
  have hr:=hT (t.parts.getD 0 az) e' e h h1
  rcases hr with k | ⟨k1,k2⟩
  ·exact .inl k
  ·have:=@rS 7 (.inr rfl) [t.name] [(T (t.parts.getD 0 az) e').1] [(T (t.parts.getD 0 az) e).1] ⟨rfl,fun i hi=>by
    obtain rfl:i=0:=by simpa using hi
    exact k2⟩ rfl c
   rcases this with f | ⟨_,f⟩
   ·exact absurd rfl f.ne
   ·exact .inr ⟨k1,f⟩
 ·by_cases c:(T (t.parts.getD 0 az) e).2.err=0
  ·rw [if_pos c]
   rcases hT (t.parts.getD 0 az) e' e h c with k | ⟨k1,k2⟩
   ·rw [if_neg k.ne];exact fun _ _=>.inl k
   ·rw [if_pos k1];exact (hT _ _ _ (h.one k2)).plain
  ·rw [if_neg c];exact eo c
end
theorem rW:∀(n:Nat) (t:Trm) (e' e:Envt),Low e' e→Res (aa n t e') (aa n t e)
 | 0,_,_,_,_=>fun _=>.inr ⟨rfl,.inl rfl⟩
 | n+1,t,e',e,h=>AY (plain_low (fun p e' e h=>rW n p e' e h) h)
theorem xV {t:Trm} {e' e:Envt} (h:Low e' e) (h0:(bK t e).2.err=0):((bK t e').2.err=3∨(bK t e').2.err=91)∨((bK t e').2.err=0/\bH (bK t e').1 (bK t e).1=true):=by
 unfold bK at h0 ⊢
 by_cases c:dA t=0
 ·rw [if_pos c] at h0 ⊢
  rw [if_pos c]
  rcases rW (szT t) t e' e h h0 with k | ⟨k1,k2⟩
  ·exact .inl k
  ·exact .inr ⟨k1,k2.check (xQ (szT_pos t) h0).1⟩
 ·rw [if_neg c] at h0;exact absurd h0 c
end Go.Pd
end
section
namespace Go.Pd
open Go.AL
def B1 (b:Bndg) (l:List Shape):Bndg:=match l with
 | []=>b
 | x ::_=>if bH x b.shape=true then ⟨b.pkg,b.name,x⟩ else b
def im:List Bndg→List Shape→List Bndg
 | [],_=>[]
 | b ::r,l=>B1 b l ::im r (l.drop 1)
theorem B2 (b:Bndg) (l:List Shape):(B1 b l).pkg=b.pkg/\(B1 b l).name=b.name/\iN (B1 b l).shape b.shape:=by
 unfold B1
 split
 ·exact ⟨rfl,rfl,.inl rfl⟩
 ·split
  ·rename_i h;exact ⟨rfl,rfl,.inr h⟩
  ·exact ⟨rfl,rfl,.inl rfl⟩
theorem rX (o m:Str):∀(v:List Bndg) (l:List Shape),(aI v o m=none/\aI (im v l) o m=none)∨∃s s',aI v o m=some s/\aI (im v l) o m=some s'/\iN s' s
 | [],_=>.inl ⟨rfl,rfl⟩
 | b ::r,l=>by
  obtain ⟨f1,f2,f3⟩:=B2 b l
  rw [im,aI,aI,f1,f2]
  rcases rX o m r (l.drop 1) with ⟨a,c⟩ | ⟨s,s',a,c,d⟩
  ·rw [a,c]
   dsimp only
   by_cases h:b.pkg=o/\b.name=m
   ·rw [if_pos h,if_pos h];exact .inr ⟨_,_,rfl,rfl,f3⟩
   ·rw [if_neg h,if_neg h];exact .inl ⟨rfl,rfl⟩
  ·rw [a,c];exact .inr ⟨_,_,rfl,rfl,d⟩
def lj (e:Envt) (l:List Shape):Envt:=⟨e.self,e.types,im e.values l,e.own⟩
theorem D1 (e:Envt) (l:List Shape):Low (lj e l) e:=⟨rfl,rfl,rfl,fun o m=>rX o m e.values l⟩
theorem xW {t:Trm} {e:Envt} {l:List Shape} (h:(bK t e).2.err=0):((bK t (lj e l)).2.err=3∨(bK t (lj e l)).2.err=91)∨((bK t (lj e l)).2.err=0/\bH (bK t (lj e l)).1 (bK t e).1=true):=xV (D1 e l) h
theorem qU {l:List Shape} {k:Nat} (h:¬k < l.length):l.drop k=[]:=List.drop_eq_nil_of_le (by omega)
end Go.Pd
end
section
open Go Go.AL Go.Pd
namespace Go.AL.Seat
theorem D2 (c:Int)  :
  if decide ((97:Int)<=c)=true then True/\decide (c<=(122:Int))=db c/\True else True/\false=db c/\True:=by
 unfold db;simp only [jQ];split <;> simp [*]
theorem D3 (c:Int)  :
  if decide ((65:Int)<=c)=true then True/\decide (c<=(90:Int))=dm c/\True else True/\false=dm c/\True:=by
 unfold dm;simp only [jQ];split <;> simp [*]
theorem D4 (c:Int)  :
  if decide ((48:Int)<=c)=true then True/\decide (c<=(57:Int))=jS c/\True else True/\false=jS c/\True:=by
 unfold jS;simp only [jQ];split <;> simp [*]
theorem Eu (c:Int)  :
  if db c=true then True/\true=eZ c/\True else if dm c=true then True/\true=eZ c/\True else if jS c=true then True/\true=eZ c/\True else True/\decide (c=(95:Int))=eZ c/\True:=by
 unfold eZ;cases db c <;> cases dm c <;> cases jS c <;> simp
theorem B3 (s:Str) (hs:Wf .str s) :
  if decide (s=[])=true then True/\false=ct db s/\True else if decide ((24:Int) < (↑(List.length s):Int))=true then True/\false=ct db s/\True else ((0:Int)<=(0:Int)/\(0:Int) < (↑(List.length s):Int))/\if (!db (↑(UInt8.toNat (List.getD s (Int.toNat (0:Int)) (0:UInt8))):Int))=true then True/\false=ct db s/\True else (∃(x:Nat),(x<=List.length s/\ct db s=List.all (List.drop x s) fun (c:UInt8) ↦eZ (bI c))/\(0:Int)=(↑x:Int)/\s=s/\false=false/\(↑(List.length s):Int)=(↑(List.length s):Int)/\True)/\∀(x:Nat),(x<=List.length s/\ct db s=List.all (List.drop x s) fun (c:UInt8) ↦eZ (bI c))→if decide ((↑x:Int) < (↑(List.length s):Int))=true then ((0:Int)<=(↑x:Int)/\(↑x:Int) < (↑(List.length s):Int))/\if (!eZ (↑(UInt8.toNat (List.getD s (Int.toNat (↑x:Int)) (0:UInt8))):Int))=true then True/\false=ct db s/\True else inR IntKind.i64 ((↑x:Int)+(1:Int))/\∃(y:Nat),(y<=List.length s/\ct db s=List.all (List.drop y s) fun (c:UInt8) ↦eZ (bI c))/\List.length s - y < List.length s - x/\(↑x:Int)+(1:Int)=(↑y:Int)/\s=s/\false=false/\(↑(List.length s):Int)=(↑(List.length s):Int)/\True else True/\true=ct db s/\True:=by
 have hlen:=hs.str
 have eb:∀b:UInt8,(b.toNat:Int)=bI b:=fun _=>rfl
 simp only [jQ,Int.toNat_natCast,Int.toNat_zero,true_and,and_true,eb,ct]
 generalize db (bI (s.getD 0 0))=f0
 by_cases h0:s=[]
 ·simp [h0]
 have hpos:0 < s.length:=List.length_pos_iff.2 h0
 by_cases h1:s.length<=24
 ·rw [if_neg h0,if_neg (by omega)]
  refine ⟨by omega,?_⟩
  cases f0 with
  | false=>simp
  | true=>
   simp only [Bool.not_true,Bool.false_eq_true,if_false,h0,h1,decide_false,decide_true,Bool.not_false,Bool.true_and]
   refine ⟨⟨0,⟨by omega,rfl⟩,rfl⟩,?_⟩
   rintro k ⟨h3,h4⟩
   split
   ·have hk:k < s.length:=by omega
    rw [aC s k 0 hk,List.all_cons] at h4
    generalize eZ (bI (s.getD k 0))=r at h4 ⊢
    refine ⟨by omega,?_⟩
    cases r with
    | false=>simpa using h4.symm
    | true=>
     simp only [Bool.not_true,Bool.false_eq_true,if_false]
     exact ⟨bc hk hlen,k+1,⟨by omega,by simpa using h4⟩,by omega,by omega⟩
   ·have hk:k=s.length:=by omega
    subst hk
    simpa using h4.symm
 ·rw [if_neg h0,if_pos (by omega)]
  simp [h1]
theorem B4 (s:Str) (hs:Wf .str s) :
  if decide (s=[])=true then True/\false=ct dm s/\True else if decide ((24:Int) < (↑(List.length s):Int))=true then True/\false=ct dm s/\True else ((0:Int)<=(0:Int)/\(0:Int) < (↑(List.length s):Int))/\if (!dm (↑(UInt8.toNat (List.getD s (Int.toNat (0:Int)) (0:UInt8))):Int))=true then True/\false=ct dm s/\True else (∃(x:Nat),(x<=List.length s/\ct dm s=List.all (List.drop x s) fun (c:UInt8) ↦eZ (bI c))/\(0:Int)=(↑x:Int)/\s=s/\false=false/\(↑(List.length s):Int)=(↑(List.length s):Int)/\True)/\∀(x:Nat),(x<=List.length s/\ct dm s=List.all (List.drop x s) fun (c:UInt8) ↦eZ (bI c))→if decide ((↑x:Int) < (↑(List.length s):Int))=true then ((0:Int)<=(↑x:Int)/\(↑x:Int) < (↑(List.length s):Int))/\if (!eZ (↑(UInt8.toNat (List.getD s (Int.toNat (↑x:Int)) (0:UInt8))):Int))=true then True/\false=ct dm s/\True else inR IntKind.i64 ((↑x:Int)+(1:Int))/\∃(y:Nat),(y<=List.length s/\ct dm s=List.all (List.drop y s) fun (c:UInt8) ↦eZ (bI c))/\List.length s - y < List.length s - x/\(↑x:Int)+(1:Int)=(↑y:Int)/\s=s/\false=false/\(↑(List.length s):Int)=(↑(List.length s):Int)/\True else True/\true=ct dm s/\True:=by
 have hlen:=hs.str
 have eb:∀b:UInt8,(b.toNat:Int)=bI b:=fun _=>rfl
 simp only [jQ,Int.toNat_natCast,Int.toNat_zero,true_and,and_true,eb,ct]
 generalize dm (bI (s.getD 0 0))=f0
 by_cases h0:s=[]
 ·simp [h0]
 have hpos:0 < s.length:=List.length_pos_iff.2 h0
 by_cases h1:s.length<=24
 ·rw [if_neg h0,if_neg (by omega)]
  refine ⟨by omega,?_⟩
  cases f0 with
  | false=>simp
  | true=>
   simp only [Bool.not_true,Bool.false_eq_true,if_false,h0,h1,decide_false,decide_true,Bool.not_false,Bool.true_and]
   refine ⟨⟨0,⟨by omega,rfl⟩,rfl⟩,?_⟩
   rintro k ⟨h3,h4⟩
   split
   ·have hk:k < s.length:=by omega
    rw [aC s k 0 hk,List.all_cons] at h4
    generalize eZ (bI (s.getD k 0))=r at h4 ⊢
    refine ⟨by omega,?_⟩
    cases r with
    | false=>simpa using h4.symm
    | true=>
     simp only [Bool.not_true,Bool.false_eq_true,if_false]
     exact ⟨bc hk hlen,k+1,⟨by omega,by simpa using h4⟩,by omega,by omega⟩
   ·have hk:k=s.length:=by omega
    subst hk
    simpa using h4.symm
 ·rw [if_neg h0,if_pos (by omega)]
  simp [h1]
theorem Ev (s:Str)  :
  if decide (s=[(109:UInt8),(111:UInt8),(100:UInt8),(117:UInt8),(108:UInt8),(101:UInt8)])=true then True/\true=dN s/\True else if decide (s=[(105:UInt8),(109:UInt8),(112:UInt8),(111:UInt8),(114:UInt8),(116:UInt8)])=true then True/\true=dN s/\True else if decide (s=[(112:UInt8),(105:UInt8),(110:UInt8)])=true then True/\true=dN s/\True else if decide (s=[(114:UInt8),(97:UInt8),(110:UInt8),(103:UInt8),(101:UInt8)])=true then True/\true=dN s/\True else if decide (s=[(116:UInt8),(121:UInt8),(112:UInt8),(101:UInt8)])=true then True/\true=dN s/\True else if decide (s=[(111:UInt8),(112:UInt8),(97:UInt8),(113:UInt8),(117:UInt8),(101:UInt8)])=true then True/\true=dN s/\True else if decide (s=[(108:UInt8),(101:UInt8),(116:UInt8)])=true then True/\true=dN s/\True else if decide (s=[(105:UInt8),(110:UInt8)])=true then True/\true=dN s/\True else if decide (s=[(101:UInt8),(120:UInt8),(112:UInt8),(111:UInt8),(114:UInt8),(116:UInt8)])=true then True/\true=dN s/\True else if decide (s=[(102:UInt8),(117:UInt8),(110:UInt8)])=true then True/\true=dN s/\True else if decide (s=[(105:UInt8),(102:UInt8)])=true then True/\true=dN s/\True else if decide (s=[(116:UInt8),(104:UInt8),(101:UInt8),(110:UInt8)])=true then True/\true=dN s/\True else if decide (s=[(101:UInt8),(108:UInt8),(115:UInt8),(101:UInt8)])=true then True/\true=dN s/\True else if decide (s=[(99:UInt8),(97:UInt8),(115:UInt8),(101:UInt8)])=true then True/\true=dN s/\True else if decide (s=[(111:UInt8),(102:UInt8)])=true then True/\true=dN s/\True else if decide (s=[(97:UInt8),(115:UInt8)])=true then True/\true=dN s/\True else if decide (s=[(110:UInt8),(101:UInt8),(119:UInt8)])=true then True/\true=dN s/\True else if decide (s=[(114:UInt8),(97:UInt8),(119:UInt8)])=true then True/\true=dN s/\True else if decide (s=[(116:UInt8),(114:UInt8),(117:UInt8),(101:UInt8)])=true then True/\true=dN s/\True else if decide (s=[(102:UInt8),(97:UInt8),(108:UInt8),(115:UInt8),(101:UInt8)])=true then True/\true=dN s/\True else True/\false=dN s/\True:=by
 refine ab (fun h=>?_) (fun h0=>?_)
 ·rw [Xo h];exact ⟨trivial,rfl,trivial⟩
 refine ab (fun h=>?_) (fun h1=>?_)
 ·rw [Xo h];exact ⟨trivial,rfl,trivial⟩
 refine ab (fun h=>?_) (fun h2=>?_)
 ·rw [Xo h];exact ⟨trivial,rfl,trivial⟩
 refine ab (fun h=>?_) (fun h3=>?_)
 ·rw [Xo h];exact ⟨trivial,rfl,trivial⟩
 refine ab (fun h=>?_) (fun h4=>?_)
 ·rw [Xo h];exact ⟨trivial,rfl,trivial⟩
 refine ab (fun h=>?_) (fun h5=>?_)
 ·rw [Xo h];exact ⟨trivial,rfl,trivial⟩
 refine ab (fun h=>?_) (fun h6=>?_)
 ·rw [Xo h];exact ⟨trivial,rfl,trivial⟩
 refine ab (fun h=>?_) (fun h7=>?_)
 ·rw [Xo h];exact ⟨trivial,rfl,trivial⟩
 refine ab (fun h=>?_) (fun h8=>?_)
 ·rw [Xo h];exact ⟨trivial,rfl,trivial⟩
 refine ab (fun h=>?_) (fun h9=>?_)
 ·rw [Xo h];exact ⟨trivial,rfl,trivial⟩
 refine ab (fun h=>?_) (fun h10=>?_)
 ·rw [Xo h];exact ⟨trivial,rfl,trivial⟩
 refine ab (fun h=>?_) (fun h11=>?_)
 ·rw [Xo h];exact ⟨trivial,rfl,trivial⟩
 refine ab (fun h=>?_) (fun h12=>?_)
 ·rw [Xo h];exact ⟨trivial,rfl,trivial⟩
 refine ab (fun h=>?_) (fun h13=>?_)
 ·rw [Xo h];exact ⟨trivial,rfl,trivial⟩
 refine ab (fun h=>?_) (fun h14=>?_)
 ·rw [Xo h];exact ⟨trivial,rfl,trivial⟩
 refine ab (fun h=>?_) (fun h15=>?_)
 ·rw [Xo h];exact ⟨trivial,rfl,trivial⟩
 refine ab (fun h=>?_) (fun h16=>?_)
 ·rw [Xo h];exact ⟨trivial,rfl,trivial⟩
 refine ab (fun h=>?_) (fun h17=>?_)
 ·rw [Xo h];exact ⟨trivial,rfl,trivial⟩
 refine ab (fun h=>?_) (fun h18=>?_)
 ·rw [Xo h];exact ⟨trivial,rfl,trivial⟩
 refine ab (fun h=>?_) (fun h19=>?_)
 ·rw [Xo h];exact ⟨trivial,rfl,trivial⟩
 refine ⟨trivial,?_,trivial⟩
 symm
 refine Xf fun hm=>?_
 unfold EX at hm
 rcases List.mem_cons.1 hm with e | hm
 ·exact h0 (Xd e)
 rcases List.mem_cons.1 hm with e | hm
 ·exact h1 (Xd e)
 rcases List.mem_cons.1 hm with e | hm
 ·exact h2 (Xd e)
 rcases List.mem_cons.1 hm with e | hm
 ·exact h3 (Xd e)
 rcases List.mem_cons.1 hm with e | hm
 ·exact h4 (Xd e)
 rcases List.mem_cons.1 hm with e | hm
 ·exact h5 (Xd e)
 rcases List.mem_cons.1 hm with e | hm
 ·exact h6 (Xd e)
 rcases List.mem_cons.1 hm with e | hm
 ·exact h7 (Xd e)
 rcases List.mem_cons.1 hm with e | hm
 ·exact h8 (Xd e)
 rcases List.mem_cons.1 hm with e | hm
 ·exact h9 (Xd e)
 rcases List.mem_cons.1 hm with e | hm
 ·exact h10 (Xd e)
 rcases List.mem_cons.1 hm with e | hm
 ·exact h11 (Xd e)
 rcases List.mem_cons.1 hm with e | hm
 ·exact h12 (Xd e)
 rcases List.mem_cons.1 hm with e | hm
 ·exact h13 (Xd e)
 rcases List.mem_cons.1 hm with e | hm
 ·exact h14 (Xd e)
 rcases List.mem_cons.1 hm with e | hm
 ·exact h15 (Xd e)
 rcases List.mem_cons.1 hm with e | hm
 ·exact h16 (Xd e)
 rcases List.mem_cons.1 hm with e | hm
 ·exact h17 (Xd e)
 rcases List.mem_cons.1 hm with e | hm
 ·exact h18 (Xd e)
 rcases List.mem_cons.1 hm with e | hm
 ·exact h19 (Xd e)
 exact absurd hm List.not_mem_nil
theorem Ew (s:Str)  :
  if ct db s=true then True/\(!dN s)=ba s/\True else True/\false=ba s/\True:=by
 unfold ba;cases ct db s <;> simp
theorem D5 (s:Str)  :
  True/\ct dm s=fc s/\True:=by
 simp [fc]
theorem B5 (a:List Str) (v:Str) (ha:Wf (.lst .str) a) :
  (∃(x:Nat),(x<=List.length a/\cd a v (0:Int)=cd (List.drop x a) v (↑x:Int))/\(0:Int)=(↑x:Int)/\a=a/\v=v/\(↑(List.length a):Int)=(↑(List.length a):Int)/\True)/\∀(x:Nat),x<=List.length a/\cd a v (0:Int)=cd (List.drop x a) v (↑x:Int)→if decide ((↑x:Int) < (↑(List.length a):Int))=true then ((0:Int)<=(↑x:Int)/\(↑x:Int) < (↑(List.length a):Int))/\if decide (v=List.getD a (Int.toNat (↑x:Int)) (dfl Ty.str))=true then True/\(↑x:Int)=cd a v (0:Int)/\True else inR IntKind.i64 ((↑x:Int)+(1:Int))/\∃(y:Nat),(y<=List.length a/\cd a v (0:Int)=cd (List.drop y a) v (↑y:Int))/\List.length a - y < List.length a - x/\(↑x:Int)+(1:Int)=(↑y:Int)/\a=a/\v=v/\(↑(List.length a):Int)=(↑(List.length a):Int)/\True else True/\(-1:Int)=cd a v (0:Int)/\True:=by
 have la:=ha.len
 simp only [Int.toNat_natCast,eq_self,true_and,and_true]
 refine ⟨⟨0,⟨by omega,by simp⟩,by simp⟩,?_⟩
 rintro k ⟨h1,h3⟩
 refine ab (fun h=>?_) (fun h=>?_)
 ·replace h:=Xo h
  have hk:k < a.length:=by omega
  rw [aC a k (dfl .str) hk] at h3
  refine ⟨by omega,?_⟩
  by_cases e:a.getD k (dfl .str)=v
  ·rw [if_pos (by simpa using e.symm),h3,cd,if_pos e]
  ·rw [if_neg (by simpa using fun h=>e h.symm)]
   exact ⟨bc hk la,k+1,⟨by omega,by rw [h3,cd,if_neg e];rfl⟩,by omega,by omega⟩
 ·replace h:¬((k:Int) < (a.length:Int)):=fun e=>h (Xd e)
  have e:k=a.length:=by omega
  subst e;rw [h3];simp [cd]
theorem D6 (s:Str)  :
  if decide (s=[(73:UInt8),(110:UInt8),(116:UInt8)])=true then True/\true=ij s/\True else if decide (s=[(66:UInt8),(111:UInt8),(111:UInt8),(108:UInt8)])=true then True/\true=ij s/\True else if decide (s=[(84:UInt8),(101:UInt8),(120:UInt8),(116:UInt8)])=true then True/\true=ij s/\True else True/\decide (s=[(65:UInt8),(110:UInt8),(121:UInt8)])=ij s/\True:=by
 simp only [eq_self,true_and,and_true,ij]
 by_cases a:s=[73,110,116] <;> by_cases b:s=[66,111,111,108] <;> by_cases c:s=[84,101,120,116] <;> by_cases d:s=[65,110,121] <;> simp [a,b,c,d]
theorem B6 (a:List Str)  :
  True/\a=a/\True:=by
 trivial
theorem D7 (s:Shape) (hs:Wf (.st .shape) s) (ho:s.parts.length *16<=140737488355328) :
  if (!decide ((↑(List.length s.names):Int)=(↑(List.length s.parts):Int)))=true then True/\false=cw s/\True else (∃(x:Nat),(x<=List.length s.names/\List.length s.names=List.length s.parts/\cw s=(List.all (List.drop x s.names) ba && decide (List.Nodup s.names)))/\(0:Int)=(↑x:Int)/\s=s/\false=false/\s.names=s.names/\(↑(List.length s.names):Int)=(↑(List.length s.names):Int)/\s=s/\True)/\∀(x:Nat),x<=List.length s.names/\List.length s.names=List.length s.parts/\cw s=(List.all (List.drop x s.names) ba && decide (List.Nodup s.names))→if decide ((↑x:Int) < (↑(List.length s.names):Int))=true then ((0:Int)<=(↑x:Int)/\(↑x:Int) < (↑(List.length s.names):Int))/\if (!ba (List.getD s.names (Int.toNat (↑x:Int)) (dfl Ty.str)))=true then True/\false=cw s/\True else inR IntKind.i64 ((↑x:Int)+(1:Int))/\∃(y:Nat),(y<=List.length s.names/\List.length s.names=List.length s.parts/\cw s=(List.all (List.drop y s.names) ba && decide (List.Nodup s.names)))/\List.length s.names - y < List.length s.names - x/\(↑x:Int)+(1:Int)=(↑y:Int)/\s=s/\false=false/\s.names=s.names/\(↑(List.length s.names):Int)=(↑(List.length s.names):Int)/\s=s/\True else List.length s.names *(16:Nat)<=(140737488355328:Nat)/\List.length (List.mergeSort s.names fun (x y:Str) ↦decide (x<=y))=List.length (List.mergeSort s.names fun (x y:Str) ↦decide (x<=y))/\True/\decide ((↑(List.length (Lib.compact (List.mergeSort s.names fun (x y:Str) ↦decide (x<=y)))):Int)=(↑(List.length s.names):Int))=cw s/\True:=by
 have ln:=hs.names.len
 simp only [Int.toNat_natCast,eq_self,true_and,and_true]
 refine ab (fun h=>?_) (fun h=>?_)
 ·have:s.names.length≠s.parts.length:=by simp at h;omega
  simp [cw,this]
 have hl:s.names.length=s.parts.length:=by simp at h;omega
 refine ⟨⟨0,⟨by omega,hl,by simp [cw,hl]⟩,rfl⟩,?_⟩
 rintro k ⟨h1,_,h3⟩
 refine ab (fun h=>?_) (fun h=>?_)
 ·replace h:=Xo h
  have hk:k < s.names.length:=by omega
  rw [aC s.names k (dfl .str) hk] at h3
  refine ⟨by omega,?_⟩
  simp only [List.all_cons] at h3
  cases e:ba (s.names.getD k (dfl .str))
  ·rw [e] at h3;rw [h3];simp
  ·simp only [e,Bool.true_and] at h3
   exact ⟨bc hk ln,k+1,⟨by omega,hl,h3⟩,by omega,by omega⟩
 ·replace h:¬((k:Int) < (s.names.length:Int)):=fun e=>h (Xd e)
  have e:k=s.names.length:=by omega
  subst e
  have hc:=jR s.names
  unfold eX at hc
  refine ⟨by omega,?_⟩
  rw [h3,List.drop_length]
  simp only [List.all_nil,Bool.true_and]
  rw [decide_eq_decide,←hc]
  omega
theorem Ex (s:Shape) (hs:Wf (.st .shape) s) (ho:s.parts.length *16<=140737488355328) :
  if decide (s.pkg=[])=true then if decide (s.kind=(1:Int))=true then if decide (s.name=[])=true then if decide ((↑(List.length s.names):Int)=(0:Int))=true then True/\decide ((↑(List.length s.parts):Int)=(0:Int))=ai s/\True else True/\false=ai s/\True else True/\false=ai s/\True else if decide (s.kind=(2:Int))=true then if decide (s.name=[])=true then if decide ((↑(List.length s.names):Int)=(0:Int))=true then True/\decide ((↑(List.length s.parts):Int)=(0:Int))=ai s/\True else True/\false=ai s/\True else True/\false=ai s/\True else if decide (s.kind=(3:Int))=true then if decide (s.name=[])=true then if decide ((↑(List.length s.names):Int)=(0:Int))=true then True/\decide ((↑(List.length s.parts):Int)=(0:Int))=ai s/\True else True/\false=ai s/\True else True/\false=ai s/\True else if decide (s.kind=(4:Int))=true then if decide (s.name=[])=true then if decide ((↑(List.length s.names):Int)=(0:Int))=true then True/\decide ((↑(List.length s.parts):Int)=(0:Int))=ai s/\True else True/\false=ai s/\True else True/\false=ai s/\True else if decide (s.kind=(5:Int))=true then if decide (s.name=[])=true then if decide ((↑(List.length s.names):Int)=(0:Int))=true then True/\decide ((↑(List.length s.parts):Int)=(1:Int))=ai s/\True else True/\false=ai s/\True else True/\false=ai s/\True else if decide (s.kind=(6:Int))=true then if decide (s.name=[])=true then List.length s.parts *(16:Nat)<=(140737488355328:Nat)/\True/\cw s=ai s/\True else True/\false=ai s/\True else if decide (s.kind=(7:Int))=true then if decide (s.name=[])=true then List.length s.parts *(16:Nat)<=(140737488355328:Nat)/\True/\cw s=ai s/\True else True/\false=ai s/\True else if decide (s.kind=(8:Int))=true then if decide (s.name=[])=true then if decide ((↑(List.length s.names):Int)=(0:Int))=true then True/\decide ((0:Int) < (↑(List.length s.parts):Int))=ai s/\True else True/\false=ai s/\True else True/\false=ai s/\True else if decide (s.kind=(9:Int))=true then if fc s.name=true then if decide (s.pkg=[])=true then if (!ij s.name)=true then if decide ((↑(List.length s.names):Int)=(0:Int))=true then True/\decide ((↑(List.length s.parts):Int)=(0:Int))=ai s/\True else True/\false=ai s/\True else if ba s.pkg=true then if decide ((↑(List.length s.names):Int)=(0:Int))=true then True/\decide ((↑(List.length s.parts):Int)=(0:Int))=ai s/\True else True/\false=ai s/\True else True/\false=ai s/\True else if ba s.pkg=true then if decide ((↑(List.length s.names):Int)=(0:Int))=true then True/\decide ((↑(List.length s.parts):Int)=(0:Int))=ai s/\True else True/\false=ai s/\True else True/\false=ai s/\True else True/\false=ai s/\True else if decide (s.kind=(10:Int))=true then if fc s.name=true then if ba s.pkg=true then if decide ((↑(List.length s.names):Int)=(0:Int))=true then True/\decide ((↑(List.length s.parts):Int)=(0:Int))=ai s/\True else True/\false=ai s/\True else True/\false=ai s/\True else True/\false=ai s/\True else True/\false=ai s/\True else if decide (s.kind=(1:Int))=true then True/\false=ai s/\True else if decide (s.kind=(2:Int))=true then True/\false=ai s/\True else if decide (s.kind=(3:Int))=true then True/\false=ai s/\True else if decide (s.kind=(4:Int))=true then True/\false=ai s/\True else if decide (s.kind=(5:Int))=true then True/\false=ai s/\True else if decide (s.kind=(6:Int))=true then True/\false=ai s/\True else if decide (s.kind=(7:Int))=true then True
  /\false=ai s/\True else if decide (s.kind=(8:Int))=true then True/\false=ai s/\True else if decide (s.kind=(9:Int))=true then if fc s.name=true then if decide (s.pkg=[])=true then if (!ij s.name)=true then if decide ((↑(List.length s.names):Int)=(0:Int))=true then True/\decide ((↑(List.length s.parts):Int)=(0:Int))=ai s/\True else True/\false=ai s/\True else if ba s.pkg=true then if decide ((↑(List.length s.names):Int)=(0:Int))=true then True/\decide ((↑(List.length s.parts):Int)=(0:Int))=ai s/\True else True/\false=ai s/\True else True/\false=ai s/\True else if ba s.pkg=true then if decide ((↑(List.length s.names):Int)=(0:Int))=true then True/\decide ((↑(List.length s.parts):Int)=(0:Int))=ai s/\True else True/\false=ai s/\True else True/\false=ai s/\True else True/\false=ai s/\True else if decide (s.kind=(10:Int))=true then if fc s.name=true then if ba s.pkg=true then if decide ((↑(List.length s.names):Int)=(0:Int))=true then True/\decide ((↑(List.length s.parts):Int)=(0:Int))=ai s/\True else True/\false=ai s/\True else True/\false=ai s/\True else True/\false=ai s/\True else True/\false=ai s/\True:=by
 have n0:((s.names.length:Int)=0)↔s.names=[]:=by rw [←List.length_eq_zero_iff];omega
 have p0:((s.parts.length:Int)=0)↔s.parts=[]:=by rw [←List.length_eq_zero_iff];omega
 have p1:((s.parts.length:Int)=1)↔s.parts.length=1:=by omega
 have p2:(0 < (s.parts.length:Int))↔¬s.parts=[]:=by rw [←List.length_eq_zero_iff];omega
 simp only [n0,p0,p1,p2,decide_eq_true_eq,true_and,and_true,ho]
 have hf:ai s=ai s:=rfl
 conv at hf=>rhs;unfold ai
 revert hf
 generalize ai s=F
 generalize cw s=A
 generalize fc s.name=B
 generalize ba s.pkg=C
 generalize ij s.name=D
 generalize s.kind=K
 intro hf
 repeat' (refine ab (fun _=>?_) (fun _=>?_))
 all_goals (subst hf;simp_all)
theorem xX (n:Nat) (s:Shape) (hs:Wf (.st .shape) s) (hn:sz s<=n+1) (hb:n<=1000000) :
  List.length s.parts *(16:Nat)<=(140737488355328:Nat)/\if (!ai s)=true then True/\false=allS ai s/\True else (∃(x:Nat),(x<=List.length s.parts/\allS ai s=allL ai (List.drop x s.parts))/\(0:Int)=(↑x:Int)/\s=s/\false=false/\s.parts=s.parts/\(↑(List.length s.parts):Int)=(↑(List.length s.parts):Int)/\s=s/\True)/\∀(x:Nat),x<=List.length s.parts/\allS ai s=allL ai (List.drop x s.parts)→if decide ((↑x:Int) < (↑(List.length s.parts):Int))=true then ((0:Int)<=(↑x:Int)/\(↑x:Int) < (↑(List.length s.parts):Int))/\sz (List.getD s.parts (Int.toNat (↑x:Int)) (dfl (Ty.st SN.shape)))<=n/\if (!allS ai (List.getD s.parts (Int.toNat (↑x:Int)) (dfl (Ty.st SN.shape))))=true then True/\false=allS ai s/\True else inR IntKind.i64 ((↑x:Int)+(1:Int))/\∃(y:Nat),(y<=List.length s.parts/\allS ai s=allL ai (List.drop y s.parts))/\List.length s.parts - y < List.length s.parts - x/\(↑x:Int)+(1:Int)=(↑y:Int)/\s=s/\false=false/\s.parts=s.parts/\(↑(List.length s.parts):Int)=(↑(List.length s.parts):Int)/\s=s/\True else True/\true=allS ai s/\True:=by
 have ln:=hs.parts.len
 have hz:=dT s
 have hl:=lL s.parts
 simp only [Int.toNat_natCast,eq_self,true_and,and_true]
 refine ⟨by omega,ab (fun h=>?_) (fun h=>?_)⟩
 ·rw [fJ];simp at h;simp [h]
 refine ⟨⟨0,⟨by omega,by rw [fJ];simp at h;simp [h]⟩,rfl⟩,?_⟩
 rintro k ⟨h1,h3⟩
 refine ab (fun h=>?_) (fun h=>?_)
 ·replace h:=Xo h
  have hk:k < s.parts.length:=by omega
  have hm:=bP (getD_mem s.parts k (dfl (.st .shape)) hk)
  rw [aC s.parts k (dfl (.st .shape)) hk] at h3
  simp only [allL] at h3
  refine ⟨by omega,by omega,?_⟩
  cases e:allS ai (s.parts.getD k (dfl (.st .shape)))
  ·rw [e] at h3;rw [h3];simp
  ·simp only [e,Bool.true_and] at h3
   exact ⟨bc hk ln,k+1,⟨by omega,h3⟩,by omega,by omega⟩
 ·replace h:¬((k:Int) < (s.parts.length:Int)):=fun e=>h (Xd e)
  have e:k=s.parts.length:=by omega
  subst e
  rw [h3,List.drop_length];rfl
theorem B7 (n:Nat) (s:Shape) (hs:Wf (.st .shape) s) (hn:sz s<=n+1) (ho:allS dw s=true) (hb:n<=1000000) :
  ((0:Int)<=(↑(List.length s.parts):Int)/\(↑(List.length s.parts):Int)<=(↑(List.length s.parts):Int)/\(↑(List.length s.parts):Int) *(↑(8:Nat):Int)<=(140737488355328:Int))/\(∃(x:Nat),x<=List.length s.parts/\(0:Int)=(↑x:Int)/\s=s/\Int.toNat (↑(List.length s.parts):Int)=Int.toNat (↑(List.length s.parts):Int)/\(↑(Int.toNat (↑(List.length s.parts):Int)):Int)=(↑(Int.toNat (↑(List.length s.parts):Int)):Int)/\List.replicate (Int.toNat (↑(List.length s.parts):Int)) (0:Int)=bQ x++List.replicate (List.length s.parts - x) (0:Int)/\s=s/\(0:Int)=(0:Int)/\aK UInt8=aK UInt8/\aK UInt8=aK UInt8/\s.kind=s.kind/\s.pkg=s.pkg/\s.name=s.name/\True)/\∀(x:Nat),x<=List.length s.parts→if decide ((↑x:Int) < (↑(Int.toNat (↑(List.length s.parts):Int)):Int))=true then ((0:Int)<=(↑x:Int)/\(↑x:Int) < (↑(Int.toNat (↑(List.length s.parts):Int)):Int))/\Int.toNat (↑x:Int) < List.length (bQ x++List.replicate (List.length s.parts - x) (0:Int))/\inR IntKind.i64 ((↑x:Int)+(1:Int))/\∃(y:Nat),y<=List.length s.parts/\List.length s.parts - y < List.length s.parts - x/\(↑x:Int)+(1:Int)=(↑y:Int)/\s=s/\Int.toNat (↑(List.length s.parts):Int)=Int.toNat (↑(List.length s.parts):Int)/\(↑(Int.toNat (↑(List.length s.parts):Int)):Int)=(↑(Int.toNat (↑(List.length s.parts):Int)):Int)/\List.set (bQ x++List.replicate (List.length s.parts - x) (0:Int)) (Int.toNat (↑x:Int)) (↑x:Int)=bQ y++List.replicate (List.length s.parts - y) (0:Int)/\s=s/\(0:Int)=(0:Int)/\aK UInt8=aK UInt8/\aK UInt8=aK UInt8/\s.kind=s.kind/\s.pkg=s.pkg/\s.name=s.name/\True else if decide ((0:Int) < (↑(List.length s.names):Int))=true then (Int.toNat (↑(List.length s.parts):Int)=List.length (bQ x++List.replicate (List.length s.parts - x) (0:Int))/\bQ x++List.replicate (List.length s.parts - x) (0:Int)≠[]/\(∀(x_1:Int),x_1∈bQ x++List.replicate (List.length s.parts - x) (0:Int)→(0:Int)<=x_1/\x_1 < (↑(List.length s.names):Int))/\List.Nodup s.names/\List.length (bQ x++List.replicate (List.length s.parts - x) (0:Int)) < (4611686018427387904:Nat))/\(∃(x_1:Nat),x_1<=List.length s.parts/\(0:Int)=(↑x_1:Int)/\(↑x:Int)=(↑x:Int)/\s=s/\Int.toNat (↑(List.length s.parts):Int)=Int.toNat (↑(List.length s.parts):Int)/\(↑(Int.toNat (↑(List.length s.parts):Int)):Int)=(↑(Int.toNat (↑(List.length s.parts):Int)):Int)/\false=false/\true=true/\Int.toNat (↑(List.length s.parts):Int)=Int.toNat (↑(List.length s.parts):Int)/\(↑(Int.toNat (↑(List.length s.parts):Int)):Int)=(↑(Int.toNat (↑(List.length s.parts):Int)):Int)/\s.kind=s.kind/\s.pkg=s.pkg/\s.name=s.name/\(if s.names=[] then [] else List.map (fun (i:Int) ↦List.getD s.names (Int.toNat i) []) (List.take x_1 (al s)))=[]/\List.map (fun (i:Int) ↦List.getD (sortedL s.parts) (Int.toNat i) cQ) (List.take x_1 (al s))=[]/\(List.mergeSort (bQ x++List.replicate (List.length s.parts - x) (0:Int)) fun (i j:Int) ↦decide (List.getD s.names (Int.toNat i) []<=List.getD s.names (Int.toNat j) []))=al s/\List.length (if s.names=[] then [] else List.map (fun (i:Int) ↦List.getD s.names (Int.toNat i) []) (List.take x_1 (al s)))=(0:Nat)/\x_1=(0:Nat)/\s=s/\(0:Int)=(0:Int)/\aK UInt8=aK UInt8/\aK UInt8=aK UInt8/\True)/\∀(x_1:Nat),x_1<=List.length s.parts→if decide ((↑x_1:Int) < (↑(Int.toNat (↑(List.length s.parts):Int)):Int))=true then ((0:Int)<=(↑x_1:Int)/\(↑x_1:Int) < (↑(Int.toNat (↑(List.length s.parts):Int)):Int))/\Int.toNat (↑x_1:Int) < List.length (al s)/\if decide ((0:Int) < (↑(List.length s.names):Int))=true then ((0:Int)<=List.getD (al s) (Int.toNat (↑x_1:Int)) (dfl (Ty.int IntKind.i64))
  /\List.getD (al s) (Int.toNat (↑x_1:Int)) (dfl (Ty.int IntKind.i64)) < (↑(List.length s.names):Int))/\(List.length (if s.names=[] then [] else List.map (fun (i:Int) ↦List.getD s.names (Int.toNat i) []) (List.take x_1 (al s)))=List.length (if s.names=[] then [] else List.map (fun (i:Int) ↦List.getD s.names (Int.toNat i) []) (List.take x_1 (al s)))/\(List.length (if s.names=[] then [] else List.map (fun (i:Int) ↦List.getD s.names (Int.toNat i) []) (List.take x_1 (al s)))+List.length [List.getD s.names (Int.toNat (List.getD (al s) (Int.toNat (↑x_1:Int)) (dfl (Ty.int IntKind.i64)))) (dfl Ty.str)]) *(16:Nat)<=(140737488355328:Nat))/\((0:Int)<=List.getD (al s) (Int.toNat (↑x_1:Int)) (dfl (Ty.int IntKind.i64))/\List.getD (al s) (Int.toNat (↑x_1:Int)) (dfl (Ty.int IntKind.i64)) < (↑(List.length s.parts):Int))/\(sz (List.getD s.parts (Int.toNat (List.getD (al s) (Int.toNat (↑x_1:Int)) (dfl (Ty.int IntKind.i64)))) (dfl (Ty.st SN.shape)))<=n/\allS dw (List.getD s.parts (Int.toNat (List.getD (al s) (Int.toNat (↑x_1:Int)) (dfl (Ty.int IntKind.i64)))) (dfl (Ty.st SN.shape)))=true)/\(List.length (List.map (fun (i:Int) ↦List.getD (sortedL s.parts) (Int.toNat i) cQ) (List.take x_1 (al s)))=x_1/\(List.length (List.map (fun (i:Int) ↦List.getD (sortedL s.parts) (Int.toNat i) cQ) (List.take x_1 (al s)))+List.length [sortedS (List.getD s.parts (Int.toNat (List.getD (al s) (Int.toNat (↑x_1:Int)) (dfl (Ty.int IntKind.i64)))) (dfl (Ty.st SN.shape)))]) *(88:Nat)<=(140737488355328:Nat))/\inR IntKind.i64 ((↑x_1:Int)+(1:Int))/\∃(y:Nat),y<=List.length s.parts/\List.length s.parts - y < List.length s.parts - x_1/\(↑x_1:Int)+(1:Int)=(↑y:Int)/\(↑x:Int)=(↑x:Int)/\s=s/\Int.toNat (↑(List.length s.parts):Int)=Int.toNat (↑(List.length s.parts):Int)/\(↑(Int.toNat (↑(List.length s.parts):Int)):Int)=(↑(Int.toNat (↑(List.length s.parts):Int)):Int)/\false=false/\true=true/\Int.toNat (↑(List.length s.parts):Int)=Int.toNat (↑(List.length s.parts):Int)/\(↑(Int.toNat (↑(List.length s.parts):Int)):Int)=(↑(Int.toNat (↑(List.length s.parts):Int)):Int)/\s.kind=s.kind/\s.pkg=s.pkg/\s.name=s.name/\((if s.names=[] then [] else List.map (fun (i:Int) ↦List.getD s.names (Int.toNat i) []) (List.take x_1 (al s)))++[List.getD s.names (Int.toNat (List.getD (al s) (Int.toNat (↑x_1:Int)) (dfl (Ty.int IntKind.i64)))) (dfl Ty.str)]=if s.names=[] then [] else List.map (fun (i:Int) ↦List.getD s.names (Int.toNat i) []) (List.take y (al s)))/\List.map (fun (i:Int) ↦List.getD (sortedL s.parts) (Int.toNat i) cQ) (List.take x_1 (al s))++[sortedS (List.getD s.parts (Int.toNat (List.getD (al s) (Int.toNat (↑x_1:Int)) (dfl (Ty.int IntKind.i64)))) (dfl (Ty.st SN.shape)))]=List.map (fun (i:Int) ↦List.getD (sortedL s.parts) (Int.toNat i) cQ) (List.take y (al s))/\al s=al s/\List.length ((if s.names=[] then [] else List.map (fun (i:Int) ↦List.getD s.names (Int.toNat i) []) (List.take x_1 (al s)))++[List.getD s.names (Int.toNat (List.getD (al s) (Int.toNat (↑x_1:Int)) (dfl (Ty.int IntKind.i64)))) (dfl Ty.str)])=List.length (if s.names=[] then [] else List.map (fun (i:Int) ↦List.getD s.names (Int.toNat i) []) (List.take y (al s)))/\List.length (List.map (fun (i:Int) ↦List.getD (sortedL s.parts) (Int.toNat i) cQ) (List.take x_1 (al s))++[sortedS (List.getD s.parts (Int.toNat (List.getD (al s) (Int.toNat (↑x_1:Int)) (dfl (Ty.int IntKind.i64)))) (dfl (Ty.st SN.shape)))])=y/\s=s/\(0:Int)=(0:Int)/\aK UInt8=aK UInt8/\aK UInt8=aK UInt8/\True else ((0:Int)<=List.getD (al s) (Int.toNat (↑x_1:Int)) (dfl (Ty.int IntKind.i64))/\List.getD (al s) (Int.toNat (↑x_1:Int)) (dfl (Ty.int IntKind.i64)) < (↑(List.length s.parts):Int))
  /\(sz (List.getD s.parts (Int.toNat (List.getD (al s) (Int.toNat (↑x_1:Int)) (dfl (Ty.int IntKind.i64)))) (dfl (Ty.st SN.shape)))<=n/\allS dw (List.getD s.parts (Int.toNat (List.getD (al s) (Int.toNat (↑x_1:Int)) (dfl (Ty.int IntKind.i64)))) (dfl (Ty.st SN.shape)))=true)/\(List.length (List.map (fun (i:Int) ↦List.getD (sortedL s.parts) (Int.toNat i) cQ) (List.take x_1 (al s)))=x_1/\(List.length (List.map (fun (i:Int) ↦List.getD (sortedL s.parts) (Int.toNat i) cQ) (List.take x_1 (al s)))+List.length [sortedS (List.getD s.parts (Int.toNat (List.getD (al s) (Int.toNat (↑x_1:Int)) (dfl (Ty.int IntKind.i64)))) (dfl (Ty.st SN.shape)))]) *(88:Nat)<=(140737488355328:Nat))/\inR IntKind.i64 ((↑x_1:Int)+(1:Int))/\∃(y:Nat),y<=List.length s.parts/\List.length s.parts - y < List.length s.parts - x_1/\(↑x_1:Int)+(1:Int)=(↑y:Int)/\(↑x:Int)=(↑x:Int)/\s=s/\Int.toNat (↑(List.length s.parts):Int)=Int.toNat (↑(List.length s.parts):Int)/\(↑(Int.toNat (↑(List.length s.parts):Int)):Int)=(↑(Int.toNat (↑(List.length s.parts):Int)):Int)/\false=false/\true=true/\Int.toNat (↑(List.length s.parts):Int)=Int.toNat (↑(List.length s.parts):Int)/\(↑(Int.toNat (↑(List.length s.parts):Int)):Int)=(↑(Int.toNat (↑(List.length s.parts):Int)):Int)/\s.kind=s.kind/\s.pkg=s.pkg/\s.name=s.name/\((if s.names=[] then [] else List.map (fun (i:Int) ↦List.getD s.names (Int.toNat i) []) (List.take x_1 (al s)))=if s.names=[] then [] else List.map (fun (i:Int) ↦List.getD s.names (Int.toNat i) []) (List.take y (al s)))/\List.map (fun (i:Int) ↦List.getD (sortedL s.parts) (Int.toNat i) cQ) (List.take x_1 (al s))++[sortedS (List.getD s.parts (Int.toNat (List.getD (al s) (Int.toNat (↑x_1:Int)) (dfl (Ty.int IntKind.i64)))) (dfl (Ty.st SN.shape)))]=List.map (fun (i:Int) ↦List.getD (sortedL s.parts) (Int.toNat i) cQ) (List.take y (al s))/\al s=al s/\List.length (if s.names=[] then [] else List.map (fun (i:Int) ↦List.getD s.names (Int.toNat i) []) (List.take x_1 (al s)))=List.length (if s.names=[] then [] else List.map (fun (i:Int) ↦List.getD s.names (Int.toNat i) []) (List.take y (al s)))/\List.length (List.map (fun (i:Int) ↦List.getD (sortedL s.parts) (Int.toNat i) cQ) (List.take x_1 (al s))++[sortedS (List.getD s.parts (Int.toNat (List.getD (al s) (Int.toNat (↑x_1:Int)) (dfl (Ty.int IntKind.i64)))) (dfl (Ty.st SN.shape)))])=y/\s=s/\(0:Int)=(0:Int)/\aK UInt8=aK UInt8/\aK UInt8=aK UInt8/\True else True/\s.kind=(sortedS s).kind/\s.pkg=(sortedS s).pkg/\s.name=(sortedS s).name/\(if s.names=[] then [] else List.map (fun (i:Int) ↦List.getD s.names (Int.toNat i) []) (List.take x_1 (al s)))=(sortedS s).names/\List.map (fun (i:Int) ↦List.getD (sortedL s.parts) (Int.toNat i) cQ) (List.take x_1 (al s))=(sortedS s).parts/\True else (∃(x_1:Nat),x_1<=List.length s.parts/\(0:Int)=(↑x_1:Int)/\(↑x:Int)=(↑x:Int)/\s=s/\Int.toNat (↑(List.length s.parts):Int)=Int.toNat (↑(List.length s.parts):Int)/\(↑(Int.toNat (↑(List.length s.parts):Int)):Int)=(↑(Int.toNat (↑(List.length s.parts):Int)):Int)/\false=false/\false=false/\Int.toNat (↑(List.length s.parts):Int)=Int.toNat (↑(List.length s.parts):Int)/\(↑(Int.toNat (↑(List.length s.parts):Int)):Int)=(↑(Int.toNat (↑(List.length s.parts):Int)):Int)/\s.kind=s.kind/\s.pkg=s.pkg/\s.name=s.name/\(if s.names=[] then [] else List.map (fun (i:Int) ↦List.getD s.names (Int.toNat i) []) (List.take x_1 (al s)))=[]/\List.map (fun (i:Int) ↦List.getD (sortedL s.parts) (Int.toNat i) cQ) (List.take x_1 (al s))=[]/\bQ x++List.replicate (List.length s.parts - x) (0:Int)=al s/\List.length (if s.names=[] then []
  else List.map (fun (i:Int) ↦List.getD s.names (Int.toNat i) []) (List.take x_1 (al s)))=(0:Nat)/\x_1=(0:Nat)/\s=s/\(0:Int)=(0:Int)/\aK UInt8=aK UInt8/\aK UInt8=aK UInt8/\True)/\∀(x_1:Nat),x_1<=List.length s.parts→if decide ((↑x_1:Int) < (↑(Int.toNat (↑(List.length s.parts):Int)):Int))=true then ((0:Int)<=(↑x_1:Int)/\(↑x_1:Int) < (↑(Int.toNat (↑(List.length s.parts):Int)):Int))/\Int.toNat (↑x_1:Int) < List.length (al s)/\if decide ((0:Int) < (↑(List.length s.names):Int))=true then ((0:Int)<=List.getD (al s) (Int.toNat (↑x_1:Int)) (dfl (Ty.int IntKind.i64))/\List.getD (al s) (Int.toNat (↑x_1:Int)) (dfl (Ty.int IntKind.i64)) < (↑(List.length s.names):Int))/\(List.length (if s.names=[] then [] else List.map (fun (i:Int) ↦List.getD s.names (Int.toNat i) []) (List.take x_1 (al s)))=List.length (if s.names=[] then [] else List.map (fun (i:Int) ↦List.getD s.names (Int.toNat i) []) (List.take x_1 (al s)))/\(List.length (if s.names=[] then [] else List.map (fun (i:Int) ↦List.getD s.names (Int.toNat i) []) (List.take x_1 (al s)))+List.length [List.getD s.names (Int.toNat (List.getD (al s) (Int.toNat (↑x_1:Int)) (dfl (Ty.int IntKind.i64)))) (dfl Ty.str)]) *(16:Nat)<=(140737488355328:Nat))/\((0:Int)<=List.getD (al s) (Int.toNat (↑x_1:Int)) (dfl (Ty.int IntKind.i64))/\List.getD (al s) (Int.toNat (↑x_1:Int)) (dfl (Ty.int IntKind.i64)) < (↑(List.length s.parts):Int))/\(sz (List.getD s.parts (Int.toNat (List.getD (al s) (Int.toNat (↑x_1:Int)) (dfl (Ty.int IntKind.i64)))) (dfl (Ty.st SN.shape)))<=n/\allS dw (List.getD s.parts (Int.toNat (List.getD (al s) (Int.toNat (↑x_1:Int)) (dfl (Ty.int IntKind.i64)))) (dfl (Ty.st SN.shape)))=true)/\(List.length (List.map (fun (i:Int) ↦List.getD (sortedL s.parts) (Int.toNat i) cQ) (List.take x_1 (al s)))=x_1/\(List.length (List.map (fun (i:Int) ↦List.getD (sortedL s.parts) (Int.toNat i) cQ) (List.take x_1 (al s)))+List.length [sortedS (List.getD s.parts (Int.toNat (List.getD (al s) (Int.toNat (↑x_1:Int)) (dfl (Ty.int IntKind.i64)))) (dfl (Ty.st SN.shape)))]) *(88:Nat)<=(140737488355328:Nat))/\inR IntKind.i64 ((↑x_1:Int)+(1:Int))/\∃(y:Nat),y<=List.length s.parts/\List.length s.parts - y < List.length s.parts - x_1/\(↑x_1:Int)+(1:Int)=(↑y:Int)/\(↑x:Int)=(↑x:Int)/\s=s/\Int.toNat (↑(List.length s.parts):Int)=Int.toNat (↑(List.length s.parts):Int)/\(↑(Int.toNat (↑(List.length s.parts):Int)):Int)=(↑(Int.toNat (↑(List.length s.parts):Int)):Int)/\false=false/\false=false/\Int.toNat (↑(List.length s.parts):Int)=Int.toNat (↑(List.length s.parts):Int)/\(↑(Int.toNat (↑(List.length s.parts):Int)):Int)=(↑(Int.toNat (↑(List.length s.parts):Int)):Int)/\s.kind=s.kind/\s.pkg=s.pkg/\s.name=s.name/\((if s.names=[] then [] else List.map (fun (i:Int) ↦List.getD s.names (Int.toNat i) []) (List.take x_1 (al s)))++[List.getD s.names (Int.toNat (List.getD (al s) (Int.toNat (↑x_1:Int)) (dfl (Ty.int IntKind.i64)))) (dfl Ty.str)]=if s.names=[] then [] else List.map (fun (i:Int) ↦List.getD s.names (Int.toNat i) []) (List.take y (al s)))/\List.map (fun (i:Int) ↦List.getD (sortedL s.parts) (Int.toNat i) cQ) (List.take x_1 (al s))++[sortedS (List.getD s.parts (Int.toNat (List.getD (al s) (Int.toNat (↑x_1:Int)) (dfl (Ty.int IntKind.i64)))) (dfl (Ty.st SN.shape)))]=List.map (fun (i:Int) ↦List.getD (sortedL s.parts) (Int.toNat i) cQ) (List.take y (al s))/\al s=al s/\List.length ((if s.names=[] then [] else List.map (fun (i:Int) ↦List.getD s.names (Int.toNat i) []) (List.take x_1 (al s)))++[List.getD s.names (Int.toNat (List.getD (al s) (Int.toNat (↑x_1:Int)) (dfl (Ty.int IntKind.i64)))) (dfl Ty.str)])=List.length (if s.names=[] then []
  else List.map (fun (i:Int) ↦List.getD s.names (Int.toNat i) []) (List.take y (al s)))/\List.length (List.map (fun (i:Int) ↦List.getD (sortedL s.parts) (Int.toNat i) cQ) (List.take x_1 (al s))++[sortedS (List.getD s.parts (Int.toNat (List.getD (al s) (Int.toNat (↑x_1:Int)) (dfl (Ty.int IntKind.i64)))) (dfl (Ty.st SN.shape)))])=y/\s=s/\(0:Int)=(0:Int)/\aK UInt8=aK UInt8/\aK UInt8=aK UInt8/\True else ((0:Int)<=List.getD (al s) (Int.toNat (↑x_1:Int)) (dfl (Ty.int IntKind.i64))/\List.getD (al s) (Int.toNat (↑x_1:Int)) (dfl (Ty.int IntKind.i64)) < (↑(List.length s.parts):Int))/\(sz (List.getD s.parts (Int.toNat (List.getD (al s) (Int.toNat (↑x_1:Int)) (dfl (Ty.int IntKind.i64)))) (dfl (Ty.st SN.shape)))<=n/\allS dw (List.getD s.parts (Int.toNat (List.getD (al s) (Int.toNat (↑x_1:Int)) (dfl (Ty.int IntKind.i64)))) (dfl (Ty.st SN.shape)))=true)/\(List.length (List.map (fun (i:Int) ↦List.getD (sortedL s.parts) (Int.toNat i) cQ) (List.take x_1 (al s)))=x_1/\(List.length (List.map (fun (i:Int) ↦List.getD (sortedL s.parts) (Int.toNat i) cQ) (List.take x_1 (al s)))+List.length [sortedS (List.getD s.parts (Int.toNat (List.getD (al s) (Int.toNat (↑x_1:Int)) (dfl (Ty.int IntKind.i64)))) (dfl (Ty.st SN.shape)))]) *(88:Nat)<=(140737488355328:Nat))/\inR IntKind.i64 ((↑x_1:Int)+(1:Int))/\∃(y:Nat),y<=List.length s.parts/\List.length s.parts - y < List.length s.parts - x_1/\(↑x_1:Int)+(1:Int)=(↑y:Int)/\(↑x:Int)=(↑x:Int)/\s=s/\Int.toNat (↑(List.length s.parts):Int)=Int.toNat (↑(List.length s.parts):Int)/\(↑(Int.toNat (↑(List.length s.parts):Int)):Int)=(↑(Int.toNat (↑(List.length s.parts):Int)):Int)/\false=false/\false=false/\Int.toNat (↑(List.length s.parts):Int)=Int.toNat (↑(List.length s.parts):Int)/\(↑(Int.toNat (↑(List.length s.parts):Int)):Int)=(↑(Int.toNat (↑(List.length s.parts):Int)):Int)/\s.kind=s.kind/\s.pkg=s.pkg/\s.name=s.name/\((if s.names=[] then [] else List.map (fun (i:Int) ↦List.getD s.names (Int.toNat i) []) (List.take x_1 (al s)))=if s.names=[] then [] else List.map (fun (i:Int) ↦List.getD s.names (Int.toNat i) []) (List.take y (al s)))/\List.map (fun (i:Int) ↦List.getD (sortedL s.parts) (Int.toNat i) cQ) (List.take x_1 (al s))++[sortedS (List.getD s.parts (Int.toNat (List.getD (al s) (Int.toNat (↑x_1:Int)) (dfl (Ty.int IntKind.i64)))) (dfl (Ty.st SN.shape)))]=List.map (fun (i:Int) ↦List.getD (sortedL s.parts) (Int.toNat i) cQ) (List.take y (al s))/\al s=al s/\List.length (if s.names=[] then [] else List.map (fun (i:Int) ↦List.getD s.names (Int.toNat i) []) (List.take x_1 (al s)))=List.length (if s.names=[] then [] else List.map (fun (i:Int) ↦List.getD s.names (Int.toNat i) []) (List.take y (al s)))/\List.length (List.map (fun (i:Int) ↦List.getD (sortedL s.parts) (Int.toNat i) cQ) (List.take x_1 (al s))++[sortedS (List.getD s.parts (Int.toNat (List.getD (al s) (Int.toNat (↑x_1:Int)) (dfl (Ty.int IntKind.i64)))) (dfl (Ty.st SN.shape)))])=y/\s=s/\(0:Int)=(0:Int)/\aK UInt8=aK UInt8/\aK UInt8=aK UInt8/\True else True/\s.kind=(sortedS s).kind/\s.pkg=(sortedS s).pkg/\s.name=(sortedS s).name/\(if s.names=[] then [] else List.map (fun (i:Int) ↦List.getD s.names (Int.toNat i) []) (List.take x_1 (al s)))=(sortedS s).names/\List.map (fun (i:Int) ↦List.getD (sortedL s.parts) (Int.toNat i) cQ) (List.take x_1 (al s))=(sortedS s).parts/\True:=by
 have ln:=hs.parts.len
 have hz:=dT s
 have hl:=lL s.parts
 have hor:dw s=true/\allL dw s.parts=true:=by rw [fJ] at ho;simpa using ho
 simp only [Int.toNat_natCast,eq_self,true_and,and_true]
 refine ⟨by omega,⟨0,by omega,rfl,by simp [bQ]⟩,?_⟩
 rintro k hk
 refine ab (fun h=>?_) (fun h=>?_)
 ·replace h:=Xo h
  exact ⟨by omega,by simp [dq];omega,bc (by omega) ln,k+1,by omega,by omega,by omega,Ao (by omega)⟩
 replace h:¬((k:Int) < (s.parts.length:Int)):=fun e=>h (Xd e)
 have e:k=s.parts.length:=by omega
 subst e
 simp only [Nat.sub_self,List.replicate_zero,List.append_nil]
 have hr:bQ s.parts.length=[]↔s.parts=[]:=by rw [←List.length_eq_zero_iff,dq,List.length_eq_zero_iff]
 have hp2:=qN s
 have at_:∀k,k < s.parts.length→0<=(al s).getD k (dfl (.int .i64))/\(al s).getD k (dfl (.int .i64)) < s.parts.length:=fun k hk=>
  xw.1 (getD_mem (al s) k (dfl (.int .i64)) (by rw [hp2];exact hk))
 refine ab (fun h2=>?_) (fun h2=>?_)
 ·have hne:s.names≠[]:=by intro e;rw [e] at h2;simp at h2
  have ho1:s.names.length=s.parts.length/\s.names.Nodup:=by
   have:=hor.1;unfold dw at this;simpa [hne] using this
  refine ⟨⟨by rw [dq],?_,fun x hx=>?_,ho1.2,by rw [dq];omega⟩,⟨0,by omega,rfl,by simp,by simp,?_,by simp,rfl⟩,?_⟩
  ·rw [Ne,hr];intro e;rw [e] at ho1;exact hne (List.length_eq_zero_iff.1 (by simpa using ho1.1))
  ·rw [ho1.1];exact l7.1 hx
  ·unfold al fI bO;rw [if_neg hne]
  ·rintro k hk2
   refine ab (fun h=>?_) (fun h=>?_)
   ·replace h:=Xo h
    have hk3:k < s.parts.length:=by omega
    obtain ⟨a1,a2⟩:=at_ k hk3
    refine ⟨by omega,by omega,?_⟩
    rw [if_pos h2]
    have hi:((al s).getD k (dfl (.int .i64))).toNat < s.parts.length:=by omega
    have f1:=bP (getD_mem s.parts _ (dfl (.st .shape)) hi)
    have f2:=aH hor.2 (getD_mem s.parts _ (dfl (.st .shape)) hi)
    have t1:=rE (al s) k (dfl (.int .i64)) (by rw [hp2];exact hk3)
    have t2:List.map (fun i:Int=>(sortedL s.parts).getD i.toNat cQ) (List.take (k+1) (al s))=List.map (fun i:Int=>(sortedL s.parts).getD i.toNat cQ) (List.take k (al s))++[sortedS (s.parts.getD ((al s).getD k (dfl (.int .i64))).toNat (dfl (.st .shape)))]:=by rw [t1,List.map_append,List.map_singleton,je _ _ cQ (dfl (.st .shape)) hi]
    have t3:List.map (fun i:Int=>s.names.getD i.toNat []) (List.take (k+1) (al s))=List.map (fun i:Int=>s.names.getD i.toNat []) (List.take k (al s))++[s.names.getD ((al s).getD k (dfl (.int .i64))).toNat []]:=by rw [t1,List.map_append,List.map_singleton]
    have tl:(List.take k (al s)).length=k:=by rw [List.length_take,hp2];omega
    refine ⟨⟨a1,by omega⟩,?_,⟨a1,a2⟩,⟨by omega,f2⟩,⟨by rw [List.length_map,tl],by rw [List.length_map,tl];simp only [List.length_singleton];omega⟩,bc hk3 ln,k+1,by omega,by omega,by omega,?_,t2.symm,?_,?_⟩
    ·rw [if_neg hne,List.length_map,tl];simp only [List.length_singleton];omega
    ·rw [if_neg hne,if_neg hne,t3];rfl
    ·rw [if_neg hne,if_neg hne,t3];rfl
    ·rw [List.length_append,List.length_map,tl];rfl
   ·replace h:¬((k:Int) < (s.parts.length:Int)):=fun e=>h (Xd e)
    have e:k=s.parts.length:=by omega
    subst e
    rw [←hp2,List.take_length,if_neg hne]
    obtain ⟨kk,pp,nn,ns,ps⟩:=s
    simp only [sortedS]
    rw [if_neg hne]
    exact ⟨trivial,trivial,trivial,rfl,trivial⟩
 ·have hne:s.names=[]:=by
   refine Classical.byContradiction fun hc=>h2 (Xd ?_)
   have:=List.length_pos_iff.2 hc
   omega
  have hpl:al s=bQ s.parts.length:=by unfold al;rw [if_pos hne]
  simp only [hne,if_true,List.length_nil,List.length_singleton]
  refine ⟨⟨0,by omega,rfl,trivial,by simp,hpl.symm,trivial,rfl⟩,?_⟩
  rintro k hk2
  refine ab (fun h=>?_) (fun h=>?_)
  ·replace h:=Xo h
   have hk3:k < s.parts.length:=by omega
   obtain ⟨a1,a2⟩:=at_ k hk3
   refine ⟨by omega,by omega,?_⟩
   rw [if_neg (by simp)]
   have hi:((al s).getD k (dfl (.int .i64))).toNat < s.parts.length:=by omega
   have f1:=bP (getD_mem s.parts _ (dfl (.st .shape)) hi)
   have f2:=aH hor.2 (getD_mem s.parts _ (dfl (.st .shape)) hi)
   have t1:=rE (al s) k (dfl (.int .i64)) (by rw [hp2];exact hk3)
   have t2:List.map (fun i:Int=>(sortedL s.parts).getD i.toNat cQ) (List.take (k+1) (al s))=List.map (fun i:Int=>(sortedL s.parts).getD i.toNat cQ) (List.take k (al s))++[sortedS (s.parts.getD ((al s).getD k (dfl (.int .i64))).toNat (dfl (.st .shape)))]:=by rw [t1,List.map_append,List.map_singleton,je _ _ cQ (dfl (.st .shape)) hi]
   have tl:(List.take k (al s)).length=k:=by rw [List.length_take,hp2];omega
   exact ⟨⟨a1,a2⟩,⟨by omega,f2⟩,⟨by rw [List.length_map,tl],by rw [List.length_map,tl];omega⟩,bc hk3 ln,k+1,by omega,by omega,by omega,trivial,t2.symm,trivial,by rw [List.length_append,List.length_map,tl];rfl⟩
  ·replace h:¬((k:Int) < (s.parts.length:Int)):=fun e=>h (Xd e)
   have e:k=s.parts.length:=by omega
   subst e
   rw [←hp2,List.take_length]
   obtain ⟨kk,pp,nn,ns,ps⟩:=s
   simp only at hne
   subst hne
   simp only [sortedS,if_true]
   exact ⟨trivial,trivial,trivial,trivial,trivial⟩
theorem D8 (s:Shape)  :
  if (!decide (sz s<=(400:Nat)))=true then True/\(3:Int)=aq s/\True else if decide ((40:Int) < if sz s<=(400:Nat) then deepS s (1:Int) else (0:Int))=true then True/\(91:Int)=aq s/\True else sz s<=(400:Nat)/\if (!allS ai s)=true then True/\(70:Int)=aq s/\True else True/\(0:Int)=aq s/\True:=by
 unfold aq
 by_cases h1:sz s<=400
 ·rw [if_neg (by simp [h1]),if_pos h1,if_neg (show ¬400 < sz s by omega)]
  by_cases h2:(40:Int) < deepS s 1
  ·rw [if_pos (by simp [h2]),if_pos h2];exact ⟨trivial,rfl,trivial⟩
  ·rw [if_neg (by simp [h2]),if_neg h2]
   refine ⟨h1,?_⟩
   cases allS ai s <;> simp
 ·rw [if_pos (by simp [h1]),if_pos (show 400 < sz s by omega)];exact ⟨trivial,rfl,trivial⟩
theorem Ey (s:Shape)  :
  if (!decide (aq s=(0:Int)))=true then True/\s=aO s/\True else (sz s<=(400:Nat)/\allS dw s=true)/\True/\sortedS s=aO s/\True:=by
 unfold aO
 by_cases h:aq s=0
 ·rw [if_neg (by simp [h]),if_pos h]
  exact ⟨⟨(aG h).1,pI h⟩,trivial,rfl,trivial⟩
 ·rw [if_pos (by simp [h]),if_neg h];exact ⟨trivial,rfl,trivial⟩
theorem B8 (s:Shape) (hs:Wf (.st .shape) s) :
  (∃(x:Nat × List (Str × Int)),(x.1<=List.length s.names/\aM (List.drop x.1 s.names) (↑x.1:Int) x.2=aM s.names (0:Int) [])/\(0:Int)=(↑x.1:Int)/\s=s/\s.names=s.names/\(↑(List.length s.names):Int)=(↑(List.length s.names):Int)/\[]=x.2/\s=s/\True)/\∀(x:Nat × List (Str × Int)),x.1<=List.length s.names/\aM (List.drop x.1 s.names) (↑x.1:Int) x.2=aM s.names (0:Int) []→if decide ((↑x.1:Int) < (↑(List.length s.names):Int))=true then ((0:Int)<=(↑x.1:Int)/\(↑x.1:Int) < (↑(List.length s.names):Int))/\inR IntKind.i64 ((↑x.1:Int)+(1:Int))/\∃(y:Nat × List (Str × Int)),(y.1<=List.length s.names/\aM (List.drop y.1 s.names) (↑y.1:Int) y.2=aM s.names (0:Int) [])/\List.length s.names - y.1 < List.length s.names - x.1/\(↑x.1:Int)+(1:Int)=(↑y.1:Int)/\s=s/\s.names=s.names/\(↑(List.length s.names):Int)=(↑(List.length s.names):Int)/\dX x.2 (List.getD s.names (Int.toNat (↑x.1:Int)) (dfl Ty.str)) (↑x.1:Int)=y.2/\s=s/\True else True/\x.2=aM s.names (0:Int) []/\True:=by
 have ln:=hs.names.len
 simp only [Int.toNat_natCast,eq_self,true_and,and_true]
 refine ⟨⟨(0,[]),⟨Nat.zero_le _,rfl⟩,rfl,rfl⟩,?_⟩
 rintro ⟨k,m⟩ ⟨h1,h2⟩
 simp only at h1 h2 ⊢
 refine ab (fun h=>?_) (fun h=>?_)
 ·replace h:=Xo h
  have hk:k < s.names.length:=by omega
  rw [aC s.names k (dfl .str) hk] at h2
  simp only [aM] at h2
  exact ⟨by omega,bc hk ln,(k+1,_),⟨by omega,h2⟩,by simp only;omega,rfl,rfl⟩
 ·replace h:¬((k:Int) < (s.names.length:Int)):=fun e=>h (Xd e)
  have e:k=s.names.length:=by omega
  subst e
  rw [List.drop_length] at h2
  exact h2
theorem B9 (n:Nat) (a b:Shape) (ho:(allS ai a=true/\allS ai b=true/\sz a+sz b<=n)) :
  (allS ai b=true/\allS ai a=true/\sz b+sz a<=n)/\True/\au n b a=au n b a/\True:=by
 exact ⟨⟨ho.2.1,ho.1,by omega⟩,trivial,rfl,trivial⟩
theorem xY (n:Nat) (u others:Shape) (hs:Wf (.st .shape) u) (ho:(allL ai u.parts=true/\allL ai others.parts=true/\u.names.length=u.parts.length/\others.names.length=others.parts.length/\others.names.Nodup/\szL u.parts+szL others.parts<=n)) :
  (∃(x:Nat),(x<=List.length u.names/\aD (fun (p x:Shape) ↦au n x p) others u.names u.parts=aD (fun (p x:Shape) ↦au n x p) others (List.drop x u.names) (List.drop x u.parts))/\(0:Int)=(↑x:Int)/\u=u/\others=others/\u.names=u.names/\(↑(List.length u.names):Int)=(↑(List.length u.names):Int)/\u=u/\others=others/\aM others.names (0:Int) []=aM others.names (0:Int) []/\True)/\∀(x:Nat),x<=List.length u.names/\aD (fun (p x:Shape) ↦au n x p) others u.names u.parts=aD (fun (p x:Shape) ↦au n x p) others (List.drop x u.names) (List.drop x u.parts)→if decide ((↑x:Int) < (↑(List.length u.names):Int))=true then ((0:Int)<=(↑x:Int)/\(↑x:Int) < (↑(List.length u.names):Int))/\if (!Option.isSome (ck (aM others.names (0:Int) []) (List.getD u.names (Int.toNat (↑x:Int)) (dfl Ty.str))))=true then True/\false=aD (fun (p x:Shape) ↦au n x p) others u.names u.parts/\True else ((0:Int)<=(↑x:Int)/\(↑x:Int) < (↑(List.length u.parts):Int))/\((0:Int)<=Option.getD (ck (aM others.names (0:Int) []) (List.getD u.names (Int.toNat (↑x:Int)) (dfl Ty.str))) (0:Int)/\Option.getD (ck (aM others.names (0:Int) []) (List.getD u.names (Int.toNat (↑x:Int)) (dfl Ty.str))) (0:Int) < (↑(List.length others.parts):Int))/\(allS ai (List.getD u.parts (Int.toNat (↑x:Int)) (dfl (Ty.st SN.shape)))=true/\allS ai (List.getD others.parts (Int.toNat (Option.getD (ck (aM others.names (0:Int) []) (List.getD u.names (Int.toNat (↑x:Int)) (dfl Ty.str))) (0:Int))) (dfl (Ty.st SN.shape)))=true/\sz (List.getD u.parts (Int.toNat (↑x:Int)) (dfl (Ty.st SN.shape)))+sz (List.getD others.parts (Int.toNat (Option.getD (ck (aM others.names (0:Int) []) (List.getD u.names (Int.toNat (↑x:Int)) (dfl Ty.str))) (0:Int))) (dfl (Ty.st SN.shape)))<=n)/\if (!au n (List.getD others.parts (Int.toNat (Option.getD (ck (aM others.names (0:Int) []) (List.getD u.names (Int.toNat (↑x:Int)) (dfl Ty.str))) (0:Int))) (dfl (Ty.st SN.shape))) (List.getD u.parts (Int.toNat (↑x:Int)) (dfl (Ty.st SN.shape))))=true then True/\false=aD (fun (p x:Shape) ↦au n x p) others u.names u.parts/\True else inR IntKind.i64 ((↑x:Int)+(1:Int))/\∃(y:Nat),(y<=List.length u.names/\aD (fun (p x:Shape) ↦au n x p) others u.names u.parts=aD (fun (p x:Shape) ↦au n x p) others (List.drop y u.names) (List.drop y u.parts))/\List.length u.names - y < List.length u.names - x/\(↑x:Int)+(1:Int)=(↑y:Int)/\u=u/\others=others/\u.names=u.names/\(↑(List.length u.names):Int)=(↑(List.length u.names):Int)/\u=u/\others=others/\aM others.names (0:Int) []=aM others.names (0:Int) []/\True else True/\true=aD (fun (p x:Shape) ↦au n x p) others u.names u.parts/\True:=by
 have ln:=hs.names.len
 obtain ⟨o1,o2,o3,o4,o5,o6⟩:=ho
 simp only [Int.toNat_natCast,eq_self,true_and,and_true]
 refine ⟨⟨0,⟨Nat.zero_le _,rfl⟩,rfl⟩,?_⟩
 rintro k ⟨h1,h2⟩
 refine ab (fun h=>?_) (fun h=>?_)
 ·replace h:=Xo h
  have hk:k < u.names.length:=by omega
  have hk':k < u.parts.length:=by omega
  refine ⟨by omega,?_⟩
  rw [aC u.names k (dfl .str) hk,aC u.parts k (dfl (.st .shape)) hk'] at h2
  simp only [aD,aE] at h2
  have hg:=gP others.names 0 [] (u.names.getD k (dfl .str)) o5
  generalize u.names.getD k (dfl .str)=x at h2 hg ⊢
  by_cases hx:x∈others.names
  ·rw [if_pos hx] at hg
   rw [jW others.names others.parts x (dfl (.st .shape)) o4 hx] at h2
   rw [hg]
   have hi:others.names.findIdx (fun y=>decide (y=x)) < others.parts.length:=by
    rw [←o4];exact List.findIdx_lt_length_of_exists ⟨x,hx,by simp⟩
   simp only [Option.isSome_some,Bool.not_true,Bool.false_eq_true,if_false,Option.getD_some,Int.zero_add,Int.toNat_natCast]
   have f1:=getD_mem u.parts k (dfl (.st .shape)) hk'
   have f2:=getD_mem others.parts _ (dfl (.st .shape)) hi
   have z1:=bP f1
   have z2:=bP f2
   refine ⟨by omega,by omega,⟨aH o1 f1,aH o2 f2,by omega⟩,?_⟩
   generalize others.parts.getD _ (dfl (.st .shape))=q at h2 ⊢
   generalize u.parts.getD k (dfl (.st .shape))=p at h2 ⊢
   simp only at h2
   cases e:au n q p
   ·rw [e] at h2;simpa using h2.symm
   ·rw [e] at h2
    rw [if_neg (by simp)]
    exact ⟨bc hk ln,k+1,⟨by omega,by simpa using h2⟩,by omega,by omega⟩
  ·rw [if_neg hx] at hg
   rw [(jV others.names others.parts x o4).2 hx] at h2
   rw [hg]
   simpa [ck] using h2.symm
 ·replace h:¬((k:Int) < (u.names.length:Int)):=fun e=>h (Xd e)
  have e:k=u.names.length:=by omega
  subst e
  rw [h2,List.drop_length]
  rfl
theorem xZ (n:Nat) (u others:Shape) (hs:Wf (.st .shape) u) (ho:(allL ai u.parts=true/\allL ai others.parts=true/\u.names.length=u.parts.length/\others.names.length=others.parts.length/\others.names.Nodup/\szL u.parts+szL others.parts<=n)) :
  (∃(x:Nat),(x<=List.length u.names/\aD (au n) others u.names u.parts=aD (au n) others (List.drop x u.names) (List.drop x u.parts))/\(0:Int)=(↑x:Int)/\u=u/\others=others/\u.names=u.names/\(↑(List.length u.names):Int)=(↑(List.length u.names):Int)/\u=u/\others=others/\aM others.names (0:Int) []=aM others.names (0:Int) []/\True)/\∀(x:Nat),x<=List.length u.names/\aD (au n) others u.names u.parts=aD (au n) others (List.drop x u.names) (List.drop x u.parts)→if decide ((↑x:Int) < (↑(List.length u.names):Int))=true then ((0:Int)<=(↑x:Int)/\(↑x:Int) < (↑(List.length u.names):Int))/\if (!Option.isSome (ck (aM others.names (0:Int) []) (List.getD u.names (Int.toNat (↑x:Int)) (dfl Ty.str))))=true then True/\false=aD (au n) others u.names u.parts/\True else ((0:Int)<=(↑x:Int)/\(↑x:Int) < (↑(List.length u.parts):Int))/\((0:Int)<=Option.getD (ck (aM others.names (0:Int) []) (List.getD u.names (Int.toNat (↑x:Int)) (dfl Ty.str))) (0:Int)/\Option.getD (ck (aM others.names (0:Int) []) (List.getD u.names (Int.toNat (↑x:Int)) (dfl Ty.str))) (0:Int) < (↑(List.length others.parts):Int))/\(allS ai (List.getD u.parts (Int.toNat (↑x:Int)) (dfl (Ty.st SN.shape)))=true/\allS ai (List.getD others.parts (Int.toNat (Option.getD (ck (aM others.names (0:Int) []) (List.getD u.names (Int.toNat (↑x:Int)) (dfl Ty.str))) (0:Int))) (dfl (Ty.st SN.shape)))=true/\sz (List.getD u.parts (Int.toNat (↑x:Int)) (dfl (Ty.st SN.shape)))+sz (List.getD others.parts (Int.toNat (Option.getD (ck (aM others.names (0:Int) []) (List.getD u.names (Int.toNat (↑x:Int)) (dfl Ty.str))) (0:Int))) (dfl (Ty.st SN.shape)))<=n)/\if (!au n (List.getD u.parts (Int.toNat (↑x:Int)) (dfl (Ty.st SN.shape))) (List.getD others.parts (Int.toNat (Option.getD (ck (aM others.names (0:Int) []) (List.getD u.names (Int.toNat (↑x:Int)) (dfl Ty.str))) (0:Int))) (dfl (Ty.st SN.shape))))=true then True/\false=aD (au n) others u.names u.parts/\True else inR IntKind.i64 ((↑x:Int)+(1:Int))/\∃(y:Nat),(y<=List.length u.names/\aD (au n) others u.names u.parts=aD (au n) others (List.drop y u.names) (List.drop y u.parts))/\List.length u.names - y < List.length u.names - x/\(↑x:Int)+(1:Int)=(↑y:Int)/\u=u/\others=others/\u.names=u.names/\(↑(List.length u.names):Int)=(↑(List.length u.names):Int)/\u=u/\others=others/\aM others.names (0:Int) []=aM others.names (0:Int) []/\True else True/\true=aD (au n) others u.names u.parts/\True:=by
 have ln:=hs.names.len
 obtain ⟨o1,o2,o3,o4,o5,o6⟩:=ho
 simp only [Int.toNat_natCast,eq_self,true_and,and_true]
 refine ⟨⟨0,⟨Nat.zero_le _,rfl⟩,rfl⟩,?_⟩
 rintro k ⟨h1,h2⟩
 refine ab (fun h=>?_) (fun h=>?_)
 ·replace h:=Xo h
  have hk:k < u.names.length:=by omega
  have hk':k < u.parts.length:=by omega
  refine ⟨by omega,?_⟩
  rw [aC u.names k (dfl .str) hk,aC u.parts k (dfl (.st .shape)) hk'] at h2
  simp only [aD,aE] at h2
  have hg:=gP others.names 0 [] (u.names.getD k (dfl .str)) o5
  generalize u.names.getD k (dfl .str)=x at h2 hg ⊢
  by_cases hx:x∈others.names
  ·rw [if_pos hx] at hg
   rw [jW others.names others.parts x (dfl (.st .shape)) o4 hx] at h2
   rw [hg]
   have hi:others.names.findIdx (fun y=>decide (y=x)) < others.parts.length:=by
    rw [←o4];exact List.findIdx_lt_length_of_exists ⟨x,hx,by simp⟩
   simp only [Option.isSome_some,Bool.not_true,Bool.false_eq_true,if_false,Option.getD_some,Int.zero_add,Int.toNat_natCast]
   have f1:=getD_mem u.parts k (dfl (.st .shape)) hk'
   have f2:=getD_mem others.parts _ (dfl (.st .shape)) hi
   have z1:=bP f1
   have z2:=bP f2
   refine ⟨by omega,by omega,⟨aH o1 f1,aH o2 f2,by omega⟩,?_⟩
   generalize others.parts.getD _ (dfl (.st .shape))=q at h2 ⊢
   generalize u.parts.getD k (dfl (.st .shape))=p at h2 ⊢
   simp only at h2
   cases e:au n p q
   ·rw [e] at h2;simpa using h2.symm
   ·rw [e] at h2
    rw [if_neg (by simp)]
    exact ⟨bc hk ln,k+1,⟨by omega,by simpa using h2⟩,by omega,by omega⟩
  ·rw [if_neg hx] at hg
   rw [(jV others.names others.parts x o4).2 hx] at h2
   rw [hg]
   simpa [ck] using h2.symm
 ·replace h:¬((k:Int) < (u.names.length:Int)):=fun e=>h (Xd e)
  have e:k=u.names.length:=by omega
  subst e
  rw [h2,List.drop_length]
  rfl
theorem D9 (n:Nat) (a b:Shape) (ha:Wf (.st .shape) a) (hb:Wf (.st .shape) b) (ho:(allS ai a=true/\allS ai b=true/\sz a+sz b<=n+1)) :
  if (!decide (a.kind=b.kind))=true then True/\false=au (n+(1:Nat)) a b/\True else if decide (a.kind=(9:Int))=true then if decide (a.pkg=b.pkg)=true then True/\decide (a.name=b.name)=au (n+(1:Nat)) a b/\True else True/\false=au (n+(1:Nat)) a b/\True else if decide (a.kind=(10:Int))=true then if decide (a.pkg=b.pkg)=true then True/\decide (a.name=b.name)=au (n+(1:Nat)) a b/\True else True/\false=au (n+(1:Nat)) a b/\True else if decide (a.kind=(5:Int))=true then ((0:Int)<=(0:Int)/\(0:Int) < (↑(List.length a.parts):Int))/\((0:Int)<=(0:Int)/\(0:Int) < (↑(List.length b.parts):Int))/\(allS ai (List.getD a.parts (Int.toNat (0:Int)) (dfl (Ty.st SN.shape)))=true/\allS ai (List.getD b.parts (Int.toNat (0:Int)) (dfl (Ty.st SN.shape)))=true/\sz (List.getD a.parts (Int.toNat (0:Int)) (dfl (Ty.st SN.shape)))+sz (List.getD b.parts (Int.toNat (0:Int)) (dfl (Ty.st SN.shape)))<=n)/\True/\au n (List.getD a.parts (Int.toNat (0:Int)) (dfl (Ty.st SN.shape))) (List.getD b.parts (Int.toNat (0:Int)) (dfl (Ty.st SN.shape)))=au (n+(1:Nat)) a b/\True else if decide (a.kind=(6:Int))=true then (allL ai b.parts=true/\allL ai a.parts=true/\List.length b.names=List.length b.parts/\List.length a.names=List.length a.parts/\List.Nodup a.names/\szL b.parts+szL a.parts<=n)/\True/\aD (fun (p x:Shape) ↦au n x p) a b.names b.parts=au (n+(1:Nat)) a b/\True else if decide (a.kind=(7:Int))=true then (allL ai a.parts=true/\allL ai b.parts=true/\List.length a.names=List.length a.parts/\List.length b.names=List.length b.parts/\List.Nodup b.names/\szL a.parts+szL b.parts<=n)/\True/\aD (au n) b a.names a.parts=au (n+(1:Nat)) a b/\True else if decide (a.kind=(8:Int))=true then inR IntKind.i64 ((↑(List.length a.parts):Int) - (1:Int))/\inR IntKind.i64 ((↑(List.length a.parts):Int) - (1:Int)+(1:Int))/\if (!decide ((↑(List.length b.parts):Int)=(↑(List.length a.parts):Int) - (1:Int)+(1:Int)))=true then True/\false=au (n+(1:Nat)) a b/\True else ((0:Int)<=(↑(List.length a.parts):Int) - (1:Int)/\(↑(List.length a.parts):Int) - (1:Int) < (↑(List.length a.parts):Int))/\((0:Int)<=(↑(List.length a.parts):Int) - (1:Int)/\(↑(List.length a.parts):Int) - (1:Int) < (↑(List.length b.parts):Int))/\(allS ai (List.getD a.parts (Int.toNat ((↑(List.length a.parts):Int) - (1:Int))) (dfl (Ty.st SN.shape)))=true/\allS ai (List.getD b.parts (Int.toNat ((↑(List.length a.parts):Int) - (1:Int))) (dfl (Ty.st SN.shape)))=true/\sz (List.getD a.parts (Int.toNat ((↑(List.length a.parts):Int) - (1:Int))) (dfl (Ty.st SN.shape)))+sz (List.getD b.parts (Int.toNat ((↑(List.length a.parts):Int) - (1:Int))) (dfl (Ty.st SN.shape)))<=n)/\if (!au n (List.getD a.parts (Int.toNat ((↑(List.length a.parts):Int) - (1:Int))) (dfl (Ty.st SN.shape))) (List.getD b.parts (Int.toNat ((↑(List.length a.parts):Int) - (1:Int))) (dfl (Ty.st SN.shape))))=true then True/\false=au (n+(1:Nat)) a b/\True else (∃(x:Nat),(x<=List.length a.parts - (1:Nat)/\List.length a.parts=List.length b.parts/\(0:Nat) < List.length a.parts/\au (n+(1:Nat)) a b=fK (au n) (List.drop x (List.take (List.length a.parts - (1:Nat)) a.parts)) (List.drop x (List.take (List.length a.parts - (1:Nat)) b.parts)))/\(0:Int)=(↑x:Int)/\a=a/\b=b/\false=false/\a.kind=a.kind/\false=false/\false=false/\false=false/\false=false/\true=true/\(↑(List.length a.parts):Int) - (1:Int)=(↑(List.length a.parts):Int) - (1:Int)/\false=false/\(↑(List.length a.parts):Int) - (1:Int)=(↑(List.length a.parts):Int) - (1:Int)/\a=a/\b=b/\True)/\∀(x:Nat),x<=List.length a.parts - (1:Nat)
  /\List.length a.parts=List.length b.parts/\(0:Nat) < List.length a.parts/\au (n+(1:Nat)) a b=fK (au n) (List.drop x (List.take (List.length a.parts - (1:Nat)) a.parts)) (List.drop x (List.take (List.length a.parts - (1:Nat)) b.parts))→if decide ((↑x:Int) < (↑(List.length a.parts):Int) - (1:Int))=true then ((0:Int)<=(↑x:Int)/\(↑x:Int) < (↑(List.length b.parts):Int))/\((0:Int)<=(↑x:Int)/\(↑x:Int) < (↑(List.length a.parts):Int))/\(allS ai (List.getD b.parts (Int.toNat (↑x:Int)) (dfl (Ty.st SN.shape)))=true/\allS ai (List.getD a.parts (Int.toNat (↑x:Int)) (dfl (Ty.st SN.shape)))=true/\sz (List.getD b.parts (Int.toNat (↑x:Int)) (dfl (Ty.st SN.shape)))+sz (List.getD a.parts (Int.toNat (↑x:Int)) (dfl (Ty.st SN.shape)))<=n)/\if (!au n (List.getD b.parts (Int.toNat (↑x:Int)) (dfl (Ty.st SN.shape))) (List.getD a.parts (Int.toNat (↑x:Int)) (dfl (Ty.st SN.shape))))=true then True/\false=au (n+(1:Nat)) a b/\True else inR IntKind.i64 ((↑x:Int)+(1:Int))/\∃(y:Nat),(y<=List.length a.parts - (1:Nat)/\List.length a.parts=List.length b.parts/\(0:Nat) < List.length a.parts/\au (n+(1:Nat)) a b=fK (au n) (List.drop y (List.take (List.length a.parts - (1:Nat)) a.parts)) (List.drop y (List.take (List.length a.parts - (1:Nat)) b.parts)))/\List.length a.parts - y < List.length a.parts - x/\(↑x:Int)+(1:Int)=(↑y:Int)/\a=a/\b=b/\false=false/\a.kind=a.kind/\false=false/\false=false/\false=false/\false=false/\true=true/\(↑(List.length a.parts):Int) - (1:Int)=(↑(List.length a.parts):Int) - (1:Int)/\false=false/\(↑(List.length a.parts):Int) - (1:Int)=(↑(List.length a.parts):Int) - (1:Int)/\a=a/\b=b/\True else True/\true=au (n+(1:Nat)) a b/\True else True/\true=au (n+(1:Nat)) a b/\True:=by
 obtain ⟨oa,ob,oz⟩:=ho
 obtain ⟨fa,la⟩:=cD oa
 obtain ⟨fb,lb⟩:=cD ob
 have za:=dT a
 have zb:=dT b
 have lna:=ha.parts.len
 have lnb:=hb.parts.len
 simp only [Int.toNat_natCast,Int.toNat_zero,eq_self,true_and,and_true]
 by_cases hk:a.kind=b.kind
 ·rw [if_neg (by simp [hk])]
  have hU:au (n+1) a b=(decide (a.pkg=b.pkg) && decide (a.name=b.name) &&
   (if a.kind=6 then aD (fun p x=>au n x p) a b.names b.parts
   else if a.kind=7 then aD (au n) b a.names a.parts
   else bD (au n) a.parts b.parts)):=by simp only [au,hk,decide_true,Bool.true_and]
  have ref:a.kind=9∨a.kind=10→(if decide (a.pkg=b.pkg)=true then decide (a.name=b.name)=au (n+1) a b else false=au (n+1) a b):=by
   intro h
   have pa:=(vi fa h).1
   have pb:=(vi fb (by omega)).1
   have hU':au (n+1) a b=(decide (a.pkg=b.pkg) && decide (a.name=b.name)):=by
    rw [hU,if_neg (show ¬a.kind=6 by omega),if_neg (show ¬a.kind=7 by omega),pa,pb]
    simp [bD]
   rw [hU']
   by_cases h2:a.pkg=b.pkg <;> simp [h2]
  by_cases h9:a.kind=9
  ·rw [if_pos (by simp [h9])];exact ref (.inl h9)
  rw [if_neg (by simp [h9])]
  by_cases h10:a.kind=10
  ·rw [if_pos (by simp [h10])];exact ref (.inr h10)
  rw [if_neg (by simp [h10])]
  by_cases h5:a.kind=5
  ·rw [if_pos (by simp [h5])]
   obtain ⟨a1,a2,a3,a4⟩:=rH fa h5
   obtain ⟨b1,b2,b3,b4⟩:=rH fb (by omega)
   have m1:=getD_mem a.parts 0 (dfl (.st .shape)) (by omega)
   have m2:=getD_mem b.parts 0 (dfl (.st .shape)) (by omega)
   have z1:=bP m1
   have z2:=bP m2
   refine ⟨by omega,by omega,⟨aH la m1,aH lb m2,by omega⟩,?_⟩
   rw [hU,a3,a4,b3,b4,if_neg (by omega),if_neg (by omega),tx a.parts b.parts (dfl (.st .shape)) (by omega) (by omega),a1]
   simp [fK]
  rw [if_neg (by simp [h5])]
  by_cases h6:a.kind=6
  ·rw [if_pos (by simp [h6])]
   obtain ⟨a1,a2,a3,a4,_⟩:=bJ fa (.inl h6)
   obtain ⟨b1,b2,b3,b4,_⟩:=bJ fb (.inl (by omega))
   refine ⟨⟨lb,la,b1,a1,a2,by omega⟩,?_⟩
   rw [hU,a3,a4,b3,b4,if_pos h6]
   simp
  rw [if_neg (by simp [h6])]
  by_cases h7:a.kind=7
  ·rw [if_pos (by simp [h7])]
   obtain ⟨a1,a2,a3,a4,_⟩:=bJ fa (.inr h7)
   obtain ⟨b1,b2,b3,b4,_⟩:=bJ fb (.inr (by omega))
   refine ⟨⟨la,lb,a1,b1,b2,by omega⟩,?_⟩
   rw [hU,a3,a4,b3,b4,if_neg h6,if_pos h7]
   simp
  rw [if_neg (by simp [h7])]
  by_cases h8:a.kind=8
  ·rw [if_pos (by simp [h8])]
   obtain ⟨a1,a2,a3,a4⟩:=pV fa h8
   obtain ⟨b1,b2,b3,b4⟩:=pV fb (by omega)
   have hU2:au (n+1) a b=bD (au n) a.parts b.parts:=by
    rw [hU,a3,a4,b3,b4,if_neg h6,if_neg h7];simp
   refine ⟨bN (by omega) (by omega),bN (by omega) (by omega),?_⟩
   by_cases hl:a.parts.length=b.parts.length
   ·rw [if_neg (by simp;omega)]
    have e1:((a.parts.length:Int) - 1).toNat=a.parts.length - 1:=by omega
    rw [e1]
    have m1:=getD_mem a.parts (a.parts.length - 1) (dfl (.st .shape)) (by omega)
    have m2:=getD_mem b.parts (a.parts.length - 1) (dfl (.st .shape)) (by omega)
    have z1:=bP m1
    have z2:=bP m2
    refine ⟨by omega,by omega,⟨aH la m1,aH lb m2,by omega⟩,?_⟩
    have hf:=tx (F:=au n) a.parts b.parts (dfl (.st .shape)) hl a1
    cases e:au n (a.parts.getD (a.parts.length - 1) (dfl (.st .shape))) (b.parts.getD (a.parts.length - 1) (dfl (.st .shape)))
    ·rw [e,Bool.false_and] at hf
     rw [hU2,hf]
     simp
    ·rw [e,Bool.true_and] at hf
     rw [if_neg (by simp)]
     refine ⟨⟨0,⟨Nat.zero_le _,hl,a1,by rw [hU2,hf];rfl⟩,rfl⟩,?_⟩
     rintro k ⟨k1,_,_,k2⟩
     refine ab (fun h=>?_) (fun h=>?_)
     ·replace h:=Xo h
      have ka:k < a.parts.length:=by omega
      have kb:k < b.parts.length:=by omega
      have ma:=getD_mem a.parts k (dfl (.st .shape)) ka
      have mb:=getD_mem b.parts k (dfl (.st .shape)) kb
      have y1:=bP ma
      have y2:=bP mb
      have ta:(a.parts.take (a.parts.length - 1)).getD k (dfl (.st .shape))=a.parts.getD k (dfl (.st .shape)):=by
       simp only [List.getD_eq_getElem?_getD,List.getElem?_take];rw [if_pos (by omega)]
      have tb:(b.parts.take (a.parts.length - 1)).getD k (dfl (.st .shape))=b.parts.getD k (dfl (.st .shape)):=by
       simp only [List.getD_eq_getElem?_getD,List.getElem?_take];rw [if_pos (by omega)]
      rw [aC _ k (dfl (.st .shape)) (by rw [List.length_take];omega),aC (b.parts.take _) k (dfl (.st .shape)) (by rw [List.length_take];omega),ta,tb] at k2
      simp only [fK] at k2
      refine ⟨by omega,by omega,⟨aH lb mb,aH la ma,by omega⟩,?_⟩
      cases e:au n (b.parts.getD k (dfl (.st .shape))) (a.parts.getD k (dfl (.st .shape)))
      ·rw [e,Bool.false_and] at k2
       simpa using k2.symm
      ·rw [e,Bool.true_and] at k2
       rw [if_neg (by simp)]
       exact ⟨bc ka lna,k+1,⟨by omega,hl,a1,k2⟩,by omega,by omega⟩
     ·replace h:¬((k:Int) < (a.parts.length:Int) - 1):=fun e=>h (Xd e)
      rw [k2,List.drop_eq_nil_of_le (by rw [List.length_take];omega)]
      rfl
   ·rw [if_pos (by simp;omega),hU2,vj hl]
  rw [if_neg (by simp [h8])]
  have hfk:=AD fa
  obtain ⟨a1,a2,a3,a4⟩:=rI fa (by omega)
  obtain ⟨b1,b2,b3,b4⟩:=rI fb (by omega)
  rw [hU,a3,a4,b3,b4,if_neg h6,if_neg h7,a1,b1]
  simp [bD]
 ·rw [if_pos (by simp [hk])]
  simp [au,hk]
theorem Da (a b:Shape)  :
  if decide (aq a=(0:Int))=true then if decide (aq b=(0:Int))=true then (allS ai a=true/\allS ai b=true/\sz a+sz b<=(800:Nat))/\True/\au (800:Nat) a b=bH a b/\True else True/\false=bH a b/\True else True/\false=bH a b/\True:=by
 unfold bH
 by_cases h:aq a=0
 ·by_cases h':aq b=0
  ·rw [if_pos (by simp [h]),if_pos (by simp [h'])]
   obtain ⟨a1,_,a3⟩:=aG h
   obtain ⟨b1,_,b3⟩:=aG h'
   exact ⟨⟨a3,b3,by omega⟩,trivial,by simp [h,h'],trivial⟩
  ·rw [if_pos (by simp [h]),if_neg (by simp [h'])];exact ⟨trivial,by simp [h'],trivial⟩
 ·rw [if_neg (by simp [h])];exact ⟨trivial,by simp [h],trivial⟩
theorem Ez (n:Nat) (s:Shape) (m:Int) (hs:Wf (.st .shape) s) (ho:sz s<=n+1/\0<=m/\m<=1000000) :
  (∃(x:Nat × Int),(x.1<=List.length s.parts/\(1:Int)<=x.2/\x.2<=m+(1:Int)/\sizeL (List.drop x.1 s.parts) x.2 m=sizeF s m)/\(1:Int)=x.2/\(0:Int)=(↑x.1:Int)/\s=s/\m=m/\(0:Int)=(0:Int)/\s=s/\True)/\∀(x:Nat × Int),x.1<=List.length s.parts/\(1:Int)<=x.2/\x.2<=m+(1:Int)/\sizeL (List.drop x.1 s.parts) x.2 m=sizeF s m→if decide ((↑x.1:Int) < (↑(List.length s.parts):Int))=true then if decide (x.2<=m)=true then ((0:Int)<=(↑x.1:Int)/\(↑x.1:Int) < (↑(List.length s.parts):Int))/\inR IntKind.i64 (m - x.2)/\(sz (List.getD s.parts (Int.toNat (↑x.1:Int)) (dfl (Ty.st SN.shape)))<=n/\(0:Int)<=m - x.2/\m - x.2<=(1000000:Int))/\inR IntKind.i64 (x.2+sizeF (List.getD s.parts (Int.toNat (↑x.1:Int)) (dfl (Ty.st SN.shape))) (m - x.2))/\inR IntKind.i64 ((↑x.1:Int)+(1:Int))/\∃(y:Nat × Int),(y.1<=List.length s.parts/\(1:Int)<=y.2/\y.2<=m+(1:Int)/\sizeL (List.drop y.1 s.parts) y.2 m=sizeF s m)/\List.length s.parts - y.1 < List.length s.parts - x.1/\x.2+sizeF (List.getD s.parts (Int.toNat (↑x.1:Int)) (dfl (Ty.st SN.shape))) (m - x.2)=y.2/\(↑x.1:Int)+(1:Int)=(↑y.1:Int)/\s=s/\m=m/\(0:Int)=(0:Int)/\s=s/\True else True/\x.2=sizeF s m/\True else True/\x.2=sizeF s m/\True:=by
 have ln:=hs.parts.len
 have hz:=dT s
 obtain ⟨ho1,ho2,ho3⟩:=ho
 have h0:sizeL s.parts 1 m=sizeF s m:=by cases s;rfl
 simp only [Int.toNat_natCast,eq_self,true_and,and_true]
 refine ⟨⟨(0,1),⟨Nat.zero_le _,by omega,by omega,h0⟩,rfl,rfl⟩,?_⟩
 rintro ⟨k,c⟩ ⟨h1,h2,h3,h4⟩
 simp only at h1 h2 h3 h4 ⊢
 refine ab (fun hk=>?_) (fun hk=>?_)
 ·replace hk:=Xo hk
  have hk:k < s.parts.length:=by omega
  have hm:=bP (getD_mem s.parts k (dfl (.st .shape)) hk)
  rw [aC s.parts k (dfl (.st .shape)) hk] at h4
  simp only [sizeL] at h4
  refine ab (fun hc=>?_) (fun hc=>?_)
  ·replace hc:=Xo hc
   rw [if_pos hc] at h4
   have hb:=sizeF_bd (s.parts.getD k (dfl (.st .shape))) (m - c) (by omega)
   exact ⟨by omega,bN (by omega) (by omega),by omega,bN (by omega) (by omega),bc hk ln,(k+1,_),⟨by omega,by simp only;omega,by simp only;omega,h4⟩,by simp only;omega,rfl,rfl⟩
  ·rw [if_neg (fun e=>hc (Xd e))] at h4
   exact h4
 ·replace hk:¬((k:Int) < (s.parts.length:Int)):=fun e=>hk (Xd e)
  have e:k=s.parts.length:=by omega
  subst e
  rw [List.drop_length] at h4
  exact h4
theorem Ba (n:Nat) (a b:Shape) (ha:Wf (.st .shape) a) (hb:Wf (.st .shape) b) (hn:sz a<=n+1) :
  if (!decide (a.kind=b.kind))=true then True/\false=eqS a b/\True else if (!decide (a.pkg=b.pkg))=true then True/\false=eqS a b/\True else if (!decide (a.name=b.name))=true then True/\false=eqS a b/\True else if (!decide ((↑(List.length a.names):Int)=(↑(List.length b.names):Int)))=true then True/\false=eqS a b/\True else if (!decide ((↑(List.length a.parts):Int)=(↑(List.length b.parts):Int)))=true then True/\false=eqS a b/\True else (∃(x:Nat),(x<=List.length a.names/\List.length a.names=List.length b.names/\List.length a.parts=List.length b.parts/\eqS a b=(decide (List.drop x a.names=List.drop x b.names) && eqL a.parts b.parts))/\(0:Int)=(↑x:Int)/\a=a/\b=b/\false=false/\a=a/\b=b/\True)/\∀(x:Nat),x<=List.length a.names/\List.length a.names=List.length b.names/\List.length a.parts=List.length b.parts/\eqS a b=(decide (List.drop x a.names=List.drop x b.names) && eqL a.parts b.parts)→if decide ((↑x:Int) < (↑(List.length a.names):Int))=true then ((0:Int)<=(↑x:Int)/\(↑x:Int) < (↑(List.length a.names):Int))/\((0:Int)<=(↑x:Int)/\(↑x:Int) < (↑(List.length b.names):Int))/\if (!decide (List.getD a.names (Int.toNat (↑x:Int)) (dfl Ty.str)=List.getD b.names (Int.toNat (↑x:Int)) (dfl Ty.str)))=true then True/\false=eqS a b/\True else inR IntKind.i64 ((↑x:Int)+(1:Int))/\∃(y:Nat),(y<=List.length a.names/\List.length a.names=List.length b.names/\List.length a.parts=List.length b.parts/\eqS a b=(decide (List.drop y a.names=List.drop y b.names) && eqL a.parts b.parts))/\List.length a.names - y < List.length a.names - x/\(↑x:Int)+(1:Int)=(↑y:Int)/\a=a/\b=b/\false=false/\a=a/\b=b/\True else (∃(x_1:Nat),(x_1<=List.length a.parts/\List.length a.parts=List.length b.parts/\eqS a b=eqL (List.drop x_1 a.parts) (List.drop x_1 b.parts))/\(0:Int)=(↑x_1:Int)/\(↑x:Int)=(↑x:Int)/\a=a/\b=b/\false=false/\false=false/\a=a/\b=b/\True)/\∀(x_1:Nat),x_1<=List.length a.parts/\List.length a.parts=List.length b.parts/\eqS a b=eqL (List.drop x_1 a.parts) (List.drop x_1 b.parts)→if decide ((↑x_1:Int) < (↑(List.length a.parts):Int))=true then ((0:Int)<=(↑x_1:Int)/\(↑x_1:Int) < (↑(List.length a.parts):Int))/\((0:Int)<=(↑x_1:Int)/\(↑x_1:Int) < (↑(List.length b.parts):Int))/\sz (List.getD a.parts (Int.toNat (↑x_1:Int)) (dfl (Ty.st SN.shape)))<=n/\if (!eqS (List.getD a.parts (Int.toNat (↑x_1:Int)) (dfl (Ty.st SN.shape))) (List.getD b.parts (Int.toNat (↑x_1:Int)) (dfl (Ty.st SN.shape))))=true then True/\false=eqS a b/\True else inR IntKind.i64 ((↑x_1:Int)+(1:Int))/\∃(y:Nat),(y<=List.length a.parts/\List.length a.parts=List.length b.parts/\eqS a b=eqL (List.drop y a.parts) (List.drop y b.parts))/\List.length a.parts - y < List.length a.parts - x_1/\(↑x_1:Int)+(1:Int)=(↑y:Int)/\(↑x:Int)=(↑x:Int)/\a=a/\b=b/\false=false/\false=false/\a=a/\b=b/\True else True/\true=eqS a b/\True:=by
 have lna:=ha.names.len
 have lpa:=ha.parts.len
 have hz:=dT a
 have he:eqS a b=(decide (a.kind=b.kind) && decide (a.pkg=b.pkg) && decide (a.name=b.name) && decide (a.names=b.names) && eqL a.parts b.parts):=by cases a;cases b;rfl
 simp only [Int.toNat_natCast,eq_self,true_and,and_true]
 refine ab (fun h=>?_) (fun h1=>ab (fun h=>?_) (fun h2=>ab (fun h=>?_) (fun h3=>ab (fun h=>?_) (fun h4=>ab (fun h=>?_) (fun h5=>?_)))))
 ·rw [he];simp only [Bool.not_eq_true'] at h;rw [h];simp
 ·rw [he];simp only [Bool.not_eq_true'] at h;rw [h];simp
 ·rw [he];simp only [Bool.not_eq_true'] at h;rw [h];simp
 ·have:¬a.names=b.names:=by intro e;rw [e] at h;simp at h
  rw [he];simp [this]
 ·have:a.parts.length≠b.parts.length:=by intro e;rw [e] at h;simp at h
  rw [he,zp this];simp
 have l4:a.names.length=b.names.length:=by simp at h4;omega
 have l5:a.parts.length=b.parts.length:=by simp at h5;omega
 have he':eqS a b=(decide (a.names=b.names) && eqL a.parts b.parts):=by
  rw [he];simp only [Bool.not_eq_true,Bool.not_eq_false'] at h1 h2 h3;rw [h1,h2,h3];simp
 refine ⟨⟨0,⟨Nat.zero_le _,l4,l5,by simpa using he'⟩,rfl⟩,?_⟩
 rintro k ⟨k1,_,_,k4⟩
 refine ab (fun h=>?_) (fun h=>?_)
 ·replace h:=Xo h
  have hk:k < a.names.length:=by omega
  have hk':k < b.names.length:=by omega
  rw [aC a.names k (dfl .str) hk,aC b.names k (dfl .str) hk'] at k4
  refine ⟨by omega,by omega,ab (fun c=>?_) (fun c=>?_)⟩
  ·have c':¬a.names.getD k (dfl .str)=b.names.getD k (dfl .str):=by simpa using c
   rw [k4]
   have:¬(a.names.getD k (dfl .str) ::a.names.drop (k+1)=b.names.getD k (dfl .str) ::b.names.drop (k+1)):=fun e=>c' (List.cons.inj e).1
   simp only [this,decide_false,Bool.false_and]
  ·have c':a.names.getD k (dfl .str)=b.names.getD k (dfl .str):=by simpa using c
   refine ⟨bc hk lna,k+1,⟨by omega,l4,l5,?_⟩,by omega,by omega⟩
   rw [k4,c']
   congr 1
   rw [decide_eq_decide]
   simp
 ·replace h:¬((k:Int) < (a.names.length:Int)):=fun e=>h (Xd e)
  have e:k=a.names.length:=by omega
  subst e
  have k4':eqS a b=eqL a.parts b.parts:=by rw [k4,List.drop_length,l4,List.drop_length];simp
  refine ⟨⟨0,⟨Nat.zero_le _,l5,by simpa using k4'⟩,rfl⟩,?_⟩
  rintro j ⟨j1,_,j3⟩
  refine ab (fun h=>?_) (fun h=>?_)
  ·replace h:=Xo h
   have hj:j < a.parts.length:=by omega
   have hj':j < b.parts.length:=by omega
   have hm:=bP (getD_mem a.parts j (dfl (.st .shape)) hj)
   rw [aC a.parts j (dfl (.st .shape)) hj,aC b.parts j (dfl (.st .shape)) hj'] at j3
   simp only [eqL] at j3
   refine ⟨by omega,by omega,by omega,ab (fun c=>?_) (fun c=>?_)⟩
   ·have c':eqS (a.parts.getD j (dfl (.st .shape))) (b.parts.getD j (dfl (.st .shape)))=false:=by simpa using c
    rw [j3,c'];rfl
   ·have c':eqS (a.parts.getD j (dfl (.st .shape))) (b.parts.getD j (dfl (.st .shape)))=true:=by simpa using c
    rw [c',Bool.true_and] at j3
    exact ⟨bc hj lpa,j+1,⟨by omega,l5,j3⟩,by omega,by omega⟩
  ·replace h:¬((j:Int) < (a.parts.length:Int)):=fun e=>h (Xd e)
   have e:j=a.parts.length:=by omega
   subst e
   rw [j3,List.drop_length,l5,List.drop_length];rfl
theorem Bb (l:List Bndg) (N:Nat) (hl:Wf (.lst (.st .bind)) l) (hN:∀x∈l,sz x.shape<=N) :
  if decide ((60:Int) < (↑(List.length l):Int))=true then True/\false=gQ l/\True else (∃(x:Nat),(x<=List.length l/\nI (List.drop x l)=gQ l)/\(0:Int)=(↑x:Int)/\l=l/\false=false/\True)/\∀(x:Nat),x<=List.length l/\nI (List.drop x l)=gQ l→if decide ((↑x:Int) < (↑(List.length l):Int))=true then ((0:Int)<=(↑x:Int)/\(↑x:Int) < (↑(List.length l):Int))/\(sz (List.getD l (Int.toNat (↑x:Int)) (dfl (Ty.st SN.bind))).shape<=N/\(0:Int)<=(800:Int)/\(800:Int)<=(1000000:Int))/\if decide ((800:Int) < sizeF (List.getD l (Int.toNat (↑x:Int)) (dfl (Ty.st SN.bind))).shape (800:Int))=true then True/\false=gQ l/\True else inR IntKind.i64 ((↑x:Int)+(1:Int))/\∃(y:Nat),(y<=List.length l/\nI (List.drop y l)=gQ l)/\List.length l - y < List.length l - x/\(↑x:Int)+(1:Int)=(↑y:Int)/\l=l/\false=false/\True else True/\true=gQ l/\True:=by
 have ln:=hl.len
 simp only [Int.toNat_natCast,eq_self,true_and,and_true]
 refine ab (fun h=>?_) (fun h=>?_)
 ·unfold gQ
  rw [if_pos (Xo h)]
 have h:¬(60:Int) < (l.length:Int):=fun e=>h (Xd e)
 have hF:gQ l=nI l:=by unfold gQ;rw [if_neg h]
 refine ⟨⟨0,⟨Nat.zero_le _,by rw [List.drop_zero,hF]⟩,rfl⟩,?_⟩
 rintro k ⟨h1,h2⟩
 refine ab (fun hk=>?_) (fun hk=>?_)
 ·replace hk:=Xo hk
  have hk:k < l.length:=by omega
  have hm:=hN _ (getD_mem l k (dfl (.st .bind)) hk)
  rw [aC l k (dfl (.st .bind)) hk,nI] at h2
  refine ⟨by omega,⟨hm,by omega,by omega⟩,ab (fun hc=>?_) (fun hc=>?_)⟩
  ·rw [if_pos (Xo hc)] at h2
   exact h2
  ·rw [if_neg (fun e=>hc (Xd e))] at h2
   exact ⟨bc hk ln,k+1,⟨by omega,h2⟩,by omega,by omega⟩
 ·have e:k=l.length:=by
   have:¬((k:Int) < (l.length:Int)):=fun e=>hk (Xd e)
   omega
  subst e
  rw [List.drop_length] at h2
  exact h2
theorem y9 (e:Envt) (he:Wf (.st .env) e) :
  if gQ e.types=true then if gQ e.values=true then True/\gQ e.own=jj e/\True else True/\false=jj e/\True else True/\false=jj e/\True:=by
 unfold jj
 cases gQ e.types <;> cases gQ e.values <;> cases gQ e.own <;> simp
theorem EA (e:Envt) (l:List Bndg) (he:Wf (.st .env) e) (hl:Wf (.lst (.st .bind)) l) (ho:e.values.length<=1000000000/\l.length<=1000) :
  List.length e.values *(120:Nat)<=(140737488355328:Nat)/\(List.length e.values=List.length e.values/\(List.length e.values+List.length l) *(120:Nat)<=(140737488355328:Nat))/\True/\e.self=(bL e l).self/\e.types=(bL e l).types/\e.values++l=e.values++l/\e.own=(bL e l).own/\True:=by
 obtain ⟨h1,h2⟩:=ho
 exact ⟨by omega,⟨rfl,by omega⟩,trivial,rfl,rfl,rfl,rfl,trivial⟩
theorem Bc (n:Nat) (t:Trm) (m:Int) (hs:Wf (.st .term) t) (hz:szT t<=n+1) (h0:0<=m) (h1:m<=1000000) :
  (∃(x:Nat × Int × Int),(x.1<=List.length t.parts/\(1:Int)<=x.2.1/\x.2.1<=m+(1:Int)/\(0:Int)<=x.2.2/\x.2.2+(1:Int)<=x.2.1/\countL (List.drop x.1 t.parts) m x.2.1 x.2.2=countL t.parts m (1:Int) (0:Int))/\(1:Int)=x.2.1/\(0:Int)=x.2.2/\(0:Int)=(↑x.1:Int)/\t=t/\m=m/\(0:Int)=(0:Int)/\(0:Int)=(0:Int)/\t.parts=t.parts/\(↑(List.length t.parts):Int)=(↑(List.length t.parts):Int)/\t=t/\True)/\∀(x:Nat × Int × Int),x.1<=List.length t.parts/\(1:Int)<=x.2.1/\x.2.1<=m+(1:Int)/\(0:Int)<=x.2.2/\x.2.2+(1:Int)<=x.2.1/\countL (List.drop x.1 t.parts) m x.2.1 x.2.2=countL t.parts m (1:Int) (0:Int)→if decide ((↑x.1:Int) < (↑(List.length t.parts):Int))=true then ((0:Int)<=(↑x.1:Int)/\(↑x.1:Int) < (↑(List.length t.parts):Int))/\if decide (m < x.2.1)=true then inR IntKind.i64 (x.2.2+(1:Int))/\True/\x.2.1=(countT t m).1/\x.2.2+(1:Int)=(countT t m).2/\True else inR IntKind.i64 (m - x.2.1)/\(szT (List.getD t.parts (Int.toNat (↑x.1:Int)) (dfl (Ty.st SN.term)))<=n/\(0:Int)<=m - x.2.1/\m - x.2.1<=(1000000:Int))/\inR IntKind.i64 (x.2.1+(countT (List.getD t.parts (Int.toNat (↑x.1:Int)) (dfl (Ty.st SN.term))) (m - x.2.1)).1)/\inR IntKind.i64 ((↑x.1:Int)+(1:Int))/\∃(y:Nat × Int × Int),(y.1<=List.length t.parts/\(1:Int)<=y.2.1/\y.2.1<=m+(1:Int)/\(0:Int)<=y.2.2/\y.2.2+(1:Int)<=y.2.1/\countL (List.drop y.1 t.parts) m y.2.1 y.2.2=countL t.parts m (1:Int) (0:Int))/\List.length t.parts - y.1 < List.length t.parts - x.1/\x.2.1+(countT (List.getD t.parts (Int.toNat (↑x.1:Int)) (dfl (Ty.st SN.term))) (m - x.2.1)).1=y.2.1/\max x.2.2 (countT (List.getD t.parts (Int.toNat (↑x.1:Int)) (dfl (Ty.st SN.term))) (m - x.2.1)).2=y.2.2/\(↑x.1:Int)+(1:Int)=(↑y.1:Int)/\t=t/\m=m/\(0:Int)=(0:Int)/\(0:Int)=(0:Int)/\t.parts=t.parts/\(↑(List.length t.parts):Int)=(↑(List.length t.parts):Int)/\t=t/\True else inR IntKind.i64 (x.2.2+(1:Int))/\True/\x.2.1=(countT t m).1/\x.2.2+(1:Int)=(countT t m).2/\True:=by
 have ln:=hs.term_parts.len
 rw [Ap]
 refine ⟨⟨(0,1,0),⟨Nat.zero_le _,by decide,by show (1:Int)<=m+1;omega,by decide,by decide,rfl⟩,rfl,rfl,rfl,?_⟩,?_⟩
 ·exact Xr
 rintro ⟨k,a,d⟩ ⟨h1,h2,h3,h4,h5,h6⟩
 simp only [Int.toNat_natCast] at h1 h2 h3 h4 h5 h6 ⊢
 refine ab (fun h=>?_) (fun h=>?_)
 ·replace h:=Xo h
  have hk:k < t.parts.length:=by omega
  rw [aC t.parts k (dfl (.st .term)) hk,countL] at h6
  refine ⟨by omega,ab (fun c=>?_) (fun c=>?_)⟩
  ·replace c:=Xo c
   rw [if_pos c] at h6
   rw [←h6]
   refine ⟨bN (by omega) (by omega),?_⟩
   exact Xr
  ·replace c:¬m < a:=fun e=>c (Xd e)
   rw [if_neg c] at h6
   have hm:=szT_mem (getD_mem t.parts k (dfl (.st .term)) hk)
   have he:=szT_eq t
   have hb:=countT_bound (t.parts.getD k (dfl (.st .term))) (m - a) (by omega)
   refine ⟨bN (by omega) (by omega),⟨by omega,by omega,by omega⟩,bN (by omega) (by omega),bc hk ln,(k+1,_,_),⟨by show k+1<=_;omega,?_,?_,?_,?_,h6⟩,by show _ - (k+1) < _;omega,rfl,rfl,by show _=((k+1:Nat):Int);omega,?_⟩
   ·show (1:Int)<=a+_;omega
   ·show a+_<=m+1;omega
   ·show (0:Int)<=max d _;omega
   ·show max d _+1<=a+_;omega
   exact Xr
 ·replace h:¬((k:Int) < (t.parts.length:Int)):=fun e=>h (Xd e)
  have e:k=t.parts.length:=by omega
  subst e
  rw [List.drop_length,countL] at h6
  rw [←h6]
  refine ⟨bN (by omega) (by omega),?_⟩
  exact Xr
theorem yb  (x:Str)  :
  True/\(!ba x)=!ba x/\True:=by
 exact ⟨trivial,by trivial,trivial⟩
theorem ye  (l:List Str)  (hl:Wf (.lst .str) l) :
  (∃(x:Nat),(x<=List.length l/\bB ba (List.drop x l) x=bB ba l (0:Nat))/\(0:Int)=(↑x:Int)/\l=l/\(↑(List.length l):Int)=(↑(List.length l):Int)/\True)/\∀(x:Nat),x<=List.length l/\bB ba (List.drop x l) x=bB ba l (0:Nat)→if decide ((↑x:Int) < (↑(List.length l):Int))=true then ((0:Int)<=(↑x:Int)/\(↑x:Int) < (↑(List.length l):Int))/\if (!ba (List.getD l (Int.toNat (↑x:Int)) (dfl Ty.str)))=true then True/\(↑x:Int)=bB ba l (0:Nat)/\True else inR IntKind.i64 ((↑x:Int)+(1:Int))/\∃(y:Nat),(y<=List.length l/\bB ba (List.drop y l) y=bB ba l (0:Nat))/\List.length l - y < List.length l - x/\(↑x:Int)+(1:Int)=(↑y:Int)/\l=l/\(↑(List.length l):Int)=(↑(List.length l):Int)/\True else True/\(-1:Int)=bB ba l (0:Nat)/\True:=by
 have ln:=hl.len
 simp only [Int.toNat_natCast]
 refine ⟨⟨0,⟨Nat.zero_le _,by simp⟩,rfl,by trivial,by trivial,trivial⟩,?_⟩
 rintro k ⟨h1,h2⟩
 refine ab (fun h=>?_) (fun h=>?_)
 ·replace h:=Xo h
  have hk:k < l.length:=by omega
  rw [aC l k (dfl .str) hk,bB] at h2
  refine ⟨by omega,ab (fun c=>?_) (fun c=>?_)⟩
  ·have c:ba (l.getD k (dfl .str))=false:=by simpa using c
   rw [c,if_neg Bool.false_ne_true] at h2
   rw [←h2]
   exact ⟨trivial,rfl,trivial⟩
  ·have c:ba (l.getD k (dfl .str))=true:=by simpa using c
   rw [if_pos c] at h2
   refine ⟨bc hk ln,k+1,⟨by omega,h2⟩,by omega,by omega,by trivial,by trivial,trivial⟩
 ·replace h:¬((k:Int) < (l.length:Int)):=fun e=>h (Xd e)
  have e:k=l.length:=by omega
  subst e
  rw [List.drop_length,bB] at h2
  rw [←h2]
  exact ⟨trivial,rfl,trivial⟩
theorem yf  (l:List Str)  :
  True/\decide ((0:Int)<=bB ba l (0:Nat))=!List.all l ba/\True:=by
 exact ⟨trivial,iK ba l 0,trivial⟩
theorem Db  (l:List Str)  :
  True/\(!!List.all l ba)=List.all l ba/\True:=by
 exact ⟨trivial,Bool.not_not _,trivial⟩
theorem Dc (l:List Str) (ho:l.length *16<=140737488355328) :
  List.length l *(16:Nat)<=(140737488355328:Nat)/\if List.all l ba=true then List.length (List.mergeSort l fun (x y:Str) ↦decide (x<=y))=List.length (List.mergeSort l fun (x y:Str) ↦decide (x<=y))/\True/\decide ((↑(List.length (Lib.compact (List.mergeSort l fun (x y:Str) ↦decide (x<=y)))):Int)=(↑(List.length l):Int))=(List.all l ba && decide (List.Nodup l))/\True else True/\false=(List.all l ba && decide (List.Nodup l))/\True:=by
 have hc:=jR l
 unfold eX at hc
 refine ⟨ho,ab (fun h=>?_) (fun h=>?_)⟩
 ·refine ⟨by trivial,trivial,?_,trivial⟩
  rw [h,Bool.true_and,decide_eq_decide,←hc]
  omega
 ·have h:l.all ba=false:=by simpa using h
  exact ⟨trivial,by rw [h];rfl,trivial⟩
theorem yg (n:Nat) (x:Shape)  (ho:sz x<=n) :
  sz x<=n/\True/\(!allS bw x)=!allS bw x/\True:=by
 exact ⟨ho,trivial,by trivial,trivial⟩
theorem yh (n:Nat) (l:List Shape)  (hl:Wf (.lst (.st .shape)) l) (ho:∀x∈l,sz x<=n) :
  (∃(x:Nat),(x<=List.length l/\bB (allS bw) (List.drop x l) x=bB (allS bw) l (0:Nat))/\(0:Int)=(↑x:Int)/\l=l/\(↑(List.length l):Int)=(↑(List.length l):Int)/\True)/\∀(x:Nat),x<=List.length l/\bB (allS bw) (List.drop x l) x=bB (allS bw) l (0:Nat)→if decide ((↑x:Int) < (↑(List.length l):Int))=true then ((0:Int)<=(↑x:Int)/\(↑x:Int) < (↑(List.length l):Int))/\sz (List.getD l (Int.toNat (↑x:Int)) (dfl (Ty.st SN.shape)))<=n/\if (!allS bw (List.getD l (Int.toNat (↑x:Int)) (dfl (Ty.st SN.shape))))=true then True/\(↑x:Int)=bB (allS bw) l (0:Nat)/\True else inR IntKind.i64 ((↑x:Int)+(1:Int))/\∃(y:Nat),(y<=List.length l/\bB (allS bw) (List.drop y l) y=bB (allS bw) l (0:Nat))/\List.length l - y < List.length l - x/\(↑x:Int)+(1:Int)=(↑y:Int)/\l=l/\(↑(List.length l):Int)=(↑(List.length l):Int)/\True else True/\(-1:Int)=bB (allS bw) l (0:Nat)/\True:=by
 have ln:=hl.len
 simp only [Int.toNat_natCast]
 refine ⟨⟨0,⟨Nat.zero_le _,by simp⟩,rfl,by trivial,by trivial,trivial⟩,?_⟩
 rintro k ⟨h1,h2⟩
 refine ab (fun h=>?_) (fun h=>?_)
 ·replace h:=Xo h
  have hk:k < l.length:=by omega
  rw [aC l k (dfl (.st .shape)) hk,bB] at h2
  refine ⟨by omega,ho _ (getD_mem l k _ hk),ab (fun c=>?_) (fun c=>?_)⟩
  ·have c:(allS bw) (l.getD k (dfl (.st .shape)))=false:=by simpa using c
   rw [c,if_neg Bool.false_ne_true] at h2
   rw [←h2]
   exact ⟨trivial,rfl,trivial⟩
  ·have c:(allS bw) (l.getD k (dfl (.st .shape)))=true:=by simpa using c
   rw [if_pos c] at h2
   refine ⟨bc hk ln,k+1,⟨by omega,h2⟩,by omega,by omega,by trivial,by trivial,trivial⟩
 ·replace h:¬((k:Int) < (l.length:Int)):=fun e=>h (Xd e)
  have e:k=l.length:=by omega
  subst e
  rw [List.drop_length,bB] at h2
  rw [←h2]
  exact ⟨trivial,rfl,trivial⟩
theorem yi (n:Nat) (l:List Shape)  (ho:∀x∈l,sz x<=n) :
  (∀(x:Shape),x∈l→sz x<=n)/\True/\decide ((0:Int)<=bB (allS bw) l (0:Nat))=!List.all l (allS bw)/\True:=by
 exact ⟨ho,trivial,iK (allS bw) l 0,trivial⟩
theorem Dd (n:Nat) (l:List Shape)  (ho:∀x∈l,sz x<=n) :
  (∀(x:Shape),x∈l→sz x<=n)/\True/\(!!List.all l (allS bw))=List.all l (allS bw)/\True:=by
 exact ⟨ho,trivial,Bool.not_not _,trivial⟩
theorem EB (n:Nat) (s:Shape) (ho:sz s<=n+1) :
  if (!decide (s.kind=(10:Int)))=true then (∀(x:Shape),x∈s.parts→sz x<=n)/\True/\List.all s.parts (allS bw)=allS bw s/\True else True/\false=allS bw s/\True:=by
 have e0:allS bw s=(bw s && s.parts.all (allS bw)):=by rw [fJ,iL]
 have h0:=dT s
 have hm:∀x∈s.parts,sz x<=n:=fun x hx=>by have:=bP hx;omega
 rw [e0]
 refine ab (fun h=>?_) (fun h=>?_)
 ·have h:bw s=true:=h
  rw [h,Bool.true_and]
  exact ⟨hm,trivial,rfl,trivial⟩
 ·have h:bw s=false:=by simpa [bw] using h
  rw [h]
  exact ⟨trivial,rfl,trivial⟩
theorem Bd (s:Shape)  :
  if decide (aq s=(0:Int))=true then sz s<=(400:Nat)/\True/\allS bw s=(decide (aq s=(0:Int)) && allS bw s)/\True else True/\false=(decide (aq s=(0:Int)) && allS bw s)/\True:=by
 refine ab (fun h=>?_) (fun h=>?_)
 ·have h:aq s=0:=by simpa using h
  refine ⟨?_,trivial,by simp [h],trivial⟩
  unfold aq at h
  by_cases c:400 < sz s
  ·rw [if_pos c] at h;exact absurd h (by decide)
  ·omega
 ·have h:¬aq s=0:=by simpa using h
  exact ⟨trivial,by simp [h],trivial⟩
theorem FC (t:Trm)  :
  True/\(↑(List.length t.names):Int)=(↑(List.length t.names):Int)/\(↑(List.length t.vars):Int)=(↑(List.length t.vars):Int)/\(↑(List.length t.shapes):Int)=(↑(List.length t.shapes):Int)/\(↑(List.length t.parts):Int)=(↑(List.length t.parts):Int)/\True:=by
 exact Xr
theorem De (s:Str) (hs:Wf .str s) :
  (∃(x:Nat),(x<=List.length s/\List.all s fh=List.all (List.drop x s) fh)/\(0:Int)=(↑x:Int)/\s=s/\bq s=bq s/\(↑(List.length (bq s)):Int)=(↑(List.length (bq s)):Int)/\True)/\∀(x:Nat),x<=List.length s/\List.all s fh=List.all (List.drop x s) fh→if decide ((↑x:Int) < (↑(List.length (bq s)):Int))=true then ((0:Int)<=(↑x:Int)/\(↑x:Int) < (↑(List.length (bq s)):Int))/\if decide (List.getD (bq s) (Int.toNat (↑x:Int)) (dfl (Ty.int IntKind.u8)) < (32:Int))=true then if (!decide (List.getD (bq s) (Int.toNat (↑x:Int)) (dfl (Ty.int IntKind.u8))=(10:Int)))=true then if (!decide (List.getD (bq s) (Int.toNat (↑x:Int)) (dfl (Ty.int IntKind.u8))=(9:Int)))=true then True/\false=pS s/\True else inR IntKind.i64 ((↑x:Int)+(1:Int))/\∃(y:Nat),(y<=List.length s/\List.all s fh=List.all (List.drop y s) fh)/\List.length s - y < List.length s - x/\(↑x:Int)+(1:Int)=(↑y:Int)/\s=s/\bq s=bq s/\(↑(List.length (bq s)):Int)=(↑(List.length (bq s)):Int)/\True else inR IntKind.i64 ((↑x:Int)+(1:Int))/\∃(y:Nat),(y<=List.length s/\List.all s fh=List.all (List.drop y s) fh)/\List.length s - y < List.length s - x/\(↑x:Int)+(1:Int)=(↑y:Int)/\s=s/\bq s=bq s/\(↑(List.length (bq s)):Int)=(↑(List.length (bq s)):Int)/\True else inR IntKind.i64 ((↑x:Int)+(1:Int))/\∃(y:Nat),(y<=List.length s/\List.all s fh=List.all (List.drop y s) fh)/\List.length s - y < List.length s - x/\(↑x:Int)+(1:Int)=(↑y:Int)/\s=s/\bq s=bq s/\(↑(List.length (bq s)):Int)=(↑(List.length (bq s)):Int)/\True else True/\Option.isNone (pJ s)=pS s/\True:=by
 have ln:=hs.str
 have hbl:(bq s).length=s.length:=List.length_map _
 simp only [hbl,Int.toNat_natCast]
 refine ⟨⟨0,⟨Nat.zero_le _,rfl⟩,?_⟩,?_⟩
 ·exact Xr
 rintro k ⟨h1,h2⟩
 refine ab (fun h=>?_) (fun h=>?_)
 ·have hk:k < s.length:=by have:=Xo h;omega
  rw [aC s k 0 hk,List.all_cons] at h2
  have hq:=Ay (s.getD k 0)
  simp only [vg s k hk]
  have yes:¬(bI (s.getD k 0) < 32/\bI (s.getD k 0)≠10/\bI (s.getD k 0)≠9)→s.all fh=(s.drop (k+1)).all fh:=fun e=>by
   have:fh (s.getD k 0)=true:=by
    cases hh:fh (s.getD k 0) with
    | true=>rfl
    | false=>exact absurd (hq.1 hh) e
   rw [h2,this,Bool.true_and]
  refine ⟨⟨by omega,by omega⟩,?_⟩
  repeat' (refine ab (fun _=>?_) (fun _=>?_))
  all_goals (simp only [decide_eq_true_eq,Bool.not_eq_true',decide_eq_false_iff_not] at *)
  all_goals first
   | (refine ⟨trivial,?_,trivial⟩;unfold pS;rw [h2,hq.2 (by omega),Bool.false_and,Bool.false_and])
   | (refine ⟨bc hk ln,k+1,⟨by omega,yes (by omega)⟩,by omega,by omega,?_⟩;exact Xr)
 ·have hk:k=s.length:=by
   have:¬((k:Int) < (s.length:Int)):=fun e=>h (Xd e)
   omega
  refine ⟨trivial,?_,trivial⟩
  unfold pS
  rw [h2,hk,List.drop_length]
  rfl
theorem vG  (x:Shape)  :
  True/\(!(decide (aq x=(0:Int)) && allS bw x))=!cn x/\True:=by
 exact ⟨trivial,by trivial,trivial⟩
theorem vH  (l:List Shape)  (hl:Wf (.lst (.st .shape)) l) :
  (∃(x:Nat),(x<=List.length l/\bB cn (List.drop x l) x=bB cn l (0:Nat))/\(0:Int)=(↑x:Int)/\l=l/\(↑(List.length l):Int)=(↑(List.length l):Int)/\True)/\∀(x:Nat),x<=List.length l/\bB cn (List.drop x l) x=bB cn l (0:Nat)→if decide ((↑x:Int) < (↑(List.length l):Int))=true then ((0:Int)<=(↑x:Int)/\(↑x:Int) < (↑(List.length l):Int))/\if (!cn (List.getD l (Int.toNat (↑x:Int)) (dfl (Ty.st SN.shape))))=true then True/\(↑x:Int)=bB cn l (0:Nat)/\True else inR IntKind.i64 ((↑x:Int)+(1:Int))/\∃(y:Nat),(y<=List.length l/\bB cn (List.drop y l) y=bB cn l (0:Nat))/\List.length l - y < List.length l - x/\(↑x:Int)+(1:Int)=(↑y:Int)/\l=l/\(↑(List.length l):Int)=(↑(List.length l):Int)/\True else True/\(-1:Int)=bB cn l (0:Nat)/\True:=by
 have ln:=hl.len
 simp only [Int.toNat_natCast]
 refine ⟨⟨0,⟨Nat.zero_le _,by simp⟩,rfl,by trivial,by trivial,trivial⟩,?_⟩
 rintro k ⟨h1,h2⟩
 refine ab (fun h=>?_) (fun h=>?_)
 ·replace h:=Xo h
  have hk:k < l.length:=by omega
  rw [aC l k (dfl (.st .shape)) hk,bB] at h2
  refine ⟨by omega,ab (fun c=>?_) (fun c=>?_)⟩
  ·have c:cn (l.getD k (dfl (.st .shape)))=false:=by simpa using c
   rw [c,if_neg Bool.false_ne_true] at h2
   rw [←h2]
   exact ⟨trivial,rfl,trivial⟩
  ·have c:cn (l.getD k (dfl (.st .shape)))=true:=by simpa using c
   rw [if_pos c] at h2
   refine ⟨bc hk ln,k+1,⟨by omega,h2⟩,by omega,by omega,by trivial,by trivial,trivial⟩
 ·replace h:¬((k:Int) < (l.length:Int)):=fun e=>h (Xd e)
  have e:k=l.length:=by omega
  subst e
  rw [List.drop_length,bB] at h2
  rw [←h2]
  exact ⟨trivial,rfl,trivial⟩
theorem vI  (l:List Shape)  :
  True/\decide ((0:Int)<=bB cn l (0:Nat))=!List.all l cn/\True:=by
 exact ⟨trivial,iK cn l 0,trivial⟩
theorem Be  (l:List Shape)  :
  True/\(!!List.all l cn)=List.all l cn/\True:=by
 exact ⟨trivial,Bool.not_not _,trivial⟩
theorem Df (t:Trm) (ht:Wf (.st .term) t) (ho:t.names.length<=8796093022208) :
  (if decide (t.pos < (0:Int))=true then true=!hD t/\t=t/\false=false/\t=t/\(↑(List.length t.names):Int)=(↑(List.length t.names):Int)/\(↑(List.length t.vars):Int)=(↑(List.length t.vars):Int)/\(↑(List.length t.shapes):Int)=(↑(List.length t.shapes):Int)/\(↑(List.length t.parts):Int)=(↑(List.length t.parts):Int)/\True else if (!decide (t.n=(0:Int)))=true then if (!decide (t.kind=(1:Int)))=true then true=!hD t/\t=t/\false=false/\t=t/\(↑(List.length t.names):Int)=(↑(List.length t.names):Int)/\(↑(List.length t.vars):Int)=(↑(List.length t.vars):Int)/\(↑(List.length t.shapes):Int)=(↑(List.length t.shapes):Int)/\(↑(List.length t.parts):Int)=(↑(List.length t.parts):Int)/\True else if (!decide (t.pkg=[]))=true then if (!decide (t.kind=(5:Int)))=true then true=!hD t/\t=t/\false=false/\t=t/\(↑(List.length t.names):Int)=(↑(List.length t.names):Int)/\(↑(List.length t.vars):Int)=(↑(List.length t.vars):Int)/\(↑(List.length t.shapes):Int)=(↑(List.length t.shapes):Int)/\(↑(List.length t.parts):Int)=(↑(List.length t.parts):Int)/\True else (!List.all t.shapes cn)=!hD t/\t=t/\false=false/\t=t/\(↑(List.length t.names):Int)=(↑(List.length t.names):Int)/\(↑(List.length t.vars):Int)=(↑(List.length t.vars):Int)/\(↑(List.length t.shapes):Int)=(↑(List.length t.shapes):Int)/\(↑(List.length t.parts):Int)=(↑(List.length t.parts):Int)/\True else (!List.all t.shapes cn)=!hD t/\t=t/\false=false/\t=t/\(↑(List.length t.names):Int)=(↑(List.length t.names):Int)/\(↑(List.length t.vars):Int)=(↑(List.length t.vars):Int)/\(↑(List.length t.shapes):Int)=(↑(List.length t.shapes):Int)/\(↑(List.length t.parts):Int)=(↑(List.length t.parts):Int)/\True else if (!decide (t.pkg=[]))=true then if (!decide (t.kind=(5:Int)))=true then true=!hD t/\t=t/\false=false/\t=t/\(↑(List.length t.names):Int)=(↑(List.length t.names):Int)/\(↑(List.length t.vars):Int)=(↑(List.length t.vars):Int)/\(↑(List.length t.shapes):Int)=(↑(List.length t.shapes):Int)/\(↑(List.length t.parts):Int)=(↑(List.length t.parts):Int)/\True else (!List.all t.shapes cn)=!hD t/\t=t/\false=false/\t=t/\(↑(List.length t.names):Int)=(↑(List.length t.names):Int)/\(↑(List.length t.vars):Int)=(↑(List.length t.vars):Int)/\(↑(List.length t.shapes):Int)=(↑(List.length t.shapes):Int)/\(↑(List.length t.parts):Int)=(↑(List.length t.parts):Int)/\True else (!List.all t.shapes cn)=!hD t/\t=t/\false=false/\t=t/\(↑(List.length t.names):Int)=(↑(List.length t.names):Int)/\(↑(List.length t.vars):Int)=(↑(List.length t.vars):Int)/\(↑(List.length t.shapes):Int)=(↑(List.length t.shapes):Int)/\(↑(List.length t.parts):Int)=(↑(List.length t.parts):Int)/\True)/\if (!hD t)=true then True/\false=ak t/\True else if decide (t.kind=(1:Int))=true then if decide (t.name=[])=true then if decide ((0:Int)<=t.n)=true then if decide (t.n<=(999999999999999:Int))=true then True/\(decide ((↑(List.length t.names):Int)=(0:Int)) && (decide ((↑(List.length t.vars):Int)=(0:Int)) && (decide ((↑(List.length t.shapes):Int)=(0:Int)) && (decide ((↑(List.length t.parts):Int)=(0:Int)) && true))))=ak t/\True else True/\false=ak t/\True else True/\false=ak t/\True else True/\false=ak t/\True else if decide (t.kind=(2:Int))=true then if pS t.name=true then True/\(decide ((↑(List.length t.names):Int)=(0:Int)) && (decide ((↑(List.length t.vars):Int)=(0:Int)) && (decide ((↑(List.length t.shapes):Int)=(0:Int)) && (decide ((↑(List.length t.parts):Int)=(0:Int)) && true))))=ak t/\True else True/\false=ak t/\True else if decide (t.kind=(3:Int))=true
  then if decide (t.name=[])=true then True/\(decide ((↑(List.length t.names):Int)=(0:Int)) && (decide ((↑(List.length t.vars):Int)=(0:Int)) && (decide ((↑(List.length t.shapes):Int)=(0:Int)) && (decide ((↑(List.length t.parts):Int)=(0:Int)) && true))))=ak t/\True else True/\false=ak t/\True else if decide (t.kind=(4:Int))=true then if decide (t.name=[])=true then True/\(decide ((↑(List.length t.names):Int)=(0:Int)) && (decide ((↑(List.length t.vars):Int)=(0:Int)) && (decide ((↑(List.length t.shapes):Int)=(0:Int)) && (decide ((↑(List.length t.parts):Int)=(0:Int)) && true))))=ak t/\True else True/\false=ak t/\True else if decide (t.kind=(5:Int))=true then if ba t.name=true then if decide (t.pkg=[])=true then True/\(decide ((↑(List.length t.names):Int)=(0:Int)) && (decide ((↑(List.length t.vars):Int)=(0:Int)) && (decide ((↑(List.length t.shapes):Int)=(0:Int)) && (decide ((↑(List.length t.parts):Int)=(0:Int)) && true))))=ak t/\True else if ba t.pkg=true then True/\(decide ((↑(List.length t.names):Int)=(0:Int)) && (decide ((↑(List.length t.vars):Int)=(0:Int)) && (decide ((↑(List.length t.shapes):Int)=(0:Int)) && (decide ((↑(List.length t.parts):Int)=(0:Int)) && true))))=ak t/\True else True/\false=ak t/\True else True/\false=ak t/\True else if decide (t.kind=(6:Int))=true then if decide (t.name=[])=true then if decide ((↑(List.length t.names):Int)<=(4096:Int))=true then List.length t.names *(16:Nat)<=(140737488355328:Nat)/\if (List.all t.names ba && decide (List.Nodup t.names))=true then True/\(decide ((↑(List.length t.names):Int)=(↑(List.length t.names):Int)) && (decide ((↑(List.length t.vars):Int)=(0:Int)) && (decide ((↑(List.length t.shapes):Int)=(↑(List.length t.names):Int)) && (decide ((↑(List.length t.parts):Int)=(1:Int)) && true))))=ak t/\True else True/\false=ak t/\True else True/\false=ak t/\True else True/\false=ak t/\True else if decide (t.kind=(7:Int))=true then if decide (t.name=[])=true then if decide ((0:Int) < (↑(List.length t.parts):Int))=true then True/\(decide ((↑(List.length t.names):Int)=(0:Int)) && (decide ((↑(List.length t.vars):Int)=(0:Int)) && (decide ((↑(List.length t.shapes):Int)=(0:Int)) && (decide ((↑(List.length t.parts):Int)=(↑(List.length t.parts):Int)) && true))))=ak t/\True else True/\false=ak t/\True else True/\false=ak t/\True else if decide (t.kind=(8:Int))=true then if decide (t.name=[])=true then List.length t.names *(16:Nat)<=(140737488355328:Nat)/\if (List.all t.names ba && decide (List.Nodup t.names))=true then True/\(decide ((↑(List.length t.names):Int)=(↑(List.length t.names):Int)) && (decide ((↑(List.length t.vars):Int)=(0:Int)) && (decide ((↑(List.length t.shapes):Int)=(0:Int)) && (decide ((↑(List.length t.parts):Int)=(↑(List.length t.names):Int)) && true))))=ak t/\True else True/\false=ak t/\True else True/\false=ak t/\True else if decide (t.kind=(9:Int))=true then if ba t.name=true then True/\(decide ((↑(List.length t.names):Int)=(0:Int)) && (decide ((↑(List.length t.vars):Int)=(0:Int)) && (decide ((↑(List.length t.shapes):Int)=(0:Int)) && (decide ((↑(List.length t.parts):Int)=(1:Int)) && true))))=ak t/\True else True/\false=ak t/\True else if decide (t.kind=(10:Int))=true then if ba t.name=true then True/\(decide ((↑(List.length t.names):Int)=(0:Int)) && (decide ((↑(List.length t.vars):Int)=(0:Int)) && (decide ((↑(List.length t.shapes):Int)=(0:Int)) && (decide ((↑(List.length t.parts):Int)=(1:Int)) && true))))=ak t/\True else True/\false=ak t/\True else if decide (t.kind=(11:Int))=true
  then if decide (t.name=[])=true then True/\(decide ((↑(List.length t.names):Int)=(0:Int)) && (decide ((↑(List.length t.vars):Int)=(0:Int)) && (decide ((↑(List.length t.shapes):Int)=(1:Int)) && (decide ((↑(List.length t.parts):Int)=(↑(List.length t.parts):Int)) && true))))=ak t/\True else True/\false=ak t/\True else if decide (t.kind=(12:Int))=true then if decide (t.name=[])=true then True/\(decide ((↑(List.length t.names):Int)=(0:Int)) && (decide ((↑(List.length t.vars):Int)=(0:Int)) && (decide ((↑(List.length t.shapes):Int)=(1:Int)) && (decide ((↑(List.length t.parts):Int)=(3:Int)) && true))))=ak t/\True else True/\false=ak t/\True else if decide (t.kind=(13:Int))=true then if decide (t.name=[])=true then List.length t.names *(16:Nat)<=(140737488355328:Nat)/\if (List.all t.names ba && decide (List.Nodup t.names))=true then if List.all t.vars ba=true then inR IntKind.i64 ((↑(List.length t.names):Int)+(1:Int))/\inR IntKind.i64 ((↑(List.length t.names):Int)+(1:Int))/\True/\(decide ((↑(List.length t.names):Int)=(↑(List.length t.names):Int)) && (decide ((↑(List.length t.vars):Int)=(↑(List.length t.names):Int)) && (decide ((↑(List.length t.shapes):Int)=(↑(List.length t.names):Int)+(1:Int)) && (decide ((↑(List.length t.parts):Int)=(↑(List.length t.names):Int)+(1:Int)) && true))))=ak t/\True else True/\false=ak t/\True else True/\false=ak t/\True else True/\false=ak t/\True else if decide (t.kind=(14:Int))=true then if ba t.name=true then True/\(decide ((↑(List.length t.names):Int)=(0:Int)) && (decide ((↑(List.length t.vars):Int)=(0:Int)) && (decide ((↑(List.length t.shapes):Int)=(0:Int)) && (decide ((↑(List.length t.parts):Int)=(2:Int)) && true))))=ak t/\True else True/\false=ak t/\True else if decide (t.kind=(15:Int))=true then if decide (t.name=[])=true then True/\(decide ((↑(List.length t.names):Int)=(0:Int)) && (decide ((↑(List.length t.vars):Int)=(0:Int)) && (decide ((↑(List.length t.shapes):Int)=(1:Int)) && (decide ((↑(List.length t.parts):Int)=(1:Int)) && true))))=ak t/\True else True/\false=ak t/\True else if decide (t.kind=(16:Int))=true then if fc t.name=true then True/\(decide ((↑(List.length t.names):Int)=(0:Int)) && (decide ((↑(List.length t.vars):Int)=(0:Int)) && (decide ((↑(List.length t.shapes):Int)=(0:Int)) && (decide ((↑(List.length t.parts):Int)=(1:Int)) && true))))=ak t/\True else True/\false=ak t/\True else if decide (t.kind=(17:Int))=true then if fc t.name=true then True/\(decide ((↑(List.length t.names):Int)=(0:Int)) && (decide ((↑(List.length t.vars):Int)=(0:Int)) && (decide ((↑(List.length t.shapes):Int)=(0:Int)) && (decide ((↑(List.length t.parts):Int)=(1:Int)) && true))))=ak t/\True else True/\false=ak t/\True else True/\false=ak t/\True:=by
 refine ⟨?_,ab (fun h=>?_) (fun h=>?_)⟩
 ·unfold hD
  repeat' (refine ab (fun _=>?_) (fun _=>?_))
  all_goals simp_all
 ·have h:hD t=false:=by simpa using h
  unfold ak
  rw [h]
  exact ⟨trivial,rfl,trivial⟩
 have h:hD t=true:=by simpa using h
 have e0:ak t=zr t:=by unfold ak;rw [h,Bool.true_and]
 rw [e0]
 clear h e0
 unfold zr gd tw
 simp only [dnZ,dn1,dn2,dn3,dnN,dnS,dnL,dnP]
 generalize t.names.all ba=na
 generalize t.vars.all ba=va
 repeat' (first | refine ab (fun _=>?_) (fun _=>?_) | refine ⟨by omega,?_⟩ | refine ⟨bN (by omega) (by omega),?_⟩ | fail)
 all_goals (refine ⟨trivial,?_,trivial⟩;try simp_all)
 all_goals first | (simp only [Bool.and_assoc];done) | (intros;omega)
theorem vJ (n:Nat) (x:Trm)  (ho:szT x<=n/\fewT x=true) :
  (szT x<=n/\fewT x=true)/\True/\(!allT ak x)=!allT ak x/\True:=by
 exact ⟨ho,trivial,by trivial,trivial⟩
theorem vK (n:Nat) (l:List Trm)  (hl:Wf (.lst (.st .term)) l) (ho:∀x∈l,szT x<=n/\fewT x=true) :
  (∃(x:Nat),(x<=List.length l/\bB (allT ak) (List.drop x l) x=bB (allT ak) l (0:Nat))/\(0:Int)=(↑x:Int)/\l=l/\(↑(List.length l):Int)=(↑(List.length l):Int)/\True)/\∀(x:Nat),x<=List.length l/\bB (allT ak) (List.drop x l) x=bB (allT ak) l (0:Nat)→if decide ((↑x:Int) < (↑(List.length l):Int))=true then ((0:Int)<=(↑x:Int)/\(↑x:Int) < (↑(List.length l):Int))/\(szT (List.getD l (Int.toNat (↑x:Int)) (dfl (Ty.st SN.term)))<=n/\fewT (List.getD l (Int.toNat (↑x:Int)) (dfl (Ty.st SN.term)))=true)/\if (!allT ak (List.getD l (Int.toNat (↑x:Int)) (dfl (Ty.st SN.term))))=true then True/\(↑x:Int)=bB (allT ak) l (0:Nat)/\True else inR IntKind.i64 ((↑x:Int)+(1:Int))/\∃(y:Nat),(y<=List.length l/\bB (allT ak) (List.drop y l) y=bB (allT ak) l (0:Nat))/\List.length l - y < List.length l - x/\(↑x:Int)+(1:Int)=(↑y:Int)/\l=l/\(↑(List.length l):Int)=(↑(List.length l):Int)/\True else True/\(-1:Int)=bB (allT ak) l (0:Nat)/\True:=by
 have ln:=hl.len
 simp only [Int.toNat_natCast]
 refine ⟨⟨0,⟨Nat.zero_le _,by simp⟩,rfl,by trivial,by trivial,trivial⟩,?_⟩
 rintro k ⟨h1,h2⟩
 refine ab (fun h=>?_) (fun h=>?_)
 ·replace h:=Xo h
  have hk:k < l.length:=by omega
  rw [aC l k (dfl (.st .term)) hk,bB] at h2
  refine ⟨by omega,ho _ (getD_mem l k _ hk),ab (fun c=>?_) (fun c=>?_)⟩
  ·have c:(allT ak) (l.getD k (dfl (.st .term)))=false:=by simpa using c
   rw [c,if_neg Bool.false_ne_true] at h2
   rw [←h2]
   exact ⟨trivial,rfl,trivial⟩
  ·have c:(allT ak) (l.getD k (dfl (.st .term)))=true:=by simpa using c
   rw [if_pos c] at h2
   refine ⟨bc hk ln,k+1,⟨by omega,h2⟩,by omega,by omega,by trivial,by trivial,trivial⟩
 ·replace h:¬((k:Int) < (l.length:Int)):=fun e=>h (Xd e)
  have e:k=l.length:=by omega
  subst e
  rw [List.drop_length,bB] at h2
  rw [←h2]
  exact ⟨trivial,rfl,trivial⟩
theorem vL (n:Nat) (l:List Trm)  (ho:∀x∈l,szT x<=n/\fewT x=true) :
  (∀(x:Trm),x∈l→szT x<=n/\fewT x=true)/\True/\decide ((0:Int)<=bB (allT ak) l (0:Nat))=!List.all l (allT ak)/\True:=by
 exact ⟨ho,trivial,iK (allT ak) l 0,trivial⟩
theorem Bf (n:Nat) (l:List Trm)  (ho:∀x∈l,szT x<=n/\fewT x=true) :
  (∀(x:Trm),x∈l→szT x<=n/\fewT x=true)/\True/\(!!List.all l (allT ak))=List.all l (allT ak)/\True:=by
 exact ⟨ho,trivial,Bool.not_not _,trivial⟩
theorem Bg (n:Nat) (t:Trm) (ho:szT t<=n+1/\fewT t=true) :
  List.length t.names<=(8796093022208:Nat)/\if ak t=true then (∀(x:Trm),x∈t.parts→szT x<=n/\fewT x=true)/\True/\List.all t.parts (allT ak)=allT ak t/\True else True/\false=allT ak t/\True:=by
 obtain ⟨h1,h2⟩:=ho
 have e0:allT ak t=(ak t && t.parts.all (allT ak)):=by rw [allT_eq,allTL_all]
 have h0:=szT_eq t
 rw [e0]
 refine ⟨xC h2,ab (fun h=>?_) (fun h=>?_)⟩
 ·rw [h,Bool.true_and]
  exact ⟨fun x hx=>⟨by have:=szT_mem hx;omega,Ax h2 hx⟩,trivial,rfl,trivial⟩
 ·have h:ak t=false:=by simpa using h
  rw [h]
  exact ⟨trivial,rfl,trivial⟩
theorem Bh (x:Trm) (ho:fewT x=true) :
  (szT x<=szT x/\(0:Int)<=(4096:Int)/\(4096:Int)<=(1000000:Int))/\if decide ((4096:Int) < (countT x (4096:Int)).1)=true then True/\(3:Int)=dA x/\True else if decide ((40:Int) < (countT x (4096:Int)).2)=true then True/\(91:Int)=dA x/\True else (szT x<=szT x/\fewT x=true)/\if (!allT ak x)=true then True/\(80:Int)=dA x/\True else True/\(0:Int)=dA x/\True:=by
 refine ⟨⟨Nat.le_refl _,by omega,by omega⟩,ab (fun h=>?_) (fun h=>?_)⟩
 ·replace h:=Xo h
  unfold dA
  rw [if_pos h]
  exact ⟨trivial,rfl,trivial⟩
 have h:¬_:=fun e=>h (Xd e)
 have e1:dA x=if 40 < (countT x 4096).2 then 91 else if allT ak x=true then 0 else 80:=by unfold dA;rw [if_neg h]
 refine ab (fun k=>?_) (fun k=>?_)
 ·rw [if_pos (Xo k)] at e1
  rw [e1]
  exact ⟨trivial,rfl,trivial⟩
 rw [if_neg (fun e=>k (Xd e))] at e1
 refine ⟨⟨Nat.le_refl _,ho⟩,ab (fun j=>?_) (fun j=>?_)⟩
 ·have j:allT ak x=false:=by simpa using j
  rw [j,if_neg Bool.false_ne_true] at e1
  rw [e1]
  exact ⟨trivial,rfl,trivial⟩
 ·have j:allT ak x=true:=by simpa using j
  rw [if_pos j] at e1
  rw [e1]
  exact ⟨trivial,rfl,trivial⟩
theorem Dg (n:Nat) (s:Trm) (m:Int) (hs:Wf (.st .term) s) (ho:szT s<=n+1/\0<=m/\m<=1000000) :
  (∃(x:Nat × Int),(x.1<=List.length s.parts/\(1:Int)<=x.2/\x.2<=m+(1:Int)/\sizeTL (List.drop x.1 s.parts) x.2 m=dJ s m)/\(1:Int)=x.2/\(0:Int)=(↑x.1:Int)/\s=s/\m=m/\(0:Int)=(0:Int)/\s=s/\True)/\∀(x:Nat × Int),x.1<=List.length s.parts/\(1:Int)<=x.2/\x.2<=m+(1:Int)/\sizeTL (List.drop x.1 s.parts) x.2 m=dJ s m→if decide ((↑x.1:Int) < (↑(List.length s.parts):Int))=true then if decide (x.2<=m)=true then ((0:Int)<=(↑x.1:Int)/\(↑x.1:Int) < (↑(List.length s.parts):Int))/\inR IntKind.i64 (m - x.2)/\(szT (List.getD s.parts (Int.toNat (↑x.1:Int)) (dfl (Ty.st SN.term)))<=n/\(0:Int)<=m - x.2/\m - x.2<=(1000000:Int))/\inR IntKind.i64 (x.2+dJ (List.getD s.parts (Int.toNat (↑x.1:Int)) (dfl (Ty.st SN.term))) (m - x.2))/\inR IntKind.i64 ((↑x.1:Int)+(1:Int))/\∃(y:Nat × Int),(y.1<=List.length s.parts/\(1:Int)<=y.2/\y.2<=m+(1:Int)/\sizeTL (List.drop y.1 s.parts) y.2 m=dJ s m)/\List.length s.parts - y.1 < List.length s.parts - x.1/\x.2+dJ (List.getD s.parts (Int.toNat (↑x.1:Int)) (dfl (Ty.st SN.term))) (m - x.2)=y.2/\(↑x.1:Int)+(1:Int)=(↑y.1:Int)/\s=s/\m=m/\(0:Int)=(0:Int)/\s=s/\True else True/\x.2=dJ s m/\True else True/\x.2=dJ s m/\True:=by
 have ln:=hs.term_parts.len
 have hz:=szT_eq s
 obtain ⟨ho1,ho2,ho3⟩:=ho
 have h0:sizeTL s.parts 1 m=dJ s m:=by cases s;rw [dJ]
 simp only [Int.toNat_natCast,eq_self,true_and,and_true]
 refine ⟨⟨(0,1),⟨Nat.zero_le _,by omega,by omega,h0⟩,rfl,rfl⟩,?_⟩
 rintro ⟨k,c⟩ ⟨h1,h2,h3,h4⟩
 simp only at h1 h2 h3 h4 ⊢
 refine ab (fun hk=>?_) (fun hk=>?_)
 ·replace hk:=Xo hk
  have hk:k < s.parts.length:=by omega
  have hm:=szT_mem (getD_mem s.parts k (dfl (.st .term)) hk)
  rw [aC s.parts k (dfl (.st .term)) hk] at h4
  simp only [sizeTL] at h4
  refine ab (fun hc=>?_) (fun hc=>?_)
  ·replace hc:=Xo hc
   rw [if_pos hc] at h4
   have hb:=sizeT_bd (s.parts.getD k (dfl (.st .term))) (m - c) (by omega)
   exact ⟨by omega,bN (by omega) (by omega),by omega,bN (by omega) (by omega),bc hk ln,(k+1,_),⟨by omega,by simp only;omega,by simp only;omega,h4⟩,by simp only;omega,rfl,rfl⟩
  ·rw [if_neg (fun e=>hc (Xd e))] at h4
   exact h4
 ·replace hk:¬((k:Int) < (s.parts.length:Int)):=fun e=>hk (Xd e)
  have e:k=s.parts.length:=by omega
  subst e
  rw [List.drop_length] at h4
  simp only [sizeTL] at h4
  exact h4
theorem Bi (a b:Shape) (f:Bool)  :
  True/\(f ==decide (a.kind=(6:Int)))=decide (f=decide (a.kind=(6:Int)))/\True:=by
 exact ⟨trivial,rfl,trivial⟩
theorem Dh   :
  True/\True:=by
 exact ⟨trivial,trivial⟩
theorem Di (s:Shape) (m:Str) (hs:Wf (.st .shape) s) (ho:ai s=true) :
  if decide ((0:Int)<=cd s.names m (0:Int))=true then ((0:Int)<=cd s.names m (0:Int)/\cd s.names m (0:Int) < (↑(List.length s.parts):Int))/\True/\some (List.getD s.parts (Int.toNat (cd s.names m (0:Int))) (dfl (Ty.st SN.shape)))=aE s m/\True else True/\aE s m=none/\True:=by
 rcases CV m (dfl (.st .shape)) ho with ⟨h1,h2⟩ | ⟨h1,h2,h3⟩
 ·refine ab (fun h=>absurd (Xo h) h1) (fun _=>⟨trivial,h2,trivial⟩)
 ·exact ab (fun _=>⟨⟨h1,h2⟩,trivial,h3.symm,trivial⟩) (fun h=>absurd (Xd h1) h)
theorem Bj (m:Str) (s:Shape) (ho:ai s=true) :
  ai s=true/\True/\Option.isNone (aE s m)=Option.isNone (aE s m)/\s=s/\True:=by
 exact ⟨ho,trivial,rfl,rfl,trivial⟩
theorem Dj (a b:Shape)  :
  if decide (aq a=(0:Int))=true then True/\decide (aq b=(0:Int))=(decide (aq a=(0:Int)) && decide (aq b=(0:Int)))/\True else True/\false=(decide (aq a=(0:Int)) && decide (aq b=(0:Int)))/\True:=by
 cases decide (aq a=0) <;> simp
theorem EC (l:List Str) (s:Shape) (hl:Wf (.lst .str) l) (ho:ai s=true) :
  (∃(x:Nat),(x<=List.length l/\bB (fun (m:Str) ↦Option.isSome (aE s m)) (List.drop x l) x=bB (fun (m:Str) ↦Option.isSome (aE s m)) l (0:Nat))/\(0:Int)=(↑x:Int)/\l=l/\(↑(List.length l):Int)=(↑(List.length l):Int)/\s=s/\True)/\∀(x:Nat),x<=List.length l/\bB (fun (m:Str) ↦Option.isSome (aE s m)) (List.drop x l) x=bB (fun (m:Str) ↦Option.isSome (aE s m)) l (0:Nat)→if decide ((↑x:Int) < (↑(List.length l):Int))=true then ((0:Int)<=(↑x:Int)/\(↑x:Int) < (↑(List.length l):Int))/\ai s=true/\if Option.isNone (aE s (List.getD l (Int.toNat (↑x:Int)) (dfl Ty.str)))=true then True/\(↑x:Int)=bB (fun (m:Str) ↦Option.isSome (aE s m)) l (0:Nat)/\s=s/\True else inR IntKind.i64 ((↑x:Int)+(1:Int))/\∃(y:Nat),(y<=List.length l/\bB (fun (m:Str) ↦Option.isSome (aE s m)) (List.drop y l) y=bB (fun (m:Str) ↦Option.isSome (aE s m)) l (0:Nat))/\List.length l - y < List.length l - x/\(↑x:Int)+(1:Int)=(↑y:Int)/\l=l/\(↑(List.length l):Int)=(↑(List.length l):Int)/\s=s/\True else True/\(-1:Int)=bB (fun (m:Str) ↦Option.isSome (aE s m)) l (0:Nat)/\s=s/\True:=by
 have ln:=hl.len
 simp only [Int.toNat_natCast,eq_self,true_and,and_true]
 refine ⟨⟨0,⟨Nat.zero_le _,by simp⟩,rfl⟩,?_⟩
 rintro k ⟨h1,h2⟩
 refine ab (fun h=>?_) (fun h=>?_)
 ·replace h:=Xo h
  have hk:k < l.length:=by omega
  rw [aC l k (dfl .str) hk,bB] at h2
  refine ⟨by omega,ho,ab (fun c=>?_) (fun c=>?_)⟩
  ·have c:(aE s (l.getD k (dfl .str))).isSome=false:=by rw [Option.isNone_iff_eq_none] at c;rw [c];rfl
   rw [c,if_neg Bool.false_ne_true] at h2
   exact h2
  ·have c:(aE s (l.getD k (dfl .str))).isSome=true:=by cases hp:aE s (l.getD k (dfl .str)) with | none=>rw [hp] at c;exact absurd rfl c | some x=>rfl
   rw [if_pos c] at h2
   exact ⟨bc hk ln,k+1,⟨by omega,h2⟩,by omega,by omega⟩
 ·replace h:¬((k:Int) < (l.length:Int)):=fun e=>h (Xd e)
  have e:k=l.length:=by omega
  subst e
  rw [List.drop_length,bB] at h2
  exact h2
theorem ED (l:List Str) (s:Shape) (ho:ai s=true) :
  ai s=true/\True/\(decide ((0:Int)<=bB (fun (m:Str) ↦Option.isSome (aE s m)) l (0:Nat))=!List.all l fun (m:Str) ↦Option.isSome (aE s m))/\s=s/\True:=by
 exact ⟨ho,trivial,iK _ l 0,rfl,trivial⟩
theorem Dk (n:Nat) (a b:Shape) (ha:Wf (.st .shape) a) (hb:Wf (.st .shape) b) (hn:sz a+sz b<=n+1) (oa:allS ai a=true) (ob:allS ai b=true) :
  if decide (a.kind=(4:Int))=true then True/\true=aW (n+(1:Nat)) a b/\True else if decide (b.kind=(4:Int))=true then True/\true=aW (n+(1:Nat)) a b/\True else if (!decide (a.kind=b.kind))=true then True/\false=aW (n+(1:Nat)) a b/\True else if (!decide (a.pkg=b.pkg))=true then True/\false=aW (n+(1:Nat)) a b/\True else if (!decide (a.name=b.name))=true then True/\false=aW (n+(1:Nat)) a b/\True else (if decide (a.kind=(6:Int))=true then true=(decide (a.kind=(6:Int)) || decide (a.kind=(7:Int)))/\a=a/\b=b/\false=false/\false=false/\false=false/\a=a/\b=b/\True else decide (a.kind=(7:Int))=(decide (a.kind=(6:Int)) || decide (a.kind=(7:Int)))/\a=a/\b=b/\false=false/\false=false/\false=false/\a=a/\b=b/\True)/\if (decide (a.kind=(6:Int)) || decide (a.kind=(7:Int)))=true then (∃(x:Nat),(x<=List.length a.names/\cN (aW n) (decide (a.kind=(7:Int))) b (List.drop x a.names) (List.drop x a.parts)=cN (aW n) (decide (a.kind=(7:Int))) b a.names a.parts)/\(0:Int)=(↑x:Int)/\true=true/\a=a/\b=b/\false=false/\false=false/\a.names=a.names/\(↑(List.length a.names):Int)=(↑(List.length a.names):Int)/\a=a/\b=b/\True)/\∀(x:Nat),x<=List.length a.names/\cN (aW n) (decide (a.kind=(7:Int))) b (List.drop x a.names) (List.drop x a.parts)=cN (aW n) (decide (a.kind=(7:Int))) b a.names a.parts→if decide ((↑x:Int) < (↑(List.length a.names):Int))=true then ((0:Int)<=(↑x:Int)/\(↑x:Int) < (↑(List.length a.names):Int))/\ai b=true/\if Option.isNone (aE b (List.getD a.names (Int.toNat (↑x:Int)) (dfl Ty.str)))=true then if (!decide (true=decide (a.kind=(6:Int))))=true then True/\false=aW (n+(1:Nat)) a b/\True else if Option.isSome (aE b (List.getD a.names (Int.toNat (↑x:Int)) (dfl Ty.str)))=true then ((0:Int)<=(↑x:Int)/\(↑x:Int) < (↑(List.length a.parts):Int))/\Option.isSome (aE b (List.getD a.names (Int.toNat (↑x:Int)) (dfl Ty.str)))=true/\(sz (List.getD a.parts (Int.toNat (↑x:Int)) (dfl (Ty.st SN.shape)))+sz (Option.getD (aE b (List.getD a.names (Int.toNat (↑x:Int)) (dfl Ty.str))) (dfl (Ty.st SN.shape)))<=n/\allS ai (List.getD a.parts (Int.toNat (↑x:Int)) (dfl (Ty.st SN.shape)))=true/\allS ai (Option.getD (aE b (List.getD a.names (Int.toNat (↑x:Int)) (dfl Ty.str))) (dfl (Ty.st SN.shape)))=true)/\if (!aW n (List.getD a.parts (Int.toNat (↑x:Int)) (dfl (Ty.st SN.shape))) (Option.getD (aE b (List.getD a.names (Int.toNat (↑x:Int)) (dfl Ty.str))) (dfl (Ty.st SN.shape))))=true then True/\false=aW (n+(1:Nat)) a b/\True else inR IntKind.i64 ((↑x:Int)+(1:Int))/\∃(y:Nat),(y<=List.length a.names/\cN (aW n) (decide (a.kind=(7:Int))) b (List.drop y a.names) (List.drop y a.parts)=cN (aW n) (decide (a.kind=(7:Int))) b a.names a.parts)/\List.length a.names - y < List.length a.names - x/\(↑x:Int)+(1:Int)=(↑y:Int)/\true=true/\a=a/\b=b/\false=false/\false=false/\a.names=a.names/\(↑(List.length a.names):Int)=(↑(List.length a.names):Int)/\a=a/\b=b/\True else inR IntKind.i64 ((↑x:Int)+(1:Int))/\∃(y:Nat),(y<=List.length a.names/\cN (aW n) (decide (a.kind=(7:Int))) b (List.drop y a.names) (List.drop y a.parts)=cN (aW n) (decide (a.kind=(7:Int))) b a.names a.parts)/\List.length a.names - y < List.length a.names - x/\(↑x:Int)+(1:Int)=(↑y:Int)/\true=true/\a=a/\b=b/\false=false/\false=false/\a.names=a.names/\(↑(List.length a.names):Int)=(↑(List.length a.names):Int)/\a=a/\b=b/\True else if Option.isSome (aE b (List.getD a.names (Int.toNat (↑x:Int)) (dfl Ty.str)))=true then ((0:Int)<=(↑x:Int)/\(↑x:Int) < (↑(List.length a.parts):Int))
  /\Option.isSome (aE b (List.getD a.names (Int.toNat (↑x:Int)) (dfl Ty.str)))=true/\(sz (List.getD a.parts (Int.toNat (↑x:Int)) (dfl (Ty.st SN.shape)))+sz (Option.getD (aE b (List.getD a.names (Int.toNat (↑x:Int)) (dfl Ty.str))) (dfl (Ty.st SN.shape)))<=n/\allS ai (List.getD a.parts (Int.toNat (↑x:Int)) (dfl (Ty.st SN.shape)))=true/\allS ai (Option.getD (aE b (List.getD a.names (Int.toNat (↑x:Int)) (dfl Ty.str))) (dfl (Ty.st SN.shape)))=true)/\if (!aW n (List.getD a.parts (Int.toNat (↑x:Int)) (dfl (Ty.st SN.shape))) (Option.getD (aE b (List.getD a.names (Int.toNat (↑x:Int)) (dfl Ty.str))) (dfl (Ty.st SN.shape))))=true then True/\false=aW (n+(1:Nat)) a b/\True else inR IntKind.i64 ((↑x:Int)+(1:Int))/\∃(y:Nat),(y<=List.length a.names/\cN (aW n) (decide (a.kind=(7:Int))) b (List.drop y a.names) (List.drop y a.parts)=cN (aW n) (decide (a.kind=(7:Int))) b a.names a.parts)/\List.length a.names - y < List.length a.names - x/\(↑x:Int)+(1:Int)=(↑y:Int)/\true=true/\a=a/\b=b/\false=false/\false=false/\a.names=a.names/\(↑(List.length a.names):Int)=(↑(List.length a.names):Int)/\a=a/\b=b/\True else inR IntKind.i64 ((↑x:Int)+(1:Int))/\∃(y:Nat),(y<=List.length a.names/\cN (aW n) (decide (a.kind=(7:Int))) b (List.drop y a.names) (List.drop y a.parts)=cN (aW n) (decide (a.kind=(7:Int))) b a.names a.parts)/\List.length a.names - y < List.length a.names - x/\(↑x:Int)+(1:Int)=(↑y:Int)/\true=true/\a=a/\b=b/\false=false/\false=false/\a.names=a.names/\(↑(List.length a.names):Int)=(↑(List.length a.names):Int)/\a=a/\b=b/\True else if decide (false=decide (b.kind=(6:Int)))=true then True/\true=aW (n+(1:Nat)) a b/\True else ai a=true/\True/\(!!List.all b.names fun (m:Str) ↦Option.isSome (aE a m))=aW (n+(1:Nat)) a b/\True else if (!decide ((↑(List.length a.parts):Int)=(↑(List.length b.parts):Int)))=true then True/\false=aW (n+(1:Nat)) a b/\True else (∃(x:Nat),(x<=List.length a.parts/\aW (n+(1:Nat)) a b=fk (aW n) (decide (a.kind=(8:Int))) (List.drop x a.parts) (List.drop x b.parts))/\(0:Int)=(↑x:Int)/\false=false/\a=a/\b=b/\false=false/\false=false/\false=false/\(↑(List.length a.parts):Int)=(↑(List.length a.parts):Int)/\a=a/\b=b/\True)/\∀(x:Nat),x<=List.length a.parts/\aW (n+(1:Nat)) a b=fk (aW n) (decide (a.kind=(8:Int))) (List.drop x a.parts) (List.drop x b.parts)→if decide ((↑x:Int) < (↑(List.length a.parts):Int))=true then ((0:Int)<=(↑x:Int)/\(↑x:Int) < (↑(List.length a.parts):Int))/\((0:Int)<=(↑x:Int)/\(↑x:Int) < (↑(List.length b.parts):Int))/\if decide (a.kind=(8:Int))=true then inR IntKind.i64 ((↑(List.length a.parts):Int) - (1:Int))/\if decide ((↑x:Int) < (↑(List.length a.parts):Int) - (1:Int))=true then (sz (List.getD b.parts (Int.toNat (↑x:Int)) (dfl (Ty.st SN.shape)))+sz (List.getD a.parts (Int.toNat (↑x:Int)) (dfl (Ty.st SN.shape)))<=n/\allS ai (List.getD b.parts (Int.toNat (↑x:Int)) (dfl (Ty.st SN.shape)))=true/\allS ai (List.getD a.parts (Int.toNat (↑x:Int)) (dfl (Ty.st SN.shape)))=true)/\if (!aW n (List.getD b.parts (Int.toNat (↑x:Int)) (dfl (Ty.st SN.shape))) (List.getD a.parts (Int.toNat (↑x:Int)) (dfl (Ty.st SN.shape))))=true then True/\false=aW (n+(1:Nat)) a b/\True else inR IntKind.i64 ((↑x:Int)+(1:Int))/\∃(y:Nat),(y<=List.length a.parts/\aW (n+(1:Nat)) a b=fk (aW n) (decide (a.kind=(8:Int))) (List.drop y a.parts) (List.drop y b.parts))/\List.length a.parts - y < List.length a.parts - x/\(↑x:Int)+(1:Int)=(↑y:Int)/\false=false/\a=a/\b=b/\false=false/\false=false/\false=false
  /\(↑(List.length a.parts):Int)=(↑(List.length a.parts):Int)/\a=a/\b=b/\True else (sz (List.getD a.parts (Int.toNat (↑x:Int)) (dfl (Ty.st SN.shape)))+sz (List.getD b.parts (Int.toNat (↑x:Int)) (dfl (Ty.st SN.shape)))<=n/\allS ai (List.getD a.parts (Int.toNat (↑x:Int)) (dfl (Ty.st SN.shape)))=true/\allS ai (List.getD b.parts (Int.toNat (↑x:Int)) (dfl (Ty.st SN.shape)))=true)/\if (!aW n (List.getD a.parts (Int.toNat (↑x:Int)) (dfl (Ty.st SN.shape))) (List.getD b.parts (Int.toNat (↑x:Int)) (dfl (Ty.st SN.shape))))=true then True/\false=aW (n+(1:Nat)) a b/\True else inR IntKind.i64 ((↑x:Int)+(1:Int))/\∃(y:Nat),(y<=List.length a.parts/\aW (n+(1:Nat)) a b=fk (aW n) (decide (a.kind=(8:Int))) (List.drop y a.parts) (List.drop y b.parts))/\List.length a.parts - y < List.length a.parts - x/\(↑x:Int)+(1:Int)=(↑y:Int)/\false=false/\a=a/\b=b/\false=false/\false=false/\false=false/\(↑(List.length a.parts):Int)=(↑(List.length a.parts):Int)/\a=a/\b=b/\True else (sz (List.getD a.parts (Int.toNat (↑x:Int)) (dfl (Ty.st SN.shape)))+sz (List.getD b.parts (Int.toNat (↑x:Int)) (dfl (Ty.st SN.shape)))<=n/\allS ai (List.getD a.parts (Int.toNat (↑x:Int)) (dfl (Ty.st SN.shape)))=true/\allS ai (List.getD b.parts (Int.toNat (↑x:Int)) (dfl (Ty.st SN.shape)))=true)/\if (!aW n (List.getD a.parts (Int.toNat (↑x:Int)) (dfl (Ty.st SN.shape))) (List.getD b.parts (Int.toNat (↑x:Int)) (dfl (Ty.st SN.shape))))=true then True/\false=aW (n+(1:Nat)) a b/\True else inR IntKind.i64 ((↑x:Int)+(1:Int))/\∃(y:Nat),(y<=List.length a.parts/\aW (n+(1:Nat)) a b=fk (aW n) (decide (a.kind=(8:Int))) (List.drop y a.parts) (List.drop y b.parts))/\List.length a.parts - y < List.length a.parts - x/\(↑x:Int)+(1:Int)=(↑y:Int)/\false=false/\a=a/\b=b/\false=false/\false=false/\false=false/\(↑(List.length a.parts):Int)=(↑(List.length a.parts):Int)/\a=a/\b=b/\True else True/\true=aW (n+(1:Nat)) a b/\True:=by
 have la:=ha.parts.len
 have lb:=hb.parts.len
 have za:=dT a
 have zb:=dT b
 have fa:=cD oa
 have fb:=cD ob
 simp only [Int.toNat_natCast,eq_self,true_and,and_true]
 refine ab (fun h4=>by rw [aW,h4];rfl) (fun h4=>?_)
 refine ab (fun h5=>by rw [aW,h5];simp) (fun h5=>?_)
 refine ab (fun hk=>?_) (fun hk=>?_)
 ·rw [aW];simp at h4 h5 hk;simp [h4,h5,hk]
 refine ab (fun hp=>?_) (fun hp=>?_)
 ·rw [aW];simp at h4 h5 hp;simp [h4,h5,hp]
 refine ab (fun hm=>?_) (fun hm=>?_)
 ·rw [aW];simp at h4 h5 hm;simp [h4,h5,hm]
 simp at h4 h5 hk hp hm
 have hU:aW (n+1) a b=(if a.kind=6 then cN (aW n) false b a.names a.parts && b.names.all (fun m=>(aE a m).isSome)
    else if a.kind=7 then cN (aW n) true b a.names a.parts
    else decide (a.parts.length=b.parts.length) && fk (aW n) (decide (a.kind=8)) a.parts b.parts):=by
  rw [aW];simp [h4,h5,hk,hp,hm]
 have lna:=ha.names.len
 refine ⟨ab (fun h=>by simp at h;simp [h]) (fun h=>by simp at h;simp [h]),ab (fun h67=>?_) (fun h67=>?_)⟩
 ·have hV:aW (n+1) a b=(cN (aW n) (decide (a.kind=7)) b a.names a.parts && (if b.kind=6 then b.names.all (fun m=>(aE a m).isSome) else true)):=by
   rw [hU,←hk]
   by_cases h6:a.kind=6
   ·simp [h6]
   ·simp at h67
    simp [h67.resolve_left h6]
  refine ⟨⟨0,⟨Nat.zero_le _,by simp⟩,rfl⟩,?_⟩
  rintro k ⟨k1,k2⟩
  refine ab (fun h=>?_) (fun h=>?_)
  ·replace h:=Xo h
   have hk':k < a.names.length:=by omega
   have nl:a.names.length=a.parts.length:=(lQ fa.1).resolve_left (fun e=>by rw [e] at hk';simp at hk')
   have hkp:k < a.parts.length:=by omega
   rw [aC a.names k (dfl .str) hk',aC a.parts k (dfl (.st .shape)) hkp] at k2
   simp only [cN] at k2
   refine ⟨by omega,fb.1,?_⟩
   cases hq:aE b (a.names.getD k (dfl .str)) with
   | none=>
    rw [hq] at k2
    simp only [Option.isNone,Option.isSome,if_true,Bool.false_eq_true,if_false]
    refine ab (fun c=>?_) (fun c=>?_)
    ·rw [hV,←k2]
     simp at c h67
     simp [h67.resolve_left c]
    ·simp at c
     refine ⟨bc hk' lna,k+1,⟨by omega,?_⟩,by omega,by omega⟩
     rw [←k2]
     simp [c]
   | some x=>
    rw [hq] at k2
    simp only [Option.isNone,Option.isSome,if_true,Bool.false_eq_true,if_false,Option.getD,true_and]
    have m1:=getD_mem a.parts k (dfl (.st .shape)) hkp
    have m2:=(mN hq).2
    have s1:=bP m1
    have s2:=bP m2
    refine ⟨by omega,⟨by omega,aH fa.2 m1,aH fb.2 m2⟩,ab (fun c=>?_) (fun c=>?_)⟩
    ·simp only [Bool.not_eq_true'] at c
     rw [hV,←k2]
     simp only [c,Bool.false_and]
    ·simp only [Bool.not_eq_true',Bool.not_eq_false] at c
     refine ⟨bc hk' lna,k+1,⟨by omega,?_⟩,by omega,by omega⟩
     rw [←k2]
     simp only [c,Bool.true_and]
  ·replace h:¬((k:Int) < (a.names.length:Int)):=fun e=>h (Xd e)
   have e:k=a.names.length:=by omega
   subst e
   rw [List.drop_length] at k2
   simp only [cN] at k2
   rw [hV,←k2]
   refine ab (fun c=>?_) (fun c=>?_)
   ·simp at c
    simp [c]
   ·simp at c
    exact ⟨fa.1,by simp [c]⟩
 ·simp at h67
  have hW:aW (n+1) a b=(decide (a.parts.length=b.parts.length) && fk (aW n) (decide (a.kind=8)) a.parts b.parts):=by
   rw [hU,if_neg h67.1,if_neg h67.2]
  refine ab (fun c=>?_) (fun c=>?_)
  ·rw [hW]
   simp at c
   have c':¬a.parts.length=b.parts.length:=by omega
   simp [c']
  simp at c
  have c':a.parts.length=b.parts.length:=by omega
  rw [Xd c',Bool.true_and] at hW
  refine ⟨⟨0,⟨Nat.zero_le _,by simpa using hW⟩,rfl⟩,?_⟩
  rintro k ⟨k1,k2⟩
  refine ab (fun h=>?_) (fun h=>?_)
  ·replace h:=Xo h
   have ka:k < a.parts.length:=by omega
   have kb:k < b.parts.length:=by omega
   rw [aC a.parts k (dfl (.st .shape)) ka,aC b.parts k (dfl (.st .shape)) kb] at k2
   simp only [fk] at k2
   have m1:=getD_mem a.parts k (dfl (.st .shape)) ka
   have m2:=getD_mem b.parts k (dfl (.st .shape)) kb
   have s1:=bP m1
   have s2:=bP m2
   have f1:=aH fa.2 m1
   have f2:=aH fb.2 m2
   refine ⟨by omega,by omega,ab (fun h8=>?_) (fun h8=>?_)⟩
   ·simp at h8
    refine ⟨bN (by omega) (by omega),ab (fun l=>?_) (fun l=>?_)⟩
    ·replace l:=Xo l
     have le:(decide (a.kind=8) && !(a.parts.drop (k+1)).isEmpty)=true:=by
      simp [h8];omega
     rw [if_pos le] at k2
     refine ⟨⟨by omega,f2,f1⟩,ab (fun c=>?_) (fun c=>?_)⟩
     ·simp only [Bool.not_eq_true'] at c;rw [k2,c];rfl
     ·simp only [Bool.not_eq_true',Bool.not_eq_false] at c
      exact ⟨bc ka la,k+1,⟨by omega,by rw [k2,c];rfl⟩,by omega,by omega⟩
    ·replace l:¬((k:Int) < (a.parts.length:Int) - 1):=fun e=>l (Xd e)
     have le:¬(decide (a.kind=8) && !(a.parts.drop (k+1)).isEmpty)=true:=by
      simp;omega
     rw [if_neg le] at k2
     refine ⟨⟨by omega,f1,f2⟩,ab (fun c=>?_) (fun c=>?_)⟩
     ·simp only [Bool.not_eq_true'] at c;rw [k2,c];rfl
     ·simp only [Bool.not_eq_true',Bool.not_eq_false] at c
      exact ⟨bc ka la,k+1,⟨by omega,by rw [k2,c];rfl⟩,by omega,by omega⟩
   ·simp at h8
    have le:¬(decide (a.kind=8) && !(a.parts.drop (k+1)).isEmpty)=true:=by simp [h8]
    rw [if_neg le] at k2
    refine ⟨⟨by omega,f1,f2⟩,ab (fun c=>?_) (fun c=>?_)⟩
    ·simp only [Bool.not_eq_true'] at c;rw [k2,c];rfl
    ·simp only [Bool.not_eq_true',Bool.not_eq_false] at c
     exact ⟨bc ka la,k+1,⟨by omega,by rw [k2,c];rfl⟩,by omega,by omega⟩
  ·replace h:¬((k:Int) < (a.parts.length:Int)):=fun e=>h (Xd e)
   have e:k=a.parts.length:=by omega
   subst e
   rw [List.drop_length] at k2
   rw [k2]
   simp [fk]
theorem EE (a b:Shape) (ha:Wf (.st .shape) a) (hb:Wf (.st .shape) b) :
  if (decide (aq a=(0:Int)) && decide (aq b=(0:Int)))=true then (sz a+sz b<=(800:Nat)/\allS ai a=true/\allS ai b=true)/\True/\aW (800:Nat) a b=eK a b/\True else True/\false=eK a b/\True:=by
 refine ab (fun h=>?_) (fun h=>?_)
 ·simp only [Bool.and_eq_true,decide_eq_true_eq] at h
  have c1:=aG h.1
  have c2:=aG h.2
  refine ⟨⟨by omega,c1.2.2,c2.2.2⟩,trivial,?_,trivial⟩
  rw [eK,h.1,h.2]
  rfl
 ·refine ⟨trivial,?_,trivial⟩
  rw [eK,Bool.eq_false_iff.2 h]
  rfl
theorem EF (k:Nam) (v:Shape)  :
  True/\dX [] k v=dX [] k v/\True:=by
 exact ⟨trivial,rfl,trivial⟩
theorem EG (m:List (Nam × Shape)) (k:Nam) (v:Shape)  :
  True/\dX m k v=dX m k v/\True:=by
 exact ⟨trivial,rfl,trivial⟩
theorem EH (k:Nam)  :
  True/\{kind:=(0:Int),pkg:=[],name:=[],names:=[],parts:=[]:Shape}=an/\false=Option.isSome (bf [] k.pkg k.name)/\True:=by
 exact ⟨trivial,rfl,rfl,trivial⟩
theorem EI (m:List (Nam × Shape)) (k:Nam)  :
  True/\Option.getD (ck m k) {kind:=(0:Int),pkg:=[],name:=[],names:=[],parts:=[]:Shape}=Option.getD (bf m k.pkg k.name) an/\Option.isSome (ck m k)=Option.isSome (bf m k.pkg k.name)/\m=m/\True:=by
 exact ⟨trivial,rfl,rfl,rfl,trivial⟩
theorem Dl (n:Nat) (s:Shape) (hs:Wf (.st .shape) s) (hn:sz s<=n+1) (h4:n+1<=400) (os:allS ai s=true) :
  if decide (s.kind=(9:Int))=true then True/\an=Option.getD (fillS (bf []) s) an/\Option.isSome (bf [] s.pkg s.name)=Option.isSome (fillS (bf []) s)/\True else ((0:Int)<=(↑(List.length s.parts):Int)/\(↑(List.length s.parts):Int) *(↑(88:Nat):Int)<=(140737488355328:Int))/\(∃(x:Nat × List Shape),(x.1<=List.length s.parts/\List.length x.2=x.1/\fillL (bf []) s.parts=Option.map (fun (x_1:List Shape) ↦x.2++x_1) (fillL (bf []) (List.drop x.1 s.parts)))/\(0:Int)=(↑x.1:Int)/\[]=x.2/\s=s/\false=false/\s.parts=s.parts/\(↑(List.length s.parts):Int)=(↑(List.length s.parts):Int)/\(0:Nat)=List.length x.2/\s=s/\(0:Int)=(0:Int)/\aK UInt8=aK UInt8/\aK UInt8=aK UInt8/\True)/\∀(x:Nat × List Shape),x.1<=List.length s.parts/\List.length x.2=x.1/\fillL (bf []) s.parts=Option.map (fun (x_1:List Shape) ↦x.2++x_1) (fillL (bf []) (List.drop x.1 s.parts))→if decide ((↑x.1:Int) < (↑(List.length s.parts):Int))=true then ((0:Int)<=(↑x.1:Int)/\(↑x.1:Int) < (↑(List.length s.parts):Int))/\(sz (List.getD s.parts (Int.toNat (↑x.1:Int)) (dfl (Ty.st SN.shape)))<=n/\n<=(400:Nat)/\allS ai (List.getD s.parts (Int.toNat (↑x.1:Int)) (dfl (Ty.st SN.shape)))=true)/\if (!Option.isSome (fillS (bf []) (List.getD s.parts (Int.toNat (↑x.1:Int)) (dfl (Ty.st SN.shape)))))=true then True/\(0:Int)=(Option.getD (fillS (bf []) s) an).kind/\[]=(Option.getD (fillS (bf []) s) an).pkg/\[]=(Option.getD (fillS (bf []) s) an).name/\(Option.getD (fillS (bf []) s) an).names=[]/\(Option.getD (fillS (bf []) s) an).parts=[]/\false=Option.isSome (fillS (bf []) s)/\True else (List.length x.2=List.length x.2/\(List.length x.2+List.length [Option.getD (fillS (bf []) (List.getD s.parts (Int.toNat (↑x.1:Int)) (dfl (Ty.st SN.shape)))) an]) *(88:Nat)<=(140737488355328:Nat))/\inR IntKind.i64 ((↑x.1:Int)+(1:Int))/\∃(y:Nat × List Shape),(y.1<=List.length s.parts/\List.length y.2=y.1/\fillL (bf []) s.parts=Option.map (fun (x:List Shape) ↦y.2++x) (fillL (bf []) (List.drop y.1 s.parts)))/\List.length s.parts - y.1 < List.length s.parts - x.1/\(↑x.1:Int)+(1:Int)=(↑y.1:Int)/\x.2++[Option.getD (fillS (bf []) (List.getD s.parts (Int.toNat (↑x.1:Int)) (dfl (Ty.st SN.shape)))) an]=y.2/\s=s/\false=false/\s.parts=s.parts/\(↑(List.length s.parts):Int)=(↑(List.length s.parts):Int)/\List.length (x.2++[Option.getD (fillS (bf []) (List.getD s.parts (Int.toNat (↑x.1:Int)) (dfl (Ty.st SN.shape)))) an])=List.length y.2/\s=s/\(0:Int)=(0:Int)/\aK UInt8=aK UInt8/\aK UInt8=aK UInt8/\True else List.length s.names *(16:Nat)<=(140737488355328:Nat)/\True/\s.kind=(Option.getD (fillS (bf []) s) an).kind/\s.pkg=(Option.getD (fillS (bf []) s) an).pkg/\s.name=(Option.getD (fillS (bf []) s) an).name/\s.names=(Option.getD (fillS (bf []) s) an).names/\x.2=(Option.getD (fillS (bf []) s) an).parts/\true=Option.isSome (fillS (bf []) s)/\True:=by
 have fs:=cD os
 have zs:=dT s
 have ln:=hs.parts.len
 have lz:=lL s.parts
 simp only [Int.toNat_natCast,eq_self,true_and,and_true]
 refine ab (fun h9=>?_) (fun h9=>?_)
 ·simp only [decide_eq_true_eq] at h9
  rw [lS,if_pos h9]
  exact ⟨rfl,rfl⟩
 simp only [decide_eq_true_eq] at h9
 have hf:fillS (bf []) s=(fillL (bf []) s.parts).map fun q=>⟨s.kind,s.pkg,s.name,s.names,q⟩:=by rw [lS,if_neg h9]
 refine ⟨⟨by omega,by omega⟩,⟨(0,[]),⟨Nat.zero_le _,rfl,by simp⟩,rfl,rfl,rfl⟩,?_⟩
 rintro ⟨k,q⟩ ⟨h1,h2,h3⟩
 dsimp only at h1 h2 h3 ⊢
 refine ab (fun h=>?_) (fun h=>?_)
 ·replace h:=Xo h
  have hk:k < s.parts.length:=by omega
  rw [aC s.parts k (dfl (.st .shape)) hk] at h3
  simp only [fillL] at h3
  have m1:=getD_mem s.parts k (dfl (.st .shape)) hk
  have s1:=bP m1
  refine ⟨by omega,⟨by omega,by omega,aH fs.2 m1⟩,?_⟩
  cases hx:fillS (bf []) (s.parts.getD k (dfl (.st .shape))) with
  | none=>
   rw [hx] at h3
   refine ab (fun c=>?_) (fun c=>absurd rfl c)
   rw [hf,h3]
   exact ⟨rfl,rfl,rfl,rfl,rfl,rfl⟩
  | some x=>
   rw [hx] at h3
   refine ab (fun c=>absurd c Bool.false_ne_true) (fun c=>?_)
   refine ⟨by simp only [Option.getD,List.length_cons,List.length_nil];omega,bc hk ln,(k+1,q++[x]),⟨by omega,by simp [h2],?_⟩,by dsimp only;omega,by dsimp only;omega,rfl,rfl⟩
   rw [h3]
   cases fillL (bf []) (s.parts.drop (k+1)) with
   | none=>rfl
   | some l=>simp
 ·replace h:¬((k:Int) < (s.parts.length:Int)):=fun e=>h (Xd e)
  have e:k=s.parts.length:=by omega
  subst e
  rw [List.drop_length] at h3
  simp only [fillL,Option.map,List.append_nil] at h3
  rw [hf,h3]
  refine ⟨?_,rfl,rfl,rfl,rfl,rfl,rfl⟩
  rcases lQ fs.1 with g | g
  ·rw [g];simp
  ·omega
theorem Dm (n:Nat) (m:List (Nam × Shape)) (s:Shape) (hs:Wf (.st .shape) s) (hn:sz s<=n+1) (h4:n+1<=400) (os:allS ai s=true) :
  if decide (s.kind=(9:Int))=true then True/\Option.getD (bf m s.pkg s.name) an=Option.getD (fillS (bf m) s) an/\Option.isSome (bf m s.pkg s.name)=Option.isSome (fillS (bf m) s)/\m=m/\True else ((0:Int)<=(↑(List.length s.parts):Int)/\(↑(List.length s.parts):Int) *(↑(88:Nat):Int)<=(140737488355328:Int))/\(∃(x:Nat × List Shape),(x.1<=List.length s.parts/\List.length x.2=x.1/\fillL (bf m) s.parts=Option.map (fun (x_1:List Shape) ↦x.2++x_1) (fillL (bf m) (List.drop x.1 s.parts)))/\(0:Int)=(↑x.1:Int)/\[]=x.2/\s=s/\false=false/\s.parts=s.parts/\(↑(List.length s.parts):Int)=(↑(List.length s.parts):Int)/\(0:Nat)=List.length x.2/\m=m/\s=s/\(0:Int)=(0:Int)/\aK UInt8=aK UInt8/\aK UInt8=aK UInt8/\True)/\∀(x:Nat × List Shape),x.1<=List.length s.parts/\List.length x.2=x.1/\fillL (bf m) s.parts=Option.map (fun (x_1:List Shape) ↦x.2++x_1) (fillL (bf m) (List.drop x.1 s.parts))→if decide ((↑x.1:Int) < (↑(List.length s.parts):Int))=true then ((0:Int)<=(↑x.1:Int)/\(↑x.1:Int) < (↑(List.length s.parts):Int))/\(sz (List.getD s.parts (Int.toNat (↑x.1:Int)) (dfl (Ty.st SN.shape)))<=n/\n<=(400:Nat)/\allS ai (List.getD s.parts (Int.toNat (↑x.1:Int)) (dfl (Ty.st SN.shape)))=true)/\if (!Option.isSome (fillS (bf m) (List.getD s.parts (Int.toNat (↑x.1:Int)) (dfl (Ty.st SN.shape)))))=true then True/\(0:Int)=(Option.getD (fillS (bf m) s) an).kind/\[]=(Option.getD (fillS (bf m) s) an).pkg/\[]=(Option.getD (fillS (bf m) s) an).name/\(Option.getD (fillS (bf m) s) an).names=[]/\(Option.getD (fillS (bf m) s) an).parts=[]/\false=Option.isSome (fillS (bf m) s)/\m=m/\True else (List.length x.2=List.length x.2/\(List.length x.2+List.length [Option.getD (fillS (bf m) (List.getD s.parts (Int.toNat (↑x.1:Int)) (dfl (Ty.st SN.shape)))) an]) *(88:Nat)<=(140737488355328:Nat))/\inR IntKind.i64 ((↑x.1:Int)+(1:Int))/\∃(y:Nat × List Shape),(y.1<=List.length s.parts/\List.length y.2=y.1/\fillL (bf m) s.parts=Option.map (fun (x:List Shape) ↦y.2++x) (fillL (bf m) (List.drop y.1 s.parts)))/\List.length s.parts - y.1 < List.length s.parts - x.1/\(↑x.1:Int)+(1:Int)=(↑y.1:Int)/\x.2++[Option.getD (fillS (bf m) (List.getD s.parts (Int.toNat (↑x.1:Int)) (dfl (Ty.st SN.shape)))) an]=y.2/\s=s/\false=false/\s.parts=s.parts/\(↑(List.length s.parts):Int)=(↑(List.length s.parts):Int)/\List.length (x.2++[Option.getD (fillS (bf m) (List.getD s.parts (Int.toNat (↑x.1:Int)) (dfl (Ty.st SN.shape)))) an])=List.length y.2/\m=m/\s=s/\(0:Int)=(0:Int)/\aK UInt8=aK UInt8/\aK UInt8=aK UInt8/\True else List.length s.names *(16:Nat)<=(140737488355328:Nat)/\True/\s.kind=(Option.getD (fillS (bf m) s) an).kind/\s.pkg=(Option.getD (fillS (bf m) s) an).pkg/\s.name=(Option.getD (fillS (bf m) s) an).name/\s.names=(Option.getD (fillS (bf m) s) an).names/\x.2=(Option.getD (fillS (bf m) s) an).parts/\true=Option.isSome (fillS (bf m) s)/\m=m/\True:=by
 have fs:=cD os
 have zs:=dT s
 have ln:=hs.parts.len
 have lz:=lL s.parts
 simp only [Int.toNat_natCast,eq_self,true_and,and_true]
 refine ab (fun h9=>?_) (fun h9=>?_)
 ·simp only [decide_eq_true_eq] at h9
  rw [lS,if_pos h9]
  exact ⟨rfl,rfl⟩
 simp only [decide_eq_true_eq] at h9
 have hf:fillS (bf m) s=(fillL (bf m) s.parts).map fun q=>⟨s.kind,s.pkg,s.name,s.names,q⟩:=by rw [lS,if_neg h9]
 refine ⟨⟨by omega,by omega⟩,⟨(0,[]),⟨Nat.zero_le _,rfl,by simp⟩,rfl,rfl,rfl⟩,?_⟩
 rintro ⟨k,q⟩ ⟨h1,h2,h3⟩
 dsimp only at h1 h2 h3 ⊢
 refine ab (fun h=>?_) (fun h=>?_)
 ·replace h:=Xo h
  have hk:k < s.parts.length:=by omega
  rw [aC s.parts k (dfl (.st .shape)) hk] at h3
  simp only [fillL] at h3
  have m1:=getD_mem s.parts k (dfl (.st .shape)) hk
  have s1:=bP m1
  refine ⟨by omega,⟨by omega,by omega,aH fs.2 m1⟩,?_⟩
  cases hx:fillS (bf m) (s.parts.getD k (dfl (.st .shape))) with
  | none=>
   rw [hx] at h3
   refine ab (fun c=>?_) (fun c=>absurd rfl c)
   rw [hf,h3]
   exact ⟨rfl,rfl,rfl,rfl,rfl,rfl⟩
  | some x=>
   rw [hx] at h3
   refine ab (fun c=>absurd c Bool.false_ne_true) (fun c=>?_)
   refine ⟨by simp only [Option.getD,List.length_cons,List.length_nil];omega,bc hk ln,(k+1,q++[x]),⟨by omega,by simp [h2],?_⟩,by dsimp only;omega,by dsimp only;omega,rfl,rfl⟩
   rw [h3]
   cases fillL (bf m) (s.parts.drop (k+1)) with
   | none=>rfl
   | some l=>simp
 ·replace h:¬((k:Int) < (s.parts.length:Int)):=fun e=>h (Xd e)
  have e:k=s.parts.length:=by omega
  subst e
  rw [List.drop_length] at h3
  simp only [fillL,Option.map,List.append_nil] at h3
  rw [hf,h3]
  refine ⟨?_,rfl,rfl,rfl,rfl,rfl,rfl⟩
  rcases lQ fs.1 with g | g
  ·rw [g];simp
  ·omega
theorem Bk   :
  (∃(x:Nat),True/\(0:Int)=(0:Int)/\aK (den (Ty.st SN.bind))=aK (den (Ty.st SN.bind))/\aK (den (Ty.st SN.bind))=aK (den (Ty.st SN.bind))/\(↑(List.length ([]:List Bndg)):Int)=(↑(List.length ([]:List Bndg)):Int)/\True)/\∀(x:Nat),True→True/\True:=by
 exact ⟨⟨0,trivial,rfl,rfl,rfl,rfl,trivial⟩,fun _ _=>⟨trivial,trivial⟩⟩
theorem Bl (b:Bndg) (r:List Bndg) (hl:Wf (.lst (.st .bind)) (b ::r)) :
  if decide ((0:Int) < (↑(List.length (b ::r)):Int))=true then ((0:Int)<=(0:Int)/\(0:Int) < (↑(List.length (b ::r)):Int))/\inR IntKind.i64 ((0:Int)+(1:Int))/\(∃(x:Nat × List (Nam × Shape)),(x.1<=List.length (b ::r)/\nK (List.drop x.1 (b ::r)) x.2=hX (b ::r))/\(0:Int)+(1:Int)=(↑x.1:Int)/\b ::r=b ::r/\b ::r=b ::r/\(↑(List.length (b ::r)):Int)=(↑(List.length (b ::r)):Int)/\dX [] {pkg:=(List.getD (b ::r) (Int.toNat (0:Int)) (dfl (Ty.st SN.bind))).pkg,name:=(List.getD (b ::r) (Int.toNat (0:Int)) (dfl (Ty.st SN.bind))).name:Nam} (List.getD (b ::r) (Int.toNat (0:Int)) (dfl (Ty.st SN.bind))).shape=x.2/\True)/\∀(x:Nat × List (Nam × Shape)),x.1<=List.length (b ::r)/\nK (List.drop x.1 (b ::r)) x.2=hX (b ::r)→if decide ((↑x.1:Int) < (↑(List.length (b ::r)):Int))=true then ((0:Int)<=(↑x.1:Int)/\(↑x.1:Int) < (↑(List.length (b ::r)):Int))/\inR IntKind.i64 ((↑x.1:Int)+(1:Int))/\∃(y:Nat × List (Nam × Shape)),(y.1<=List.length (b ::r)/\nK (List.drop y.1 (b ::r)) y.2=hX (b ::r))/\List.length (b ::r) - y.1 < List.length (b ::r) - x.1/\(↑x.1:Int)+(1:Int)=(↑y.1:Int)/\b ::r=b ::r/\b ::r=b ::r/\(↑(List.length (b ::r)):Int)=(↑(List.length (b ::r)):Int)/\dX x.2 {pkg:=(List.getD (b ::r) (Int.toNat (↑x.1:Int)) (dfl (Ty.st SN.bind))).pkg,name:=(List.getD (b ::r) (Int.toNat (↑x.1:Int)) (dfl (Ty.st SN.bind))).name:Nam} (List.getD (b ::r) (Int.toNat (↑x.1:Int)) (dfl (Ty.st SN.bind))).shape=y.2/\True else True/\x.2=hX (b ::r)/\True else True/\False:=by
 have ln:=hl.len
 refine ab (fun _=>?_) (fun h=>absurd (Xd (by simp only [List.length_cons];omega)) h)
 simp only [Int.toNat_natCast,eq_self,true_and,and_true]
 refine ⟨by simp only [List.length_cons];omega,bN (by omega) (by omega),⟨(1,dX [] ⟨b.pkg,b.name⟩ b.shape),⟨by simp,rfl⟩,rfl,rfl⟩,?_⟩
 rintro ⟨k,m⟩ ⟨h1,h2⟩
 dsimp only at h1 h2 ⊢
 refine ab (fun h=>?_) (fun h=>?_)
 ·replace h:=Xo h
  have hk:k < (b ::r).length:=by omega
  rw [aC (b ::r) k (dfl (.st .bind)) hk] at h2
  exact ⟨by omega,bc hk ln,(k+1,_),⟨by omega,h2⟩,by dsimp only;omega,by dsimp only;omega,rfl⟩
 ·replace h:¬((k:Int) < ((b ::r).length:Int)):=fun e=>h (Xd e)
  have e:k=(b ::r).length:=by omega
  subst e
  rw [List.drop_length] at h2
  exact h2
theorem vM (s:Shape) (hs:Wf (.st .shape) s) :
  if (!decide (aq s=(0:Int)))=true then True/\(0:Int)=(aw s []).1.kind/\[]=(aw s []).1.pkg/\[]=(aw s []).1.name/\(aw s []).1.names=[]/\(aw s []).1.parts=[]/\aq s=(aw s []).2/\True else (sz s<=(400:Nat)/\(400:Nat)<=(400:Nat)/\allS ai s=true)/\if (!Option.isSome (fillS (bf []) s))=true then True/\(0:Int)=(aw s []).1.kind/\[]=(aw s []).1.pkg/\[]=(aw s []).1.name/\(aw s []).1.names=[]/\(aw s []).1.parts=[]/\(110:Int)=(aw s []).2/\True else if (!decide (aq (Option.getD (fillS (bf []) s) an)=(0:Int)))=true then True/\(0:Int)=(aw s []).1.kind/\[]=(aw s []).1.pkg/\[]=(aw s []).1.name/\(aw s []).1.names=[]/\(aw s []).1.parts=[]/\aq (Option.getD (fillS (bf []) s) an)=(aw s []).2/\True else True/\aO (Option.getD (fillS (bf []) s) an)=(aw s []).1/\(0:Int)=(aw s []).2/\True:=by
 have hr:aw s []=if aq s=0 then (match fillS (bf []) s with | none=>(an,110) | some q=>if aq q=0 then (aO q,0) else (an,aq q)) else (an,aq s):=by
  unfold aw;rw [←vo];try rfl
 refine ab (fun h=>?_) (fun h=>?_)
 ·have h:¬aq s=0:=by simpa using h
  rw [hr,if_neg h]
  exact ⟨trivial,rfl,rfl,rfl,rfl,rfl,rfl,trivial⟩
 ·have h:aq s=0:=by simpa using h
  rw [hr,if_pos h]
  have c:=aG h
  refine ⟨⟨c.1,Nat.le_refl _,c.2.2⟩,?_⟩
  cases hq:fillS (bf []) s with
  | none=>exact ab (fun _=>⟨trivial,rfl,rfl,rfl,rfl,rfl,rfl,trivial⟩) (fun g=>absurd rfl g)
  | some q=>
   refine ab (fun g=>absurd g Bool.false_ne_true) (fun _=>ab (fun g=>?_) (fun g=>?_))
   ·have g:¬aq q=0:=by simpa using g
    dsimp only
    rw [if_neg g]
    exact ⟨trivial,rfl,rfl,rfl,rfl,rfl,rfl,trivial⟩
   ·have g:aq q=0:=by simpa using g
    dsimp only
    rw [if_pos g]
    exact ⟨trivial,rfl,rfl,trivial⟩
theorem yj (s:Shape) (b:Bndg) (r:List Bndg) (hs:Wf (.st .shape) s) (hl:Wf (.lst (.st .bind)) (b ::r)) :
  if (!decide (aq s=(0:Int)))=true then True/\(0:Int)=(aw s (b ::r)).1.kind/\[]=(aw s (b ::r)).1.pkg/\[]=(aw s (b ::r)).1.name/\(aw s (b ::r)).1.names=[]/\(aw s (b ::r)).1.parts=[]/\aq s=(aw s (b ::r)).2/\True else (sz s<=(400:Nat)/\(400:Nat)<=(400:Nat)/\allS ai s=true)/\if (!Option.isSome (fillS (bf (hX (b ::r))) s))=true then True/\(0:Int)=(aw s (b ::r)).1.kind/\[]=(aw s (b ::r)).1.pkg/\[]=(aw s (b ::r)).1.name/\(aw s (b ::r)).1.names=[]/\(aw s (b ::r)).1.parts=[]/\(110:Int)=(aw s (b ::r)).2/\True else if (!decide (aq (Option.getD (fillS (bf (hX (b ::r))) s) an)=(0:Int)))=true then True/\(0:Int)=(aw s (b ::r)).1.kind/\[]=(aw s (b ::r)).1.pkg/\[]=(aw s (b ::r)).1.name/\(aw s (b ::r)).1.names=[]/\(aw s (b ::r)).1.parts=[]/\aq (Option.getD (fillS (bf (hX (b ::r))) s) an)=(aw s (b ::r)).2/\True else True/\aO (Option.getD (fillS (bf (hX (b ::r))) s) an)=(aw s (b ::r)).1/\(0:Int)=(aw s (b ::r)).2/\True:=by
 have hr:aw s (b ::r)=if aq s=0 then (match fillS (bf (hX (b ::r))) s with | none=>(an,110) | some q=>if aq q=0 then (aO q,0) else (an,aq q)) else (an,aq s):=by
  unfold aw;rw [←vo];try rfl
 refine ab (fun h=>?_) (fun h=>?_)
 ·have h:¬aq s=0:=by simpa using h
  rw [hr,if_neg h]
  exact ⟨trivial,rfl,rfl,rfl,rfl,rfl,rfl,trivial⟩
 ·have h:aq s=0:=by simpa using h
  rw [hr,if_pos h]
  have c:=aG h
  refine ⟨⟨c.1,Nat.le_refl _,c.2.2⟩,?_⟩
  cases hq:fillS (bf (hX (b ::r))) s with
  | none=>exact ab (fun _=>⟨trivial,rfl,rfl,rfl,rfl,rfl,rfl,trivial⟩) (fun g=>absurd rfl g)
  | some q=>
   refine ab (fun g=>absurd g Bool.false_ne_true) (fun _=>ab (fun g=>?_) (fun g=>?_))
   ·have g:¬aq q=0:=by simpa using g
    dsimp only
    rw [if_neg g]
    exact ⟨trivial,rfl,rfl,rfl,rfl,rfl,rfl,trivial⟩
   ·have g:aq q=0:=by simpa using g
    dsimp only
    rw [if_pos g]
    exact ⟨trivial,rfl,rfl,trivial⟩
theorem FD (k:Int)  :
  True/\k=(ofK k).kind/\[]=(ofK k).pkg/\[]=(ofK k).name/\(ofK k).names=[]/\(ofK k).parts=[]/\True:=by
 exact ⟨trivial,rfl,rfl,rfl,rfl,rfl,trivial⟩
theorem Bm (e a:Int)  :
  True/\e=e/\a=a/\True:=by
 exact ⟨trivial,rfl,rfl,trivial⟩
theorem Dn (l:List Bndg) (o m:Str) (hl:Wf (.lst (.st .bind)) l) :
  inR IntKind.i64 ((↑(List.length l):Int) - (1:Int))/\(∃(x:Nat),(x<=List.length l/\aI l o m=aI (List.take x l) o m)/\(↑(List.length l):Int) - (1:Int)=(↑x:Int) - (1:Int)/\l=l/\o=o/\m=m/\(0:Int)=(0:Int)/\aK UInt8=aK UInt8/\aK UInt8=aK UInt8/\True)/\∀(x:Nat),x<=List.length l/\aI l o m=aI (List.take x l) o m→if decide ((0:Int)<=(↑x:Int) - (1:Int))=true then ((0:Int)<=(↑x:Int) - (1:Int)/\(↑x:Int) - (1:Int) < (↑(List.length l):Int))/\if decide ((List.getD l (Int.toNat ((↑x:Int) - (1:Int))) (dfl (Ty.st SN.bind))).pkg=o)=true then ((0:Int)<=(↑x:Int) - (1:Int)/\(↑x:Int) - (1:Int) < (↑(List.length l):Int))/\if decide ((List.getD l (Int.toNat ((↑x:Int) - (1:Int))) (dfl (Ty.st SN.bind))).name=m)=true then ((0:Int)<=(↑x:Int) - (1:Int)/\(↑x:Int) - (1:Int) < (↑(List.length l):Int))/\True/\aO (List.getD l (Int.toNat ((↑x:Int) - (1:Int))) (dfl (Ty.st SN.bind))).shape=Option.elim (aI l o m) an aO/\true=Option.isSome (aI l o m)/\True else inR IntKind.i64 ((↑x:Int) - (1:Int) - (1:Int))/\∃(y:Nat),(y<=List.length l/\aI l o m=aI (List.take y l) o m)/\y < x/\(↑x:Int) - (1:Int) - (1:Int)=(↑y:Int) - (1:Int)/\l=l/\o=o/\m=m/\(0:Int)=(0:Int)/\aK UInt8=aK UInt8/\aK UInt8=aK UInt8/\True else inR IntKind.i64 ((↑x:Int) - (1:Int) - (1:Int))/\∃(y:Nat),(y<=List.length l/\aI l o m=aI (List.take y l) o m)/\y < x/\(↑x:Int) - (1:Int) - (1:Int)=(↑y:Int) - (1:Int)/\l=l/\o=o/\m=m/\(0:Int)=(0:Int)/\aK UInt8=aK UInt8/\aK UInt8=aK UInt8/\True else True/\(0:Int)=(Option.elim (aI l o m) an aO).kind/\[]=(Option.elim (aI l o m) an aO).pkg/\[]=(Option.elim (aI l o m) an aO).name/\(Option.elim (aI l o m) an aO).names=[]/\(Option.elim (aI l o m) an aO).parts=[]/\false=Option.isSome (aI l o m)/\True:=by
 have ln:=hl.len
 refine ⟨bN (by omega) (by omega),⟨l.length,⟨Nat.le_refl _,by rw [List.take_length]⟩,rfl,rfl,rfl,rfl,rfl,rfl,rfl,trivial⟩,?_⟩
 rintro x ⟨h1,h2⟩
 refine ab (fun h=>?_) (fun h=>?_)
 ·have h:=Xo h
  obtain ⟨k,rfl⟩:∃k,x=k+1:=⟨x - 1,by omega⟩
  have e1:(((k+1:Nat):Int) - 1)=(k:Int):=by omega
  rw [vq l o m (dfl (.st .bind)) (by omega)] at h2
  simp only [e1,Int.toNat_natCast,eq_self,true_and,and_true]
  have next:aI l o m=aI (l.take k) o m→inR IntKind.i64 ((k:Int) - 1)/\∃(y:Nat),(y<=List.length l/\aI l o m=aI (List.take y l) o m)/\y < k+1/\(k:Int) - 1=(y:Int) - 1:=
   fun g=>⟨bN (by omega) (by omega),k,⟨by omega,g⟩,by omega,rfl⟩
  refine ⟨by omega,ab (fun c1=>?_) (fun c1=>?_)⟩
  ·have c1:=Xo c1
   refine ⟨by omega,ab (fun c2=>?_) (fun c2=>?_)⟩
   ·have c2:=Xo c2
    rw [if_pos ⟨c1,c2⟩] at h2
    rw [h2]
    exact ⟨by omega,rfl,rfl⟩
   ·rw [if_neg (fun g=>c2 (Xd g.2))] at h2
    exact next h2
  ·rw [if_neg (fun g=>c1 (Xd g.1))] at h2
   exact next h2
 ·have h:¬(0:Int)<=(x:Int) - 1:=fun e=>h (Xd e)
  obtain rfl:x=0:=by omega
  rw [h2]
  exact ⟨trivial,rfl,rfl,rfl,rfl,rfl,rfl,trivial⟩
theorem Bn (n:Nat) (t:Trm) (e:Envt) (ht:Wf (.st .term) t) (he:Wf (.st .env) e) (hz:szT t<=n+1) (hf:allT ak t=true) (hv:e.values.length+4096 *szT t<=100000000) :
  (szT t<=n+(1:Nat)/\allT ak t=true/\List.length e.values+(4096:Nat) *szT t<=(100000000:Nat))/\if decide ((ao (aa n) t e).2.err=(0:Int))=true then if (!decide (aq (ao (aa n) t e).1=(0:Int)))=true then if (!decide (aq (ao (aa n) t e).1=(0:Int)))=true then True/\(0:Int)=(aa (n+(1:Nat)) t e).1.kind/\[]=(aa (n+(1:Nat)) t e).1.pkg/\[]=(aa (n+(1:Nat)) t e).1.name/\(aa (n+(1:Nat)) t e).1.names=[]/\(aa (n+(1:Nat)) t e).1.parts=[]/\aq (ao (aa n) t e).1=(aa (n+(1:Nat)) t e).2.err/\t.pos=(aa (n+(1:Nat)) t e).2.pos/\True else True/\aO (ao (aa n) t e).1=(aa (n+(1:Nat)) t e).1/\(0:Int)=(aa (n+(1:Nat)) t e).2.err/\(0:Int)=(aa (n+(1:Nat)) t e).2.pos/\True else if (!decide ((ao (aa n) t e).2.err=(0:Int)))=true then True/\(0:Int)=(aa (n+(1:Nat)) t e).1.kind/\[]=(aa (n+(1:Nat)) t e).1.pkg/\[]=(aa (n+(1:Nat)) t e).1.name/\(aa (n+(1:Nat)) t e).1.names=[]/\(aa (n+(1:Nat)) t e).1.parts=[]/\(ao (aa n) t e).2.err=(aa (n+(1:Nat)) t e).2.err/\(ao (aa n) t e).2.pos=(aa (n+(1:Nat)) t e).2.pos/\True else True/\aO (ao (aa n) t e).1=(aa (n+(1:Nat)) t e).1/\(0:Int)=(aa (n+(1:Nat)) t e).2.err/\(0:Int)=(aa (n+(1:Nat)) t e).2.pos/\True else if (!decide ((ao (aa n) t e).2.err=(0:Int)))=true then True/\(0:Int)=(aa (n+(1:Nat)) t e).1.kind/\[]=(aa (n+(1:Nat)) t e).1.pkg/\[]=(aa (n+(1:Nat)) t e).1.name/\(aa (n+(1:Nat)) t e).1.names=[]/\(aa (n+(1:Nat)) t e).1.parts=[]/\(ao (aa n) t e).2.err=(aa (n+(1:Nat)) t e).2.err/\(ao (aa n) t e).2.pos=(aa (n+(1:Nat)) t e).2.pos/\True else True/\aO (ao (aa n) t e).1=(aa (n+(1:Nat)) t e).1/\(0:Int)=(aa (n+(1:Nat)) t e).2.err/\(0:Int)=(aa (n+(1:Nat)) t e).2.pos/\True:=by
 refine ⟨⟨hz,hf,hv⟩,?_⟩
 rw [show aa (n+1) t e=dc t (ao (aa n) t e) from rfl]
 generalize ao (aa n) t e=r
 unfold dc
 by_cases h1:r.2.err=0
 ·by_cases h2:aq r.1=0
  ·simp [h1,h2,cW]
  ·simp [h1,h2,an]
 ·simp [h1,an]
theorem Dp (n:Nat) (t:Trm) (w:Shape) (e:Envt) (ht:Wf (.st .term) t) (hw:Wf (.st .shape) w) (he:Wf (.st .env) e) (hz:szT t<=n) (hf:allT ak t=true) (hv:e.values.length+4096 *szT t<=100000000) :
  (szT t<=n/\allT ak t=true/\List.length e.values+(4096:Nat) *szT t<=(100000000:Nat))/\if decide ((aa n t e).2.err=(0:Int))=true then if (!eK (aa n t e).1 w)=true then True/\(140:Int)=(aA (aa n) t w e).err/\t.pos=(aA (aa n) t w e).pos/\True else True/\(aa n t e).2.err=(aA (aa n) t w e).err/\(aa n t e).2.pos=(aA (aa n) t w e).pos/\True else True/\(aa n t e).2.err=(aA (aa n) t w e).err/\(aa n t e).2.pos=(aA (aa n) t w e).pos/\True:=by
 refine ⟨⟨hz,hf,hv⟩,?_⟩
 unfold aA
 by_cases h1:(aa n t e).2.err=0
 ·cases h2:eK (aa n t e).1 w <;> simp [h1,h2]
 ·simp [h1]
theorem Bp (n:Nat) (t:Trm) (e:Envt) (ht:Wf (.st .term) t) (he:Wf (.st .env) e) (hp:0 < t.parts.length) (hz:szT t<=n+1) (hf:allT ak t=true) (hv:e.values.length+4096 *szT t<=100000000) :
  ((0:Int)<=(0:Int)/\(0:Int) < (↑(List.length t.parts):Int))/\(szT (List.getD t.parts (Int.toNat (0:Int)) (dfl (Ty.st SN.term)))<=n/\allT ak (List.getD t.parts (Int.toNat (0:Int)) (dfl (Ty.st SN.term)))=true/\List.length e.values+(4096:Nat) *szT (List.getD t.parts (Int.toNat (0:Int)) (dfl (Ty.st SN.term)))<=(100000000:Nat))/\if (!decide ((aa n (List.getD t.parts (Int.toNat (0:Int)) (dfl (Ty.st SN.term))) e).2.err=(0:Int)))=true then True/\(aa n (List.getD t.parts (Int.toNat (0:Int)) (dfl (Ty.st SN.term))) e).1=(bW (aa n) t e).1/\(aa n (List.getD t.parts (Int.toNat (0:Int)) (dfl (Ty.st SN.term))) e).2.err=(bW (aa n) t e).2.err/\(aa n (List.getD t.parts (Int.toNat (0:Int)) (dfl (Ty.st SN.term))) e).2.pos=(bW (aa n) t e).2.pos/\True else if decide ((aa n (List.getD t.parts (Int.toNat (0:Int)) (dfl (Ty.st SN.term))) e).1.kind=(4:Int))=true then True/\(aa n (List.getD t.parts (Int.toNat (0:Int)) (dfl (Ty.st SN.term))) e).1=(bW (aa n) t e).1/\(aa n (List.getD t.parts (Int.toNat (0:Int)) (dfl (Ty.st SN.term))) e).2.err=(bW (aa n) t e).2.err/\(aa n (List.getD t.parts (Int.toNat (0:Int)) (dfl (Ty.st SN.term))) e).2.pos=(bW (aa n) t e).2.pos/\True else if (!decide ((aa n (List.getD t.parts (Int.toNat (0:Int)) (dfl (Ty.st SN.term))) e).1.kind=(6:Int)))=true then True/\(aa n (List.getD t.parts (Int.toNat (0:Int)) (dfl (Ty.st SN.term))) e).1=(bW (aa n) t e).1/\(140:Int)=(bW (aa n) t e).2.err/\t.pos=(bW (aa n) t e).2.pos/\True else if decide (cd (aa n (List.getD t.parts (Int.toNat (0:Int)) (dfl (Ty.st SN.term))) e).1.names t.name (0:Int) < (0:Int))=true then True/\(aa n (List.getD t.parts (Int.toNat (0:Int)) (dfl (Ty.st SN.term))) e).1=(bW (aa n) t e).1/\(140:Int)=(bW (aa n) t e).2.err/\t.pos=(bW (aa n) t e).2.pos/\True else ((0:Int)<=cd (aa n (List.getD t.parts (Int.toNat (0:Int)) (dfl (Ty.st SN.term))) e).1.names t.name (0:Int)/\cd (aa n (List.getD t.parts (Int.toNat (0:Int)) (dfl (Ty.st SN.term))) e).1.names t.name (0:Int) < (↑(List.length (aa n (List.getD t.parts (Int.toNat (0:Int)) (dfl (Ty.st SN.term))) e).1.parts):Int))/\True/\List.getD (aa n (List.getD t.parts (Int.toNat (0:Int)) (dfl (Ty.st SN.term))) e).1.parts (Int.toNat (cd (aa n (List.getD t.parts (Int.toNat (0:Int)) (dfl (Ty.st SN.term))) e).1.names t.name (0:Int))) (dfl (Ty.st SN.shape))=(bW (aa n) t e).1/\(0:Int)=(bW (aa n) t e).2.err/\(0:Int)=(bW (aa n) t e).2.pos/\True:=by
 have p0:=q8 (dfl (.st .term)) hz hf hp
 refine ⟨by omega,⟨p0.1,p0.2.1,by have:=p0.2.2;rw [show Int.toNat 0=0 from rfl];omega⟩,?_⟩
 rw [show t.parts.getD (Int.toNat 0) (dfl (.st .term))=t.parts.getD 0 az from rfl]
 unfold bW
 have hn:=@AI n (t.parts.getD 0 az) e
 revert hn
 generalize aa n (t.parts.getD 0 az) e=r
 intro hn
 dsimp only
 by_cases h1:r.2.err=0
 ·by_cases h4:r.1.kind=4
  ·simp [h1,h4]
  ·by_cases h6:r.1.kind=6
   ·rcases rK t.name (dfl (.st .shape)) (hn h1) with ⟨g1,g2⟩ | ⟨g1,g2,g3⟩
    ·have g1':cd r.1.names t.name 0 < 0:=by omega
     simp [h1,h6,g1',g2]
    ·have g1':¬cd r.1.names t.name 0 < 0:=by omega
     simp [h1,h6,g1',g3,g1,g2,cW]
   ·simp [h1,h4,h6]
 ·simp [h1]
theorem Bq (t:Trm) (e:Envt) (ht:Wf (.st .term) t) (he:Wf (.st .env) e) (hs:t.shapes.length<=1000000) :
  (∃(x:Nat × List Shape),(x.1<=List.length t.shapes/\List.length x.2=x.1/\((ae e.types t.pos (List.drop x.1 t.shapes)).2.err=(0:Int)→ae e.types t.pos t.shapes=(x.2++(ae e.types t.pos (List.drop x.1 t.shapes)).1,cW))/\(¬(ae e.types t.pos (List.drop x.1 t.shapes)).2.err=(0:Int)→ae e.types t.pos t.shapes=ae e.types t.pos (List.drop x.1 t.shapes)))/\(0:Int)=(↑x.1:Int)/\x.2=[]/\t=t/\e=e/\t.shapes=t.shapes/\(↑(List.length t.shapes):Int)=(↑(List.length t.shapes):Int)/\List.length x.2=(0:Nat)/\t=t/\e=e/\(0:Int)=(0:Int)/\(0:Int)=(0:Int)/\True)/\∀(x:Nat × List Shape),x.1<=List.length t.shapes/\List.length x.2=x.1/\((ae e.types t.pos (List.drop x.1 t.shapes)).2.err=(0:Int)→ae e.types t.pos t.shapes=(x.2++(ae e.types t.pos (List.drop x.1 t.shapes)).1,cW))/\(¬(ae e.types t.pos (List.drop x.1 t.shapes)).2.err=(0:Int)→ae e.types t.pos t.shapes=ae e.types t.pos (List.drop x.1 t.shapes))→if decide ((↑x.1:Int) < (↑(List.length t.shapes):Int))=true then ((0:Int)<=(↑x.1:Int)/\(↑x.1:Int) < (↑(List.length t.shapes):Int))/\if (!decide ((aw (List.getD t.shapes (Int.toNat (↑x.1:Int)) (dfl (Ty.st SN.shape))) e.types).2=(0:Int)))=true then True/\(ae e.types t.pos t.shapes).1=[]/\(aw (List.getD t.shapes (Int.toNat (↑x.1:Int)) (dfl (Ty.st SN.shape))) e.types).2=(ae e.types t.pos t.shapes).2.err/\t.pos=(ae e.types t.pos t.shapes).2.pos/\List.length (ae e.types t.pos t.shapes).1=(0:Nat)/\True else (List.length x.2=List.length x.2/\(List.length x.2+List.length [(aw (List.getD t.shapes (Int.toNat (↑x.1:Int)) (dfl (Ty.st SN.shape))) e.types).1]) *(88:Nat)<=(140737488355328:Nat))/\inR IntKind.i64 ((↑x.1:Int)+(1:Int))/\∃(y:Nat × List Shape),(y.1<=List.length t.shapes/\List.length y.2=y.1/\((ae e.types t.pos (List.drop y.1 t.shapes)).2.err=(0:Int)→ae e.types t.pos t.shapes=(y.2++(ae e.types t.pos (List.drop y.1 t.shapes)).1,cW))/\(¬(ae e.types t.pos (List.drop y.1 t.shapes)).2.err=(0:Int)→ae e.types t.pos t.shapes=ae e.types t.pos (List.drop y.1 t.shapes)))/\List.length t.shapes - y.1 < List.length t.shapes - x.1/\(↑x.1:Int)+(1:Int)=(↑y.1:Int)/\x.2++[(aw (List.getD t.shapes (Int.toNat (↑x.1:Int)) (dfl (Ty.st SN.shape))) e.types).1]=y.2/\t=t/\e=e/\t.shapes=t.shapes/\(↑(List.length t.shapes):Int)=(↑(List.length t.shapes):Int)/\List.length (x.2++[(aw (List.getD t.shapes (Int.toNat (↑x.1:Int)) (dfl (Ty.st SN.shape))) e.types).1])=List.length y.2/\t=t/\e=e/\(0:Int)=(0:Int)/\(0:Int)=(0:Int)/\True else True/\x.2=(ae e.types t.pos t.shapes).1/\(0:Int)=(ae e.types t.pos t.shapes).2.err/\(0:Int)=(ae e.types t.pos t.shapes).2.pos/\List.length x.2=List.length (ae e.types t.pos t.shapes).1/\True:=by
 simp only [Int.toNat_natCast,eq_self,true_and,and_true]
 refine ⟨⟨(0,[]),⟨Nat.zero_le _,rfl,fun h=>rM h,fun _=>rfl⟩,rfl,rfl,rfl⟩,?_⟩
 rintro ⟨k,q⟩ ⟨h1,h2,h3,h4⟩
 dsimp only at h1 h2 h3 h4 ⊢
 refine ab (fun h=>?_) (fun h=>?_)
 ·replace h:=Xo h
  have hk:k < t.shapes.length:=by omega
  rw [aC t.shapes k (dfl (.st .shape)) hk,ib] at h3 h4
  refine ⟨by omega,ab (fun c=>?_) (fun c=>?_)⟩
  ·have c:¬(aw (t.shapes.getD k (dfl (.st .shape))) e.types).2=0:=by simpa using c
   rw [if_neg c] at h4
   rw [h4 c]
   exact ⟨rfl,rfl,rfl,rfl⟩
  ·have c:(aw (t.shapes.getD k (dfl (.st .shape))) e.types).2=0:=by simpa using c
   rw [if_pos c] at h3 h4
   refine ⟨by simp only [List.length_cons,List.length_nil];omega,bc hk (by omega),(k+1,q++[_]),⟨by omega,by simp [h2],fun g=>?_,fun g=>?_⟩,by dsimp only;omega,by dsimp only;omega,rfl,rfl⟩
   ·dsimp only at g
    rw [if_pos g] at h3
    rw [h3 rfl];simp
   ·dsimp only at g
    rw [if_neg g] at h4
    rw [h4 g,←xJ g]
 ·replace h:¬((k:Int) < (t.shapes.length:Int)):=fun e=>h (Xd e)
  have e:k=t.shapes.length:=by omega
  subst e
  rw [List.drop_length] at h3
  rw [h3 rfl]
  simp [ae,cW]
theorem Dq (n:Nat) (t:Trm) (e:Envt) (ht:Wf (.st .term) t) (he:Wf (.st .env) e) (hp:0 < t.parts.length) (hz:szT t<=n+1) (hf:allT ak t=true) (hv:e.values.length+4096 *szT t<=100000000) :
  ((0:Int)<=(0:Int)/\(0:Int) < (↑(List.length t.parts):Int))/\(szT (List.getD t.parts (Int.toNat (0:Int)) (dfl (Ty.st SN.term)))<=n/\allT ak (List.getD t.parts (Int.toNat (0:Int)) (dfl (Ty.st SN.term)))=true/\List.length e.values+(4096:Nat) *szT (List.getD t.parts (Int.toNat (0:Int)) (dfl (Ty.st SN.term)))<=(100000000:Nat))/\if (!decide ((aa n (List.getD t.parts (Int.toNat (0:Int)) (dfl (Ty.st SN.term))) e).2.err=(0:Int)))=true then True/\(aa n (List.getD t.parts (Int.toNat (0:Int)) (dfl (Ty.st SN.term))) e).1=(bU (aa n) t e).1/\(aa n (List.getD t.parts (Int.toNat (0:Int)) (dfl (Ty.st SN.term))) e).2.err=(bU (aa n) t e).2.err/\(aa n (List.getD t.parts (Int.toNat (0:Int)) (dfl (Ty.st SN.term))) e).2.pos=(bU (aa n) t e).2.pos/\True else (if (!decide ((aa n (List.getD t.parts (Int.toNat (0:Int)) (dfl (Ty.st SN.term))) e).1.kind=(4:Int)))=true then if (!decide ((aa n (List.getD t.parts (Int.toNat (0:Int)) (dfl (Ty.st SN.term))) e).1.kind=(8:Int)))=true then true=(!decide ((aa n (List.getD t.parts (0:Nat) az) e).1.kind=(4:Int)) && (!decide ((aa n (List.getD t.parts (0:Nat) az) e).1.kind=(8:Int)) || !decide (List.length (aa n (List.getD t.parts (0:Nat) az) e).1.parts=List.length t.parts)))/\t=t/\e=e/\false=false/\decide ((aa n (List.getD t.parts (Int.toNat (0:Int)) (dfl (Ty.st SN.term))) e).1.kind=(4:Int))=decide ((aa n (List.getD t.parts (Int.toNat (0:Int)) (dfl (Ty.st SN.term))) e).1.kind=(4:Int))/\t=t/\e=e/\(0:Int)=(0:Int)/\aK UInt8=aK UInt8/\aK UInt8=aK UInt8/\(0:Int)=(0:Int)/\(0:Int)=(0:Int)/\(aa n (List.getD t.parts (Int.toNat (0:Int)) (dfl (Ty.st SN.term))) e).1=(aa n (List.getD t.parts (Int.toNat (0:Int)) (dfl (Ty.st SN.term))) e).1/\(aa n (List.getD t.parts (Int.toNat (0:Int)) (dfl (Ty.st SN.term))) e).2.err=(aa n (List.getD t.parts (Int.toNat (0:Int)) (dfl (Ty.st SN.term))) e).2.err/\(aa n (List.getD t.parts (Int.toNat (0:Int)) (dfl (Ty.st SN.term))) e).2.pos=(aa n (List.getD t.parts (Int.toNat (0:Int)) (dfl (Ty.st SN.term))) e).2.pos/\True else (!decide ((↑(List.length (aa n (List.getD t.parts (Int.toNat (0:Int)) (dfl (Ty.st SN.term))) e).1.parts):Int)=(↑(List.length t.parts):Int)))=(!decide ((aa n (List.getD t.parts (0:Nat) az) e).1.kind=(4:Int)) && (!decide ((aa n (List.getD t.parts (0:Nat) az) e).1.kind=(8:Int)) || !decide (List.length (aa n (List.getD t.parts (0:Nat) az) e).1.parts=List.length t.parts)))/\t=t/\e=e/\false=false/\decide ((aa n (List.getD t.parts (Int.toNat (0:Int)) (dfl (Ty.st SN.term))) e).1.kind=(4:Int))=decide ((aa n (List.getD t.parts (Int.toNat (0:Int)) (dfl (Ty.st SN.term))) e).1.kind=(4:Int))/\t=t/\e=e/\(0:Int)=(0:Int)/\aK UInt8=aK UInt8/\aK UInt8=aK UInt8/\(0:Int)=(0:Int)/\(0:Int)=(0:Int)/\(aa n (List.getD t.parts (Int.toNat (0:Int)) (dfl (Ty.st SN.term))) e).1=(aa n (List.getD t.parts (Int.toNat (0:Int)) (dfl (Ty.st SN.term))) e).1/\(aa n (List.getD t.parts (Int.toNat (0:Int)) (dfl (Ty.st SN.term))) e).2.err=(aa n (List.getD t.parts (Int.toNat (0:Int)) (dfl (Ty.st SN.term))) e).2.err/\(aa n (List.getD t.parts (Int.toNat (0:Int)) (dfl (Ty.st SN.term))) e).2.pos=(aa n (List.getD t.parts (Int.toNat (0:Int)) (dfl (Ty.st SN.term))) e).2.pos/\True else false=(!decide ((aa n (List.getD t.parts (0:Nat) az) e).1.kind=(4:Int)) && (!decide ((aa n (List.getD t.parts (0:Nat) az) e).1.kind=(8:Int)) || !decide (List.length (aa n (List.getD t.parts (0:Nat) az) e).1.parts=List.length t.parts)))/\t=t/\e=e/\false=false
  /\decide ((aa n (List.getD t.parts (Int.toNat (0:Int)) (dfl (Ty.st SN.term))) e).1.kind=(4:Int))=decide ((aa n (List.getD t.parts (Int.toNat (0:Int)) (dfl (Ty.st SN.term))) e).1.kind=(4:Int))/\t=t/\e=e/\(0:Int)=(0:Int)/\aK UInt8=aK UInt8/\aK UInt8=aK UInt8/\(0:Int)=(0:Int)/\(0:Int)=(0:Int)/\(aa n (List.getD t.parts (Int.toNat (0:Int)) (dfl (Ty.st SN.term))) e).1=(aa n (List.getD t.parts (Int.toNat (0:Int)) (dfl (Ty.st SN.term))) e).1/\(aa n (List.getD t.parts (Int.toNat (0:Int)) (dfl (Ty.st SN.term))) e).2.err=(aa n (List.getD t.parts (Int.toNat (0:Int)) (dfl (Ty.st SN.term))) e).2.err/\(aa n (List.getD t.parts (Int.toNat (0:Int)) (dfl (Ty.st SN.term))) e).2.pos=(aa n (List.getD t.parts (Int.toNat (0:Int)) (dfl (Ty.st SN.term))) e).2.pos/\True)/\if (!decide ((aa n (List.getD t.parts (0:Nat) az) e).1.kind=(4:Int)) && (!decide ((aa n (List.getD t.parts (0:Nat) az) e).1.kind=(8:Int)) || !decide (List.length (aa n (List.getD t.parts (0:Nat) az) e).1.parts=List.length t.parts)))=true then True/\(aa n (List.getD t.parts (Int.toNat (0:Int)) (dfl (Ty.st SN.term))) e).1=(bU (aa n) t e).1/\(140:Int)=(bU (aa n) t e).2.err/\t.pos=(bU (aa n) t e).2.pos/\True else ((0:Int)<=(1:Int)/\(1:Int)<=(↑(List.length t.parts):Int)/\(↑(List.length t.parts):Int)<=(↑(List.length t.parts):Int))/\(∃(x:Nat),(x+(1:Nat)<=List.length t.parts/\((aa n (List.getD t.parts (0:Nat) az) e).1.kind=(4:Int)→cE (aa n) e (ofK (4:Int)) (List.drop (1:Nat) t.parts)=cE (aa n) e (ofK (4:Int)) (List.drop (x+(1:Nat)) t.parts))/\(¬(aa n (List.getD t.parts (0:Nat) az) e).1.kind=(4:Int)→dV (aa n) e (List.drop (1:Nat) t.parts) (aa n (List.getD t.parts (0:Nat) az) e).1.parts=dV (aa n) e (List.drop (x+(1:Nat)) t.parts) (List.drop x (aa n (List.getD t.parts (0:Nat) az) e).1.parts)))/\(0:Int)=(↑x:Int)/\false=false/\t=t/\e=e/\false=false/\decide ((aa n (List.getD t.parts (Int.toNat (0:Int)) (dfl (Ty.st SN.term))) e).1.kind=(4:Int))=decide ((aa n (List.getD t.parts (Int.toNat (0:Int)) (dfl (Ty.st SN.term))) e).1.kind=(4:Int))/\List.drop (Int.toNat (1:Int)) (List.take (Int.toNat (↑(List.length t.parts):Int)) t.parts)=List.drop (Int.toNat (1:Int)) (List.take (Int.toNat (↑(List.length t.parts):Int)) t.parts)/\(↑(List.length (List.drop (Int.toNat (1:Int)) (List.take (Int.toNat (↑(List.length t.parts):Int)) t.parts))):Int)=(↑(List.length (List.drop (Int.toNat (1:Int)) (List.take (Int.toNat (↑(List.length t.parts):Int)) t.parts))):Int)/\t=t/\e=e/\(0:Int)=(0:Int)/\aK UInt8=aK UInt8/\aK UInt8=aK UInt8/\(0:Int)=(0:Int)/\(0:Int)=(0:Int)/\(aa n (List.getD t.parts (Int.toNat (0:Int)) (dfl (Ty.st SN.term))) e).1=(aa n (List.getD t.parts (Int.toNat (0:Int)) (dfl (Ty.st SN.term))) e).1/\(aa n (List.getD t.parts (Int.toNat (0:Int)) (dfl (Ty.st SN.term))) e).2.err=(aa n (List.getD t.parts (Int.toNat (0:Int)) (dfl (Ty.st SN.term))) e).2.err/\(aa n (List.getD t.parts (Int.toNat (0:Int)) (dfl (Ty.st SN.term))) e).2.pos=(aa n (List.getD t.parts (Int.toNat (0:Int)) (dfl (Ty.st SN.term))) e).2.pos/\True)/\∀(x:Nat),x+(1:Nat)<=List.length t.parts/\((aa n (List.getD t.parts (0:Nat) az) e).1.kind=(4:Int)→cE (aa n) e (ofK (4:Int)) (List.drop (1:Nat) t.parts)=cE (aa n) e (ofK (4:Int)) (List.drop (x+(1:Nat)) t.parts))
  /\(¬(aa n (List.getD t.parts (0:Nat) az) e).1.kind=(4:Int)→dV (aa n) e (List.drop (1:Nat) t.parts) (aa n (List.getD t.parts (0:Nat) az) e).1.parts=dV (aa n) e (List.drop (x+(1:Nat)) t.parts) (List.drop x (aa n (List.getD t.parts (0:Nat) az) e).1.parts))→if decide ((↑x:Int) < (↑(List.length (List.drop (Int.toNat (1:Int)) (List.take (Int.toNat (↑(List.length t.parts):Int)) t.parts))):Int))=true then ((0:Int)<=(↑x:Int)/\(↑x:Int) < (↑(List.length (List.drop (Int.toNat (1:Int)) (List.take (Int.toNat (↑(List.length t.parts):Int)) t.parts))):Int))/\if (!decide ((aa n (List.getD t.parts (Int.toNat (0:Int)) (dfl (Ty.st SN.term))) e).1.kind=(4:Int)))=true then ((0:Int)<=(↑x:Int)/\(↑x:Int) < (↑(List.length (aa n (List.getD t.parts (Int.toNat (0:Int)) (dfl (Ty.st SN.term))) e).1.parts):Int))/\(szT (List.getD (List.drop (Int.toNat (1:Int)) (List.take (Int.toNat (↑(List.length t.parts):Int)) t.parts)) (Int.toNat (↑x:Int)) (dfl (Ty.st SN.term)))<=n/\allT ak (List.getD (List.drop (Int.toNat (1:Int)) (List.take (Int.toNat (↑(List.length t.parts):Int)) t.parts)) (Int.toNat (↑x:Int)) (dfl (Ty.st SN.term)))=true/\List.length e.values+(4096:Nat) *szT (List.getD (List.drop (Int.toNat (1:Int)) (List.take (Int.toNat (↑(List.length t.parts):Int)) t.parts)) (Int.toNat (↑x:Int)) (dfl (Ty.st SN.term)))<=(100000000:Nat))/\if (!decide ((aA (aa n) (List.getD (List.drop (Int.toNat (1:Int)) (List.take (Int.toNat (↑(List.length t.parts):Int)) t.parts)) (Int.toNat (↑x:Int)) (dfl (Ty.st SN.term))) (List.getD (aa n (List.getD t.parts (Int.toNat (0:Int)) (dfl (Ty.st SN.term))) e).1.parts (Int.toNat (↑x:Int)) (dfl (Ty.st SN.shape))) e).err=(0:Int)))=true then True/\(aa n (List.getD t.parts (Int.toNat (0:Int)) (dfl (Ty.st SN.term))) e).1=(bU (aa n) t e).1/\(aA (aa n) (List.getD (List.drop (Int.toNat (1:Int)) (List.take (Int.toNat (↑(List.length t.parts):Int)) t.parts)) (Int.toNat (↑x:Int)) (dfl (Ty.st SN.term))) (List.getD (aa n (List.getD t.parts (Int.toNat (0:Int)) (dfl (Ty.st SN.term))) e).1.parts (Int.toNat (↑x:Int)) (dfl (Ty.st SN.shape))) e).err=(bU (aa n) t e).2.err/\(aA (aa n) (List.getD (List.drop (Int.toNat (1:Int)) (List.take (Int.toNat (↑(List.length t.parts):Int)) t.parts)) (Int.toNat (↑x:Int)) (dfl (Ty.st SN.term))) (List.getD (aa n (List.getD t.parts (Int.toNat (0:Int)) (dfl (Ty.st SN.term))) e).1.parts (Int.toNat (↑x:Int)) (dfl (Ty.st SN.shape))) e).pos=(bU (aa n) t e).2.pos/\True else inR IntKind.i64 ((↑x:Int)+(1:Int))/\∃(y:Nat),(y+(1:Nat)<=List.length t.parts/\((aa n (List.getD t.parts (0:Nat) az) e).1.kind=(4:Int)→cE (aa n) e (ofK (4:Int)) (List.drop (1:Nat) t.parts)=cE (aa n) e (ofK (4:Int)) (List.drop (y+(1:Nat)) t.parts))/\(¬(aa n (List.getD t.parts (0:Nat) az) e).1.kind=(4:Int)→dV (aa n) e (List.drop (1:Nat) t.parts) (aa n (List.getD t.parts (0:Nat) az) e).1.parts=dV (aa n) e (List.drop (y+(1:Nat)) t.parts) (List.drop y (aa n (List.getD t.parts (0:Nat) az) e).1.parts)))/\List.length t.parts - y < List.length t.parts - x/\(↑x:Int)+(1:Int)=(↑y:Int)/\false=false/\t=t/\e=e/\false=false/\decide ((aa n (List.getD t.parts (Int.toNat (0:Int)) (dfl (Ty.st SN.term))) e).1.kind=(4:Int))=decide ((aa n (List.getD t.parts (Int.toNat (0:Int)) (dfl (Ty.st SN.term))) e).1.kind=(4:Int))/\List.drop (Int.toNat (1:Int)) (List.take (Int.toNat (↑(List.length t.parts):Int)) t.parts)=List.drop (Int.toNat (1:Int)) (List.take (Int.toNat (↑(List.length t.parts):Int)) t.parts)
  /\(↑(List.length (List.drop (Int.toNat (1:Int)) (List.take (Int.toNat (↑(List.length t.parts):Int)) t.parts))):Int)=(↑(List.length (List.drop (Int.toNat (1:Int)) (List.take (Int.toNat (↑(List.length t.parts):Int)) t.parts))):Int)/\t=t/\e=e/\(0:Int)=(0:Int)/\aK UInt8=aK UInt8/\aK UInt8=aK UInt8/\(0:Int)=(0:Int)/\(0:Int)=(0:Int)/\(aa n (List.getD t.parts (Int.toNat (0:Int)) (dfl (Ty.st SN.term))) e).1=(aa n (List.getD t.parts (Int.toNat (0:Int)) (dfl (Ty.st SN.term))) e).1/\(aa n (List.getD t.parts (Int.toNat (0:Int)) (dfl (Ty.st SN.term))) e).2.err=(aa n (List.getD t.parts (Int.toNat (0:Int)) (dfl (Ty.st SN.term))) e).2.err/\(aa n (List.getD t.parts (Int.toNat (0:Int)) (dfl (Ty.st SN.term))) e).2.pos=(aa n (List.getD t.parts (Int.toNat (0:Int)) (dfl (Ty.st SN.term))) e).2.pos/\True else (szT (List.getD (List.drop (Int.toNat (1:Int)) (List.take (Int.toNat (↑(List.length t.parts):Int)) t.parts)) (Int.toNat (↑x:Int)) (dfl (Ty.st SN.term)))<=n/\allT ak (List.getD (List.drop (Int.toNat (1:Int)) (List.take (Int.toNat (↑(List.length t.parts):Int)) t.parts)) (Int.toNat (↑x:Int)) (dfl (Ty.st SN.term)))=true/\List.length e.values+(4096:Nat) *szT (List.getD (List.drop (Int.toNat (1:Int)) (List.take (Int.toNat (↑(List.length t.parts):Int)) t.parts)) (Int.toNat (↑x:Int)) (dfl (Ty.st SN.term)))<=(100000000:Nat))/\if (!decide ((aA (aa n) (List.getD (List.drop (Int.toNat (1:Int)) (List.take (Int.toNat (↑(List.length t.parts):Int)) t.parts)) (Int.toNat (↑x:Int)) (dfl (Ty.st SN.term))) (ofK (4:Int)) e).err=(0:Int)))=true then True/\(aa n (List.getD t.parts (Int.toNat (0:Int)) (dfl (Ty.st SN.term))) e).1=(bU (aa n) t e).1/\(aA (aa n) (List.getD (List.drop (Int.toNat (1:Int)) (List.take (Int.toNat (↑(List.length t.parts):Int)) t.parts)) (Int.toNat (↑x:Int)) (dfl (Ty.st SN.term))) (ofK (4:Int)) e).err=(bU (aa n) t e).2.err/\(aA (aa n) (List.getD (List.drop (Int.toNat (1:Int)) (List.take (Int.toNat (↑(List.length t.parts):Int)) t.parts)) (Int.toNat (↑x:Int)) (dfl (Ty.st SN.term))) (ofK (4:Int)) e).pos=(bU (aa n) t e).2.pos/\True else inR IntKind.i64 ((↑x:Int)+(1:Int))/\∃(y:Nat),(y+(1:Nat)<=List.length t.parts/\((aa n (List.getD t.parts (0:Nat) az) e).1.kind=(4:Int)→cE (aa n) e (ofK (4:Int)) (List.drop (1:Nat) t.parts)=cE (aa n) e (ofK (4:Int)) (List.drop (y+(1:Nat)) t.parts))/\(¬(aa n (List.getD t.parts (0:Nat) az) e).1.kind=(4:Int)→dV (aa n) e (List.drop (1:Nat) t.parts) (aa n (List.getD t.parts (0:Nat) az) e).1.parts=dV (aa n) e (List.drop (y+(1:Nat)) t.parts) (List.drop y (aa n (List.getD t.parts (0:Nat) az) e).1.parts)))/\List.length t.parts - y < List.length t.parts - x/\(↑x:Int)+(1:Int)=(↑y:Int)/\false=false/\t=t/\e=e/\false=false/\decide ((aa n (List.getD t.parts (Int.toNat (0:Int)) (dfl (Ty.st SN.term))) e).1.kind=(4:Int))=decide ((aa n (List.getD t.parts (Int.toNat (0:Int)) (dfl (Ty.st SN.term))) e).1.kind=(4:Int))/\List.drop (Int.toNat (1:Int)) (List.take (Int.toNat (↑(List.length t.parts):Int)) t.parts)=List.drop (Int.toNat (1:Int)) (List.take (Int.toNat (↑(List.length t.parts):Int)) t.parts)/\(↑(List.length (List.drop (Int.toNat (1:Int)) (List.take (Int.toNat (↑(List.length t.parts):Int)) t.parts))):Int)=(↑(List.length (List.drop (Int.toNat (1:Int)) (List.take (Int.toNat (↑(List.length t.parts):Int)) t.parts))):Int)/\t=t/\e=e/\(0:Int)=(0:Int)/\aK UInt8=aK UInt8/\aK UInt8=aK UInt8/\(0:Int)=(0:Int)/\(0:Int)=(0:Int)
  /\(aa n (List.getD t.parts (Int.toNat (0:Int)) (dfl (Ty.st SN.term))) e).1=(aa n (List.getD t.parts (Int.toNat (0:Int)) (dfl (Ty.st SN.term))) e).1/\(aa n (List.getD t.parts (Int.toNat (0:Int)) (dfl (Ty.st SN.term))) e).2.err=(aa n (List.getD t.parts (Int.toNat (0:Int)) (dfl (Ty.st SN.term))) e).2.err/\(aa n (List.getD t.parts (Int.toNat (0:Int)) (dfl (Ty.st SN.term))) e).2.pos=(aa n (List.getD t.parts (Int.toNat (0:Int)) (dfl (Ty.st SN.term))) e).2.pos/\True else if decide ((aa n (List.getD t.parts (Int.toNat (0:Int)) (dfl (Ty.st SN.term))) e).1.kind=(4:Int))=true then True/\(aa n (List.getD t.parts (Int.toNat (0:Int)) (dfl (Ty.st SN.term))) e).1=(bU (aa n) t e).1/\(0:Int)=(bU (aa n) t e).2.err/\(0:Int)=(bU (aa n) t e).2.pos/\True else inR IntKind.i64 ((↑(List.length (aa n (List.getD t.parts (Int.toNat (0:Int)) (dfl (Ty.st SN.term))) e).1.parts):Int) - (1:Int))/\((0:Int)<=(↑(List.length (aa n (List.getD t.parts (Int.toNat (0:Int)) (dfl (Ty.st SN.term))) e).1.parts):Int) - (1:Int)/\(↑(List.length (aa n (List.getD t.parts (Int.toNat (0:Int)) (dfl (Ty.st SN.term))) e).1.parts):Int) - (1:Int) < (↑(List.length (aa n (List.getD t.parts (Int.toNat (0:Int)) (dfl (Ty.st SN.term))) e).1.parts):Int))/\True/\List.getD (aa n (List.getD t.parts (Int.toNat (0:Int)) (dfl (Ty.st SN.term))) e).1.parts (Int.toNat ((↑(List.length (aa n (List.getD t.parts (Int.toNat (0:Int)) (dfl (Ty.st SN.term))) e).1.parts):Int) - (1:Int))) (dfl (Ty.st SN.shape))=(bU (aa n) t e).1/\(0:Int)=(bU (aa n) t e).2.err/\(0:Int)=(bU (aa n) t e).2.pos/\True:=by
 have p0:=tA hz hf hv (dfl (.st .term)) hp (Nat.le_add_right _ _)
 have ln:=ht.term_parts.len
 have hds:List.drop (Int.toNat 1) (List.take t.parts.length t.parts)=t.parts.drop 1:=by rw [List.take_length];rfl
 have hdg:∀k:Nat,(t.parts.drop 1).getD k (dfl (.st .term))=t.parts.getD (k+1) (dfl (.st .term)):=fun k=>by
  rw [List.getD_eq_getElem?_getD,List.getD_eq_getElem?_getD,List.getElem?_drop,Nat.add_comm]
 rw [show t.parts.getD (Int.toNat 0) (dfl (.st .term))=t.parts.getD 0 az from rfl]
 simp only [Int.toNat_natCast,eq_self,true_and,and_true]
 simp only [hds,hdg,List.length_drop]
 have hC0:¬(aa n (t.parts.getD 0 az) e).2.err=0→bU (aa n) t e=aa n (t.parts.getD 0 az) e:=fun h=>by simp only [bU,if_neg h]
 have hC4:(aa n (t.parts.getD 0 az) e).2.err=0→(aa n (t.parts.getD 0 az) e).1.kind=4→bU (aa n) t e=if (cE (aa n) e (ofK 4) (t.parts.drop 1)).err=0 then ((aa n (t.parts.getD 0 az) e).1,cW) else ((aa n (t.parts.getD 0 az) e).1,cE (aa n) e (ofK 4) (t.parts.drop 1)):=fun h k=>by simp only [bU,if_pos h,if_pos k]
 have hC8:(aa n (t.parts.getD 0 az) e).2.err=0→¬(aa n (t.parts.getD 0 az) e).1.kind=4→(aa n (t.parts.getD 0 az) e).1.kind=8/\(aa n (t.parts.getD 0 az) e).1.parts.length=t.parts.length→bU (aa n) t e=if (dV (aa n) e (t.parts.drop 1) (aa n (t.parts.getD 0 az) e).1.parts).err=0 then ((aa n (t.parts.getD 0 az) e).1.parts.getD ((aa n (t.parts.getD 0 az) e).1.parts.length - 1) an,cW) else ((aa n (t.parts.getD 0 az) e).1,dV (aa n) e (t.parts.drop 1) (aa n (t.parts.getD 0 az) e).1.parts):=fun h k g=>by simp only [bU,if_pos h,if_neg k,if_pos g]
 have hC9:(aa n (t.parts.getD 0 az) e).2.err=0→¬(aa n (t.parts.getD 0 az) e).1.kind=4→¬((aa n (t.parts.getD 0 az) e).1.kind=8/\(aa n (t.parts.getD 0 az) e).1.parts.length=t.parts.length)→bU (aa n) t e=((aa n (t.parts.getD 0 az) e).1,⟨140,t.pos⟩):=fun h k g=>by simp only [bU,if_pos h,if_neg k,if_neg g]
 revert hC0 hC4 hC8 hC9
 generalize bU (aa n) t e=R
 generalize aa n (t.parts.getD 0 az) e=r
 intro hC0 hC4 hC8 hC9
 have dn:decide ((r.1.parts.length:Int)=(t.parts.length:Int))=decide (r.1.parts.length=t.parts.length):=decide_eq_decide.2 (by omega)
 refine ⟨by omega,p0,ab (fun h=>?_) (fun h=>?_)⟩
 ·rw [hC0 (by simpa using h)];exact ⟨rfl,rfl,rfl⟩
 have h:r.2.err=0:=by simpa using h
 rw [dn]
 refine ⟨?_,ab (fun g=>?_) (fun g=>?_)⟩
 ·cases decide (r.1.kind=4) <;> cases decide (r.1.kind=8) <;> cases decide (r.1.parts.length=t.parts.length) <;> rfl
 ·have g':¬r.1.kind=4/\¬(r.1.kind=8/\r.1.parts.length=t.parts.length):=by
   simp only [Bool.and_eq_true,Bool.or_eq_true,Bool.not_eq_true',decide_eq_false_iff_not] at g
   exact ⟨g.1,fun q=>g.2.elim (fun x=>x q.1) (fun x=>x q.2)⟩
  rw [hC9 h g'.1 g'.2];exact ⟨rfl,rfl,rfl⟩
 have g':¬r.1.kind=4→r.1.kind=8/\r.1.parts.length=t.parts.length:=fun q=>by
  simp only [Bool.and_eq_true,Bool.or_eq_true,Bool.not_eq_true',decide_eq_false_iff_not] at g
  exact ⟨Decidable.byContradiction fun x=>g ⟨q,.inl x⟩,Decidable.byContradiction fun x=>g ⟨q,.inr x⟩⟩
 refine ⟨by omega,⟨0,⟨by omega,fun _=>rfl,fun _=>by rw [List.drop_zero]⟩,rfl⟩,?_⟩
 rintro k ⟨h1,h2,h3⟩
 refine ab (fun c=>?_) (fun c=>?_)
 ·have c:=Xo c
  have hk:k+1 < t.parts.length:=by omega
  have ob:=tA hz hf hv (dfl (.st .term)) hk (Nat.le_add_right _ _)
  rw [aC t.parts (k+1) (dfl (.st .term)) hk] at h2 h3
  refine ⟨by omega,ab (fun k4=>?_) (fun k4=>?_)⟩
  ·have k4:¬r.1.kind=4:=by simpa using k4
   have k8:=g' k4
   have h3:=h3 k4
   rw [aC r.1.parts k (dfl (.st .shape)) (by omega)] at h3
   simp only [dV] at h3
   refine ⟨by omega,ob,ab (fun f=>?_) (fun f=>?_)⟩
   ·have f:¬(aA (aa n) (t.parts.getD (k+1) (dfl (.st .term))) (r.1.parts.getD k (dfl (.st .shape))) e).err=0:=by simpa using f
    rw [if_neg f] at h3
    rw [hC8 h k4 k8,h3,if_neg f]
    exact ⟨rfl,rfl,rfl⟩
   ·have f:(aA (aa n) (t.parts.getD (k+1) (dfl (.st .term))) (r.1.parts.getD k (dfl (.st .shape))) e).err=0:=by simpa using f
    rw [if_pos f] at h3
    exact ⟨bc (by omega) ln,k+1,⟨by omega,fun q=>absurd q k4,fun _=>h3⟩,by omega,by omega⟩
  ·have k4:r.1.kind=4:=by simpa using k4
   have h2:=h2 k4
   simp only [cE] at h2
   refine ⟨ob,ab (fun f=>?_) (fun f=>?_)⟩
   ·have f:¬(aA (aa n) (t.parts.getD (k+1) (dfl (.st .term))) (ofK 4) e).err=0:=by simpa using f
    rw [if_neg f] at h2
    rw [hC4 h k4,h2,if_neg f]
    exact ⟨rfl,rfl,rfl⟩
   ·have f:(aA (aa n) (t.parts.getD (k+1) (dfl (.st .term))) (ofK 4) e).err=0:=by simpa using f
    rw [if_pos f] at h2
    exact ⟨bc (by omega) ln,k+1,⟨by omega,fun _=>h2,fun q=>absurd k4 q⟩,by omega,by omega⟩
 ·have c:¬((k:Int) < ((t.parts.length - 1:Nat):Int)):=fun q=>c (Xd q)
  have hk:k+1=t.parts.length:=by omega
  rw [hk,List.drop_length] at h2 h3
  refine ab (fun k4=>?_) (fun k4=>?_)
  ·have k4:r.1.kind=4:=Xo k4
   rw [hC4 h k4,h2 k4]
   exact ⟨rfl,rfl,rfl⟩
  ·have k4:¬r.1.kind=4:=fun q=>k4 (Xd q)
   have k8:=g' k4
   have h3:=h3 k4
   simp only [dV] at h3
   have ei:((r.1.parts.length:Int) - 1).toNat=r.1.parts.length - 1:=by omega
   rw [hC8 h k4 k8,h3,ei]
   exact ⟨bN (by omega) (by omega),by omega,rfl,rfl,rfl⟩
theorem EJ (n:Nat) (t:Trm) (e:Envt) (ht:Wf (.st .term) t) (he:Wf (.st .env) e) (hp:0 < t.parts.length) (hz:szT t<=n+1) (hf:allT ak t=true) (hv:e.values.length+4096 *szT t<=100000000) :
  inR IntKind.i64 ((↑(List.length e.own):Int) - (1:Int))/\(∃(x:Nat × Option Shape),(x.1<=List.length e.own/\(x.2=none→dt e.own t.name=dt (List.take x.1 e.own) t.name)/\∀(s:Shape),x.2=some s→dt e.own t.name=some s)/\(↑(List.length e.own):Int) - (1:Int)=(↑x.1:Int) - (1:Int)/\false=Option.isSome x.2/\t=t/\e=e/\(0:Int)=(Option.elim x.2 an aO).kind/\[]=(Option.elim x.2 an aO).pkg/\[]=(Option.elim x.2 an aO).name/\(Option.elim x.2 an aO).names=[]/\(Option.elim x.2 an aO).parts=[]/\t=t/\e=e/\(0:Int)=(0:Int)/\aK UInt8=aK UInt8/\aK UInt8=aK UInt8/\(0:Int)=(0:Int)/\(0:Int)=(0:Int)/\True)/\∀(x:Nat × Option Shape),(x.1<=List.length e.own/\(x.2=none→dt e.own t.name=dt (List.take x.1 e.own) t.name)/\∀(s:Shape),x.2=some s→dt e.own t.name=some s)→if decide ((0:Int)<=(↑x.1:Int) - (1:Int))=true then if (!Option.isSome x.2)=true then ((0:Int)<=(↑x.1:Int) - (1:Int)/\(↑x.1:Int) - (1:Int) < (↑(List.length e.own):Int))/\if decide ((List.getD e.own (Int.toNat ((↑x.1:Int) - (1:Int))) (dfl (Ty.st SN.bind))).name=t.name)=true then ((0:Int)<=(↑x.1:Int) - (1:Int)/\(↑x.1:Int) - (1:Int) < (↑(List.length e.own):Int))/\inR IntKind.i64 ((↑x.1:Int) - (1:Int) - (1:Int))/\∃(y:Nat × Option Shape),(y.1<=List.length e.own/\(y.2=none→dt e.own t.name=dt (List.take y.1 e.own) t.name)/\∀(s:Shape),y.2=some s→dt e.own t.name=some s)/\y.1 < x.1/\(↑x.1:Int) - (1:Int) - (1:Int)=(↑y.1:Int) - (1:Int)/\true=Option.isSome y.2/\t=t/\e=e/\aO (List.getD e.own (Int.toNat ((↑x.1:Int) - (1:Int))) (dfl (Ty.st SN.bind))).shape=Option.elim y.2 an aO/\t=t/\e=e/\(0:Int)=(0:Int)/\aK UInt8=aK UInt8/\aK UInt8=aK UInt8/\(0:Int)=(0:Int)/\(0:Int)=(0:Int)/\True else inR IntKind.i64 ((↑x.1:Int) - (1:Int) - (1:Int))/\∃(y:Nat × Option Shape),(y.1<=List.length e.own/\(y.2=none→dt e.own t.name=dt (List.take y.1 e.own) t.name)/\∀(s:Shape),y.2=some s→dt e.own t.name=some s)/\y.1 < x.1/\(↑x.1:Int) - (1:Int) - (1:Int)=(↑y.1:Int) - (1:Int)/\Option.isSome x.2=Option.isSome y.2/\t=t/\e=e/\Option.elim x.2 an aO=Option.elim y.2 an aO/\t=t/\e=e/\(0:Int)=(0:Int)/\aK UInt8=aK UInt8/\aK UInt8=aK UInt8/\(0:Int)=(0:Int)/\(0:Int)=(0:Int)/\True else if (!Option.isSome x.2)=true then True/\Option.elim x.2 an aO=(cX (aa n) t e).1/\(110:Int)=(cX (aa n) t e).2.err/\t.pos=(cX (aa n) t e).2.pos/\True else if decide (t.kind=(17:Int))=true then ((0:Int)<=(0:Int)/\(0:Int) < (↑(List.length t.parts):Int))/\(szT (List.getD t.parts (Int.toNat (0:Int)) (dfl (Ty.st SN.term)))<=n/\allT ak (List.getD t.parts (Int.toNat (0:Int)) (dfl (Ty.st SN.term)))=true/\List.length e.values+(4096:Nat) *szT (List.getD t.parts (Int.toNat (0:Int)) (dfl (Ty.st SN.term)))<=(100000000:Nat))/\True/\Option.elim x.2 an aO=(cX (aa n) t e).1/\(aA (aa n) (List.getD t.parts (Int.toNat (0:Int)) (dfl (Ty.st SN.term))) {kind:=(10:Int),pkg:=e.self,name:=t.name,names:=[],parts:=[]:Shape} e).err=(cX (aa n) t e).2.err/\(aA (aa n) (List.getD t.parts (Int.toNat (0:Int)) (dfl (Ty.st SN.term))) {kind:=(10:Int),pkg:=e.self,name:=t.name,names:=[],parts:=[]:Shape} e).pos=(cX (aa n) t e).2.pos/\True else ((0:Int)<=(0:Int)/\(0:Int) < (↑(List.length t.parts):Int))/\(szT (List.getD t.parts (Int.toNat (0:Int)) (dfl (Ty.st SN.term)))<=n/\allT ak (List.getD t.parts (Int.toNat (0:Int)) (dfl (Ty.st SN.term)))=true
  /\List.length e.values+(4096:Nat) *szT (List.getD t.parts (Int.toNat (0:Int)) (dfl (Ty.st SN.term)))<=(100000000:Nat))/\True/\(10:Int)=(cX (aa n) t e).1.kind/\e.self=(cX (aa n) t e).1.pkg/\t.name=(cX (aa n) t e).1.name/\(cX (aa n) t e).1.names=[]/\(cX (aa n) t e).1.parts=[]/\(aA (aa n) (List.getD t.parts (Int.toNat (0:Int)) (dfl (Ty.st SN.term))) (Option.elim x.2 an aO) e).err=(cX (aa n) t e).2.err/\(aA (aa n) (List.getD t.parts (Int.toNat (0:Int)) (dfl (Ty.st SN.term))) (Option.elim x.2 an aO) e).pos=(cX (aa n) t e).2.pos/\True else if (!Option.isSome x.2)=true then True/\Option.elim x.2 an aO=(cX (aa n) t e).1/\(110:Int)=(cX (aa n) t e).2.err/\t.pos=(cX (aa n) t e).2.pos/\True else if decide (t.kind=(17:Int))=true then ((0:Int)<=(0:Int)/\(0:Int) < (↑(List.length t.parts):Int))/\(szT (List.getD t.parts (Int.toNat (0:Int)) (dfl (Ty.st SN.term)))<=n/\allT ak (List.getD t.parts (Int.toNat (0:Int)) (dfl (Ty.st SN.term)))=true/\List.length e.values+(4096:Nat) *szT (List.getD t.parts (Int.toNat (0:Int)) (dfl (Ty.st SN.term)))<=(100000000:Nat))/\True/\Option.elim x.2 an aO=(cX (aa n) t e).1/\(aA (aa n) (List.getD t.parts (Int.toNat (0:Int)) (dfl (Ty.st SN.term))) {kind:=(10:Int),pkg:=e.self,name:=t.name,names:=[],parts:=[]:Shape} e).err=(cX (aa n) t e).2.err/\(aA (aa n) (List.getD t.parts (Int.toNat (0:Int)) (dfl (Ty.st SN.term))) {kind:=(10:Int),pkg:=e.self,name:=t.name,names:=[],parts:=[]:Shape} e).pos=(cX (aa n) t e).2.pos/\True else ((0:Int)<=(0:Int)/\(0:Int) < (↑(List.length t.parts):Int))/\(szT (List.getD t.parts (Int.toNat (0:Int)) (dfl (Ty.st SN.term)))<=n/\allT ak (List.getD t.parts (Int.toNat (0:Int)) (dfl (Ty.st SN.term)))=true/\List.length e.values+(4096:Nat) *szT (List.getD t.parts (Int.toNat (0:Int)) (dfl (Ty.st SN.term)))<=(100000000:Nat))/\True/\(10:Int)=(cX (aa n) t e).1.kind/\e.self=(cX (aa n) t e).1.pkg/\t.name=(cX (aa n) t e).1.name/\(cX (aa n) t e).1.names=[]/\(cX (aa n) t e).1.parts=[]/\(aA (aa n) (List.getD t.parts (Int.toNat (0:Int)) (dfl (Ty.st SN.term))) (Option.elim x.2 an aO) e).err=(cX (aa n) t e).2.err/\(aA (aa n) (List.getD t.parts (Int.toNat (0:Int)) (dfl (Ty.st SN.term))) (Option.elim x.2 an aO) e).pos=(cX (aa n) t e).2.pos/\True:=by
 have ln:e.own.length<=9223372036854775807:=he.env_own.len
 have p0:=q8 (dfl (.st .term)) hz hf hp
 have q0:e.values.length+4096 *szT (t.parts.getD (Int.toNat 0) (dfl (.st .term)))<=100000000:=by rw [show Int.toNat 0=0 from rfl];have:=p0.2.2;omega
 simp only [eq_self,true_and,and_true]
 refine ⟨bN (by omega) (by omega),⟨(e.own.length,none),⟨Nat.le_refl _,fun _=>by rw [List.take_length],fun s h=>nomatch h⟩,rfl,rfl,rfl,rfl,rfl,rfl,rfl⟩,?_⟩
 rintro ⟨x,o⟩ ⟨h1,h2,h3⟩
 dsimp only at h1 h2 h3 ⊢
 refine ab (fun h=>ab (fun ho=>?_) (fun ho=>?_)) (fun h=>?_)
 ·have h:=Xo h
  obtain rfl:o=none:=by cases o with | none=>rfl | some s=>exact absurd ho Bool.false_ne_true
  obtain ⟨k,rfl⟩:∃k,x=k+1:=⟨x - 1,by omega⟩
  have e1:(((k+1:Nat):Int) - 1)=(k:Int):=by omega
  have h2:=h2 rfl
  rw [xK e.own t.name (dfl (.st .bind)) (by omega)] at h2
  simp only [e1,Int.toNat_natCast]
  refine ⟨by omega,ab (fun c=>?_) (fun c=>?_)⟩
  ·rw [if_pos (Xo c)] at h2
   exact ⟨by omega,bN (by omega) (by omega),(k,some (e.own.getD k (dfl (.st .bind))).shape),⟨by dsimp only;omega,fun g=>(by cases g),fun s g=>(by cases g;exact h2)⟩,by dsimp only;omega,rfl,rfl,rfl⟩
  ·rw [if_neg (fun g=>c (Xd g))] at h2
   exact ⟨bN (by omega) (by omega),(k,none),⟨by dsimp only;omega,fun _=>h2,fun s g=>(by cases g)⟩,by dsimp only;omega,rfl,rfl,rfl⟩
 ·have ho:o=dt e.own t.name:=by
   cases o with
   | none=>exact absurd rfl ho
   | some s=>exact (h3 s rfl).symm
  cases o with
  | none=>rw [kr ho.symm];exact ab (fun _=>⟨rfl,rfl,rfl⟩) (fun c=>absurd rfl c)
  | some s=>
   rw [ku ho.symm]
   refine ab (fun c=>absurd c Bool.false_ne_true) (fun _=>ab (fun c=>?_) (fun c=>?_))
   ·rw [if_pos (Xo c)]
    exact ⟨by omega,⟨p0.1,p0.2.1,q0⟩,rfl,rfl,rfl⟩
   ·rw [if_neg (fun g=>c (Xd g))]
    exact ⟨by omega,⟨p0.1,p0.2.1,q0⟩,rfl,rfl,rfl,rfl,rfl,rfl,rfl⟩
 ·have h:¬(0:Int)<=(x:Int) - 1:=fun g=>h (Xd g)
  obtain rfl:x=0:=by omega
  have ho:o=dt e.own t.name:=by
   cases o with
   | none=>exact (h2 rfl).symm
   | some s=>exact (h3 s rfl).symm
  cases o with
  | none=>rw [kr ho.symm];exact ab (fun _=>⟨rfl,rfl,rfl⟩) (fun c=>absurd rfl c)
  | some s=>
   rw [ku ho.symm]
   refine ab (fun c=>absurd c Bool.false_ne_true) (fun _=>ab (fun c=>?_) (fun c=>?_))
   ·rw [if_pos (Xo c)]
    exact ⟨by omega,⟨p0.1,p0.2.1,q0⟩,rfl,rfl,rfl⟩
   ·rw [if_neg (fun g=>c (Xd g))]
    exact ⟨by omega,⟨p0.1,p0.2.1,q0⟩,rfl,rfl,rfl,rfl,rfl,rfl,rfl⟩
end Go.AL.Seat
end
