/- Plain facts. What the functions' conditions say, proved. No condition. -/
import Derived.Test.YtdmbjejhifjhbaaGreatDoorT15
set_option linter.unusedVariables false
set_option linter.unusedSimpArgs false
set_option linter.unnecessarySimpa false
set_option linter.deprecated false
set_option linter.unusedSectionVars false
set_option maxRecDepth 100000
section
namespace Go.Pd
open Go.AL
theorem tl (s:PS):(aC s).toks=s.toks:=rfl
theorem gD (e a:Int) (s:PS):(cv e a s).toks=s.toks:=by unfold cv;split <;> rfl
theorem b9 (t:Str) (s:PS):(aj t s).toks=s.toks:=by
 unfold aj
 split
 ·rfl
 ·exact gD _ _ _
theorem eQ (k:Int) (s:PS):(aS k s).2.toks=s.toks:=by
 unfold aS
 split
 ·rfl
 ·exact gD _ _ _
theorem jd (ns:List Str) (s:PS):(aO ns s).2.toks=s.toks:=by
 unfold aO
 simp only
 split
 ·rw [gD,eQ]
 ·exact eQ _ _
def Bq {α:Type} (l:List Tokn) (p:α→Prop) (R:PS→α × PS):Prop:=∀s,s.toks=l→p (R s).1/\(R s).2.toks=l
def pj {σ:Type} (l:List Tokn) (p:σ→Prop) (one:σ→PS→σ × PS):Prop:=∀x s,s.toks=l→p x→p (one x s).1/\(one x s).2.toks=l
theorem rh {σ:Type} {l:List Tokn} {p:σ→Prop} {one:σ→PS→σ × PS} (h:pj l p one) (btw en:Str):∀(k:Nat) (x:σ) (s:PS),s.toks=l→p x→p (bS btw en one k x s).1/\(bS btw en one k x s).2.toks=l
 | 0,x,s,hs,hx=>⟨hx,hs⟩
 | k+1,x,s,hs,hx=>by
  simp only [bS]
  have h1:=h x s hs hx
  split
  ·exact ⟨hx,hs⟩
  split
  ·exact ⟨h1.1,h1.2⟩
  ·exact rh h btw en k _ _ ((b9 _ _).trans h1.2) h1.1
theorem eR {σ:Type} {l:List Tokn} {p:σ→Prop} {one:σ→PS→σ × PS} (h:pj l p one) (btw en:Str) {x:σ} {s:PS} (hs:s.toks=l) (hx:p x):p (ad btw en one x s).1/\(ad btw en one x s).2.toks=l:=by
 unfold ad
 split
 ·exact ⟨hx,hs⟩
 ·exact rh h btw en _ x s hs hx
theorem ri {l:List Tokn} {R:PS→Shape × PS} (hR:Bq l (fun _=>True) R):pj l (fun _=>True) (ap R):=fun x s hs _=>⟨trivial,(hR _ ((b9 _ _).trans ((jd _ _).trans hs))).2⟩
theorem zo {l:List Tokn} {R:PS→Shape × PS} (hR:Bq l (fun _=>True) R):pj l (fun _=>True) (aw R):=fun x s hs _=>⟨trivial,(hR _ hs).2⟩
theorem rl (l:List Tokn):∀n,Bq l (fun _=>True) (ag n)
 | 0=>fun s hs=>⟨trivial,hs⟩
 | n+1=>fun s hs=>by
  have ih:=rl l n
  refine ⟨trivial,?_⟩
  show (iT (ag n) s).2.toks=l
  unfold iT
  simp only
  split
  ·exact hs
  split
  ·rw [eQ,b9];exact hs
  split
  ·rw [b9];exact (ih (aC s) hs).2
  split
  ·exact (eR (ri ih) _ _ (s:=aC s) hs trivial).2
  split
  ·exact (eR (ri ih) _ _ (s:=aC s) hs trivial).2
  split
  ·have h:=(eR (zo ih) [44] [41] (x:=(⟨8,[],[],[],[]⟩:Shape)) (s:=aC s) hs trivial).2
   exact (ih (aj [45,62] _) ((b9 _ _).trans h)).2
  ·exact (gD _ _ _).trans hs
theorem rm (s:PS):(aW s).2.toks=s.toks:=by
 have h:=(rl s.toks big s rfl).2
 unfold aW
 simp only
 split
 ·exact h
 split
 ·exact h
 ·rw [gD];exact h
def PF (t:Trm):Prop:=∀x∈t.parts,cO x=true
theorem ic {t:Trm} (h:PF t) (hn:t.names.length<=1000000):cO t=true:=by
 unfold cO
 rw [pO,Bool.and_eq_true,lR]
 exact ⟨Xd hn,List.all_eq_true.2 h⟩
theorem lq {t:Trm} (h:t.parts=[]):PF t:=fun x hx=>by rw [h] at hx;cases hx
theorem zq {t u:Trm} (h:PF t) (hu:cO u=true):PF (cW t u):=by
 intro x hx
 rcases List.mem_append.1 hx with k | k
 ·exact h x k
 ·rw [List.mem_singleton.1 k];exact hu
abbrev wT (l:List Tokn) (R:PS→Trm × PS):Prop:=Bq l (fun t=>cO t=true) R
variable {l:List Tokn} {R:PS→Trm × PS}
theorem tp (hR:wT l R):pj l PF (au R):=fun x s hs hx=>⟨zq hx (hR s hs).1,(hR s hs).2⟩
theorem lu (a:Str) (t:Trm) (s:PS):(fw a t s).2.toks=s.toks:=(rm _).trans (b9 _ _)
theorem Ff:pj l PF ay:=fun x s hs hx=>⟨hx,(lu _ _ _).trans ((jd _ _).trans hs)⟩
theorem zr (hR:wT l R):pj l PF (ah R):=fun x s hs hx=>by
 have h:=hR (aj [61] (aO x.names s).2) ((b9 _ _).trans ((jd _ _).trans hs))
 exact ⟨zq hx h.1,h.2⟩
theorem Fg (hR:wT l R):pj l PF (am R):=fun x s hs hx=>by
 have h:=hR _ ((b9 [45,62] _).trans ((b9 [41] _).trans ((lu [58] (dq (bG x (aO x.names s).1) (aS 1 (aj [40] (aO x.names s).2)).1.text) _).trans ((eQ 1 (aj [40] (aO x.names s).2)).trans ((b9 _ _).trans ((jd _ _).trans hs))))))
 exact ⟨zq hx h.1,h.2⟩
theorem zt (hR:wT l R) {s:PS} (hs:s.toks=l):(∀x∈(dj R s).1,cO x=true)/\(dj R s).2.toks=l:=by
 have h:=hR (aj [40] s) ((b9 _ _).trans hs)
 refine ⟨fun x hx=>?_,(b9 _ _).trans h.2⟩
 rw [List.mem_singleton.1 hx]
 exact h.1
def FP (l:List Tokn) (p:Trm × PS):Prop:=cO p.1=true/\p.2.toks=l
theorem eF {c:Prop} [Decidable c] {p q:Trm × PS} (h1:c→FP l p) (h2:¬c→FP l q):FP l (if c then p else q):=by
 split
 ·exact h1 ‹_›
 ·exact h2 ‹_›
theorem Fh (hl:l.length<=4097) (hR:wT l R):wT l (eh R):=by
 intro s hs
 have nil:∀t:Trm,t.parts=[]→t.names=[]→cO t=true:=fun t h k=>ic (lq h) (by rw [k];exact Nat.zero_le _)
 have inn:∀(k j p:Int),cO (⟨k,[],(aS j (aC s)).1.text,0,[],[],[],(dj R (aS j (aC s)).2).1,p⟩:Trm)=true/\(dj R (aS j (aC s)).2).2.toks=l:=fun k j p=>
  have h:=zt hR ((eQ j (aC s)).trans hs)
  ⟨ic h.1 (Nat.zero_le _),h.2⟩
 show FP l (eh R s)
 unfold eh
 refine eF (fun _=>⟨nil _ rfl rfl,hs⟩) (fun _=>?_)
 refine eF (fun _=>⟨nil _ rfl rfl,hs⟩) (fun _=>?_)
 refine eF (fun _=>⟨nil _ rfl rfl,hs⟩) (fun _=>?_)
 refine eF (fun _=>eF (fun _=>⟨nil _ rfl rfl,(eQ _ _).trans hs⟩) (fun _=>⟨nil _ rfl rfl,hs⟩)) (fun _=>?_)
 refine eF (fun _=>⟨nil _ rfl rfl,hs⟩) (fun _=>?_)
 refine eF (fun _=>⟨nil _ rfl rfl,hs⟩) (fun _=>?_)
 refine eF (fun _=>?_) (fun _=>?_)
 ·have hu:=hR (aC s) hs
  refine eF (fun _=>⟨ic (fun x hx=>?_) (Nat.zero_le _),(b9 _ _).trans ((rm _).trans hu.2)⟩) (fun _=>⟨hu.1,(b9 _ _).trans hu.2⟩)
  rw [List.mem_singleton.1 hx]
  exact hu.1
 refine eF (fun _=>?_) (fun _=>?_)
 ·have h:=eR (zr hR) [44] [125] (x:=(⟨8,[],[],0,[],[],[],[],(ao s).pos⟩:Trm)) (s:=aC s) hs (lq rfl)
  have hn:=dP (one:=ah R) (fun t=>t.names.length) (fun x s=>by show (x.names++[_]).length<=_;rw [List.length_append];exact Nat.le_refl _) [44] [125] (⟨8,[],[],0,[],[],[],[],(ao s).pos⟩:Trm) (aC s)
  refine ⟨ic h.1 ?_,h.2⟩
  rw [tl,hs] at hn
  exact Nat.le_trans hn (by show 0+(l.length+2)<=_;omega)
 refine eF (fun _=>inn 10 1 _) (fun _=>?_)
 refine eF (fun _=>inn 16 2 _) (fun _=>?_)
 refine eF (fun _=>inn 17 2 _) (fun _=>?_)
 exact ⟨nil _ rfl rfl,(gD _ _ _).trans hs⟩
theorem rn (hl:l.length<=4097) (hR:wT l R) (p:Int):∀(k:Nat) (t:Trm) (s:PS),cO t=true→s.toks=l→cO (ja R p k t s).1=true/\(ja R p k t s).2.toks=l
 | 0,t,s,ht,hs=>⟨ht,hs⟩
 | k+1,t,s,ht,hs=>by
  simp only [ja]
  split
  ·exact ⟨ht,hs⟩
  split
  ·have h:=eR (tp hR) [44] [41] (x:=(⟨7,[],[],0,[],[],[],[t],p⟩:Trm)) (s:=aC s) hs (fun x hx=>by rw [List.mem_singleton.1 hx];exact ht)
   have hn:=cJ (one:=au R) (fun t=>t.names=[]) (fun x s hx=>hx) [44] [41] (x:=(⟨7,[],[],0,[],[],[],[t],p⟩:Trm)) (aC s) rfl
   exact rn hl hR p k _ _ (ic h.1 (by rw [hn];exact Nat.zero_le _)) h.2
  split
  ·refine rn hl hR p k _ _ (ic (fun x hx=>?_) (Nat.zero_le _)) ((eQ _ _).trans hs)
   rw [List.mem_singleton.1 hx]
   exact ht
  ·exact ⟨ht,hs⟩
theorem wU (hl:l.length<=4097):∀n,wT l (a7 n)
 | 0=>fun s hs=>⟨ic (lq rfl) (Nat.zero_le _),hs⟩
 | n+1=>fun s hs=>by
  have hR:=wU hl n
  have pk:=tp hR
  show FP l (p8 (a7 n) s)
  unfold p8
  refine eF (fun _=>?_) (fun _=>?_)
  ·have h:=eR (Ff (l:=l)) [44] [41] (x:=(⟨6,[],[],0,[],[],[],[],(ao s).pos⟩:Trm)) (s:=aj [40] (aC s)) ((b9 _ _).trans hs) (lq rfl)
   have hn:=dP (one:=ay) (fun t=>t.names.length) (fun x s=>by show (x.names++[_]).length<=_;rw [List.length_append];exact Nat.le_refl _) [44] [41] (⟨6,[],[],0,[],[],[],[],(ao s).pos⟩:Trm) (aj [40] (aC s))
   have h2:=pk _ (aj [45,62] (ad [44] [41] ay (⟨6,[],[],0,[],[],[],[],(ao s).pos⟩:Trm) (aj [40] (aC s))).2) ((b9 _ _).trans h.2) h.1
   refine ⟨ic h2.1 ?_,h2.2⟩
   rw [b9,tl,hs] at hn
   exact Nat.le_trans hn (by show 0+(l.length+2)<=_;omega)
  refine eF (fun _=>?_) (fun _=>?_)
  ·have h1:=pk (⟨14,[],(aS 1 (aC s)).1.text,0,[],[],[],[],(ao s).pos⟩:Trm) (aj [61] (aS 1 (aC s)).2) ((b9 _ _).trans ((eQ _ _).trans hs)) (lq rfl)
   have h2:=pk _ (aj [105,110] _) ((b9 _ _).trans h1.2) h1.1
   exact ⟨ic h2.1 (Nat.zero_le _),h2.2⟩
  refine eF (fun _=>?_) (fun _=>?_)
  ·have h1:=pk (⟨12,[],[],0,[],[],[],[],(ao s).pos⟩:Trm) (aC s) hs (lq rfl)
   have h2:=pk _ (aj [116,104,101,110] _) ((b9 _ _).trans h1.2) h1.1
   have h3:=pk _ (aj [101,108,115,101] _) ((b9 _ _).trans h2.2) h2.1
   exact ⟨ic h3.1 (Nat.zero_le _),(lu _ _ _).trans h3.2⟩
  refine eF (fun _=>?_) (fun _=>?_)
  ·have h1:=pk (⟨13,[],[],0,[],[],[],[],(ao s).pos⟩:Trm) (aC s) hs (lq rfl)
   have h:=eR (Fg hR) [124] [125] (s:=aj [123] (aj [111,102] (au (a7 n) (⟨13,[],[],0,[],[],[],[],(ao s).pos⟩:Trm) (aC s)).2)) ((b9 _ _).trans ((b9 _ _).trans h1.2)) h1.1
   have hn:=dP (one:=am (a7 n)) (fun t=>t.names.length) (fun x s=>by show (x.names++[_]).length<=_;rw [List.length_append];exact Nat.le_refl _) [124] [125] (au (a7 n) (⟨13,[],[],0,[],[],[],[],(ao s).pos⟩:Trm) (aC s)).1 (aj [123] (aj [111,102] (au (a7 n) (⟨13,[],[],0,[],[],[],[],(ao s).pos⟩:Trm) (aC s)).2))
   refine ⟨ic h.1 ?_,(lu _ _ _).trans h.2⟩
   rw [b9,b9,h1.2] at hn
   exact Nat.le_trans hn (by show 0+(l.length+2)<=_;omega)
  refine eF (fun _=>?_) (fun _=>?_)
  ·have h:=eR pk [44] [93] (x:=(⟨11,[],[],0,[],[],[],[],(ao s).pos⟩:Trm)) (s:=aC s) hs (lq rfl)
   have hn:=cJ (one:=au (a7 n)) (fun t=>t.names=[]) (fun x s hx=>hx) [44] [93] (x:=(⟨11,[],[],0,[],[],[],[],(ao s).pos⟩:Trm)) (aC s) rfl
   exact ⟨ic h.1 (by show List.length (ad [44] [93] (au (a7 n)) _ (aC s)).1.names<=_;rw [hn];exact Nat.zero_le _),(lu _ _ _).trans h.2⟩
  have ha:=Fh hl hR s hs
  exact rn hl hR _ _ _ _ ha.1 ha.2
end Go.Pd
namespace Go.Pd
open Go.AL
structure TokG (t:Tokn):Prop where
 kind:¬t.kind=0
 name:t.kind=1→aU t.text=true
 upper:t.kind=2→cZ t.text=true
 num:t.kind=3→kA t.text
 pos:0<=t.pos
theorem je {k:Int} {t:Str} {p:Int} (hk:¬k=0) (h1:k=1→aU t=true) (h2:k=2→cZ t=true) (h3:k=3→kA t) (hp:0<=p):TokG ⟨k,t,p⟩:=⟨hk,h1,h2,h3,hp⟩
theorem wV {t:Str} (h:fo t=true) (hne:t≠[]):kA t:=by
 unfold fo at h
 simp only [Bool.and_eq_true,decide_eq_true_eq] at h
 refine gX ?_ h.1.2
 unfold bO
 rw [Xf hne,h.1.1]
 rfl
theorem wW {s:Str} {c:SC} (h0:0<=c.pos) (h1:c.pos < (s.length:Int)) (h:(aX s c).1=true) :
  ∃t,(aX s c).2.out=c.out++[t]/\TokG t/\t.pos=c.pos:=by
 unfold aX at h ⊢
 by_cases a:bJ (bAt s c.pos)=true∨bP (bAt s c.pos)=true
 ·rw [if_pos a] at h ⊢
  unfold uN at h ⊢
  split at h
  ·rename_i x;rw [if_pos x];exact ⟨_,rfl,je (by decide) (fun e=>absurd e (by decide)) (fun e=>absurd e (by decide)) (fun e=>absurd e (by decide)) (h0),rfl⟩
  rename_i x
  rw [if_neg x]
  split at h
  ·rename_i y;rw [if_pos y];exact ⟨_,rfl,je (by decide) (fun _=>y) (fun e=>absurd e (by decide)) (fun e=>absurd e (by decide)) (h0),rfl⟩
  rename_i y
  rw [if_neg y]
  split at h
  ·rename_i z;rw [if_pos z];exact ⟨_,rfl,je (by decide) (fun e=>absurd e (by decide)) (fun _=>z) (fun e=>absurd e (by decide)) (h0),rfl⟩
  ·cases h
 rw [if_neg a] at h ⊢
 by_cases b:aM (bAt s c.pos)=true
 ·rw [if_pos b] at h ⊢
  have hw:=cp (pr:=aF) h0 h1 (by rw [li h1] at b;unfold aF;rw [b,Bool.or_true];rfl)
  have hl:=du (pr:=aF) h0 (Int.le_of_lt h1)
  have hcl:=pM (s:=s) h0 (b:=c.pos+(ae aF s c.pos:Int)) (by omega) hl
  unfold zg at h ⊢
  split at h
  ·rename_i x
   rw [if_pos x]
   exact ⟨_,rfl,je (by decide) (fun e=>absurd e (by decide)) (fun e=>absurd e (by decide)) (fun _=>wV x (fun e=>by rw [e] at hcl;simp at hcl;omega)) (h0),rfl⟩
  rename_i x
  rw [if_neg x]
  split at h
  ·rename_i y;rw [if_pos y];exact ⟨_,rfl,je (by decide) (fun e=>absurd e (by decide)) (fun e=>absurd e (by decide)) (fun e=>absurd e (by decide)) (h0),rfl⟩
  ·cases h
 rw [if_neg b] at h ⊢
 by_cases d:bAt s c.pos=34
 ·rw [if_pos d] at h ⊢
  obtain ⟨q1,_,_⟩:=fh s c.pos (s.length+2) [] (ce c (c.pos+1)) (by show 0<=c.pos+1;omega) (by show c.pos+1<=_;omega)
  have q1':(cH s c).2.2.out=c.out:=q1
  unfold zh at h ⊢
  split at h
  ·rename_i x
   rw [if_pos x]
   refine ⟨⟨4,(cH s c).1,c.pos⟩,?_,je (by decide) (fun e=>absurd e (by decide)) (fun e=>absurd e (by decide)) (fun e=>absurd e (by decide)) (h0),rfl⟩
   show (cH s c).2.2.out++[_]=_
   rw [q1']
  ·cases h
 rw [if_neg d] at h ⊢
 unfold wE at h ⊢
 split at h
 ·rename_i x;rw [if_pos x];exact ⟨_,rfl,je (by decide) (fun e=>absurd e (by decide)) (fun e=>absurd e (by decide)) (fun e=>absurd e (by decide)) (h0),rfl⟩
 rename_i x
 rw [if_neg x]
 split at h
 ·rename_i y;rw [if_pos y];exact ⟨_,rfl,je (by decide) (fun e=>absurd e (by decide)) (fun e=>absurd e (by decide)) (fun e=>absurd e (by decide)) (h0),rfl⟩
 ·cases h
theorem lw (s:Str) (fr:Int):∀(n:Nat) (acc:Str) (c:SC),0<=c.pos→c.pos<=(s.length:Int)→(s.length:Int) < c.pos+(n:Int)→(cD s fr n acc c).2.1=false→¬(cD s fr n acc c).2.2.err=0
 | 0,acc,c,h0,h1,h2,_=>by omega
 | n+1,acc,c,h0,h1,h2,h=>by
  rw [cD] at h ⊢
  by_cases a:bAt s c.pos < 32
  ·rw [if_pos a]
   show ¬(60:Int)=0
   decide
  rw [if_neg a] at h ⊢
  by_cases b:bAt s c.pos=34
  ·rw [if_pos b] at h
   cases h
  rw [if_neg b] at h ⊢
  by_cases d:bAt s c.pos=92
  ·rw [if_pos d] at h ⊢
   cases he:ij (bAt s (c.pos+1)) with
   | none=>
    show ¬(60:Int)=0
    decide
   | some x=>
    rw [he] at h
    have hp:=ot he
    exact lw s fr n _ _ (by show 0<=c.pos+2;omega) (by show c.pos+2<=_;omega) (by show _ < c.pos+2+(n:Int);omega) h
  rw [if_neg d] at h ⊢
  obtain ⟨p1,p2⟩:=ou a b d
  have p2:=p2 h0
  have hw:=du (pr:=aN) h0 h1
  cases hb:cU (cut s c.pos (c.pos+(ae aN s c.pos:Int))) with
  | some k=>
   show ¬(30:Int)=0
   decide
  | none=>
   rw [hb] at h
   exact lw s fr n _ _ (by show 0<=c.pos+_;omega) hw (by show _ < c.pos+_+(n:Int);omega) h
theorem ro {s:Str} {c:SC} (h0:0<=c.pos) (h1:c.pos < (s.length:Int)) (h:(aX s c).1=false):¬(aX s c).2.err=0:=by
 have d60:¬(60:Int)=0:=by decide
 unfold aX at h ⊢
 by_cases a:bJ (bAt s c.pos)=true∨bP (bAt s c.pos)=true
 ·rw [if_pos a] at h ⊢
  unfold uN at h ⊢
  split at h
  ·cases h
  rename_i x
  rw [if_neg x]
  split at h
  ·cases h
  rename_i y
  rw [if_neg y]
  split at h
  ·cases h
  ·rename_i z;rw [if_neg z];exact d60
 rw [if_neg a] at h ⊢
 by_cases b:aM (bAt s c.pos)=true
 ·rw [if_pos b] at h ⊢
  unfold zg at h ⊢
  split at h
  ·cases h
  rename_i x
  rw [if_neg x]
  split at h
  ·cases h
  ·rename_i y;rw [if_neg y];exact d60
 rw [if_neg b] at h ⊢
 by_cases d:bAt s c.pos=34
 ·rw [if_pos d] at h ⊢
  unfold zh at h ⊢
  split at h
  ·cases h
  ·rename_i x
   rw [if_neg x]
   exact lw s c.pos (s.length+2) [] (ce c (c.pos+1)) (by show 0<=c.pos+1;omega) (by show c.pos+1<=_;omega) (by show _ < c.pos+1+((s.length+2:Nat):Int);omega) (Bool.eq_false_iff.2 x)
 rw [if_neg d] at h ⊢
 unfold wE at h ⊢
 split at h
 ·cases h
 rename_i x
 rw [if_neg x]
 split at h
 ·cases h
 ·rename_i y;rw [if_neg y];exact d60
theorem kh (s:Str):∀(n:Nat) (c:SC),0<=c.pos→c.pos<=(s.length:Int)→(s.length:Int) < c.pos+(n:Int)→(∀t∈c.out,TokG t)→(fe s n c).2.err=0→
  ∃out,(fe s n c).1=out++[⟨0,[],(s.length:Int)⟩]/\∀t∈out,TokG t
 | 0,c,h0,h1,h2,_,_=>by omega
 | n+1,c,h0,h1,h2,ho,h=>by
  rw [fe] at h ⊢
  by_cases a:c.pos=(s.length:Int)
  ·rw [if_pos a]
   exact ⟨c.out,rfl,ho⟩
  rw [if_neg a] at h ⊢
  have hlt:c.pos < (s.length:Int):=by omega
  by_cases b:aH (bAt s c.pos)=true
  ·rw [if_pos b] at h ⊢
   exact kh s n _ (by show 0<=c.pos+1;omega) (by show c.pos+1<=_;omega) (by show _ < c.pos+1+(n:Int);omega) ho h
  rw [if_neg b] at h ⊢
  by_cases d:bAt s c.pos=45/\bAt s (c.pos+1)=45
  ·rw [if_pos d] at h ⊢
   have hw:=du (pr:=cd) h0 h1
   have hh:=cp (pr:=cd) h0 hlt (by rw [←li hlt,d.1];rfl)
   cases hb:cU (cut s c.pos (c.pos+(ae cd s c.pos:Int))) with
   | some k=>rw [hb] at h;exact absurd (show (30:Int)=0 from h) (by decide)
   | none=>
    rw [hb] at h
    exact kh s n _ (by show 0<=c.pos+_;omega) hw (by show _ < c.pos+_+(n:Int);omega) ho h
  rw [if_neg d] at h ⊢
  by_cases e:(aX s c).1=true
  ·rw [if_pos e] at h ⊢
   obtain ⟨t1,t2,t3⟩:=ip h0 hlt e
   obtain ⟨t,g1,g2,_⟩:=wW h0 hlt e
   refine kh s n _ (by omega) t2 (by omega) ?_ h
   rw [g1]
   intro x hx
   rcases List.mem_append.1 hx with k | k
   ·exact ho x k
   ·rw [List.mem_singleton.1 k];exact g2
  ·rw [if_neg e] at h
   exact absurd h (by
    have:(aX s c).1=false:=by simpa using e
    exact ro h0 hlt this)
end Go.Pd
namespace Go.Pd
open Go.AL
theorem rq {s:Str} (h:(aB s).2.err=0):s.length<=4096/\∃out,(aB s).1=out++[⟨0,[],(s.length:Int)⟩]/\∀t∈out,TokG t:=by
 unfold aB at h ⊢
 split at h
 ·exact absurd h (by decide)
 ·rename_i x
  rw [if_neg x]
  exact ⟨by omega,kh s (s.length+2) ⟨0,[],0,0⟩ (by show (0:Int)<=0;omega) (by show (0:Int)<=_;omega) (by show _ < (0:Int)+((s.length+2:Nat):Int);omega) (fun t ht=>by cases ht) h⟩
theorem rr {s:Str} (h:(aB s).2.err=0):dr (aB s).1:=by
 obtain ⟨_,out,e,g⟩:=rq h
 rw [e]
 intro t ht hk
 rcases List.mem_append.1 ht with k | k
 ·exact (g t k).num hk
 ·rw [List.mem_singleton.1 k] at hk
  exact absurd (show (0:Int)=3 from hk) (by decide)
theorem ru {s:Str} (h:(aB s).2.err=0):0 < (aB s).1.length/\(bB (aB s).1 ((aB s).1.length - 1:Int)).kind=0:=by
 obtain ⟨_,out,e,g⟩:=rq h
 rw [e]
 have hl:(out++[(⟨0,[],(s.length:Int)⟩:Tokn)]).length=out.length+1:=by rw [List.length_append];rfl
 refine ⟨by omega,?_⟩
 unfold bB
 rw [if_pos (by omega)]
 have hk:(((out++[(⟨0,[],(s.length:Int)⟩:Tokn)]).length:Int) - 1).toNat=out.length:=by omega
 rw [hk,List.getD_eq_getElem?_getD,List.getElem?_append_right (Nat.le_refl _)]
 simp
def Fi (l:List Tokn) (a:Int) (p:Trm × Par):Trm × Int × Flt:=
 pq tc (if aV p.2=true then p else if fy p.1=3∨fy p.1=91 then (p.1,cv (fy p.1) (ao (aQ l a)).pos p.2) else p)
def cg (l:List Tokn) (a:Int):Trm × Int × Flt:=if aV (aQ l a)=true then (tc,0,⟨(aQ l a).err,(aQ l a).fat⟩) else Fi l a (a7 5000 (aQ l a))
def tq {α:Type} (z:α) (f:List Tokn→α × Int × Flt) (s:Str):α × Flt:=
 if (aB s).2.err=0 then
  if (f (aB s).1).2.2.err=0 then
   if (dG (aB s).1 (f (aB s).1).2.1).err=0 then ((f (aB s).1).1,dG (aB s).1 (f (aB s).1).2.1) else (z,dG (aB s).1 (f (aB s).1).2.1)
  else (z,(f (aB s).1).2.2)
 else (z,(aB s).2)
def fA (s:Str):Shape × Flt:=tq ta (fun l=>bu l 0) s
def ox (s:Str):Trm × Flt:=tq tc (fun l=>cg l 0) s
theorem Br {α:Type} {z:α} {p:α × Par} {l:List Tokn} (h:(pq z p).2.2.err=0) (hc:p.2.err=0→0<=p.2.pos/\p.2.pos < (l.length:Int)):0<=(pq z p).2.1/\(pq z p).2.1 < (l.length:Int):=by
 unfold pq at h ⊢
 split
 ·rename_i b
  rw [if_pos b] at h
  exact absurd h (cG.1 b)
 ·rename_i b
  exact hc (eE.1 (by simpa using b))
theorem tt {l:List Tokn} (h:aV (aQ l 0)=false):(aQ l 0).toks=l/\(aQ l 0).pos=0:=by
 unfold aQ
 split
 ·exact ⟨rfl,rfl⟩
 split <;> exact ⟨rfl,rfl⟩
theorem Cu {l:List Tokn} (hN:dr l) (hl:0 < l.length) (hk:(bB l ((l.length:Int) - 1)).kind=0) (h:(bu l 0).2.2.err=0):0<=(bu l 0).2.1/\(bu l 0).2.1 < (l.length:Int):=by
 unfold bu at h ⊢
 split
 ·rename_i b
  rw [if_pos b] at h
  exact absurd h (cG.1 b)
 rename_i b
 rw [if_neg b] at h
 have b':aV (aQ l 0)=false:=by simpa using b
 have g:=ke hN b'
 obtain ⟨e1,e2⟩:=tt b'
 have m:=(lf g).1
 refine Br h (fun _=>?_)
 have hcap:=m.cap ((l.length:Int) - 1) (by rw [e1];exact hk) (by rw [e2];omega)
 exact ⟨m.good.1,by omega⟩
theorem zu {l:List Tokn} (hN:dr l) (hl:0 < l.length) (hk:(bB l ((l.length:Int) - 1)).kind=0) (h:(cg l 0).2.2.err=0):0<=(cg l 0).2.1/\(cg l 0).2.1 < (l.length:Int):=by
 unfold cg at h ⊢
 split
 ·rename_i b
  rw [if_pos b] at h
  exact absurd h (cG.1 b)
 rename_i b
 rw [if_neg b] at h
 have b':aV (aQ l 0)=false:=by simpa using b
 have g:=ke hN b'
 obtain ⟨e1,e2⟩:=tt b'
 have m:=(dU 5000 _ g (by have:=qN g;omega)).1
 have hcap:=m.cap ((l.length:Int) - 1) (by rw [e1];exact hk) (by rw [e2];omega)
 refine Br h (fun _=>?_)
 have hp:∀e a,(cv e a (a7 5000 (aQ l 0)).2).pos=(a7 5000 (aQ l 0)).2.pos:=fun e a=>by unfold cv;split <;> rfl
 split
 ·exact ⟨m.good.1,by omega⟩
 split
 ·show 0<=(cv _ _ _).pos/\(cv _ _ _).pos < _
  rw [hp]
  exact ⟨m.good.1,by omega⟩
 ·exact ⟨m.good.1,by omega⟩
end Go.Pd
end
section
open Go Go.AL Go.Pd
namespace Go.AL.Seat
theorem Fj (c:Int)  :
  if decide ((97:Int)<=c)=true then True/\decide (c<=(122:Int))=bJ c/\True else True/\false=bJ c/\True:=by
 unfold bJ;simp only [l7];split <;> simp [*]
theorem Fk (c:Int)  :
  if decide ((65:Int)<=c)=true then True/\decide (c<=(90:Int))=bP c/\True else True/\false=bP c/\True:=by
 unfold bP;simp only [l7];split <;> simp [*]
theorem Fl (c:Int)  :
  if decide ((48:Int)<=c)=true then True/\decide (c<=(57:Int))=aM c/\True else True/\false=aM c/\True:=by
 unfold aM;simp only [l7];split <;> simp [*]
end Go.AL.Seat
end
section
open Go Go.AL Go.Pd
namespace Go.AL.Seat
namespace C03
def A0 (c:Int):=True/\true=bA c/\True
end C03
open C03 in
theorem Hs (c:Int)  :
  if bJ c=true then (A0 c) else if bP c=true then (A0 c) else if aM c=true then (A0 c) else True/\decide (c=(95:Int))=bA c/\True:=by
 delta A0
 unfold bA;cases bJ c <;> cases bP c <;> cases aM c <;> simp
end Go.AL.Seat
end
section
open Go Go.AL Go.Pd
namespace Go.AL.Seat
namespace C04
def A0 (s:Str):=True/\false=ew bJ s/\True
def B0 (s:Str):=(↑(List.length s):Int)
def C0:=(0:Int)
def D0 (x:Nat)(s:Str):=(x<=List.length s/\ew bJ s=List.all (List.drop x s) fun (c:UInt8)=>bA (bI c))
def E0 (x:Nat):=(↑x:Int)
def H0 (s:Str):=s=s/\false=false/\(B0 s)=(B0 s)/\True
end C04
open C04 in
theorem Cv (s:Str) (hs:Wf .str s) :
  if decide (s=[])=true then (A0 s) else if decide ((24:Int)<(B0 s))=true then (A0 s) else (C0<=C0/\C0<(B0 s))/\if (!bJ (↑(UInt8.toNat (List.getD s (Int.toNat C0) (0:UInt8))):Int))=true then (A0 s) else (∃(x:Nat),(D0 x s)/\C0=(E0 x)/\(H0 s))/\∀(x:Nat),(D0 x s)→if decide ((E0 x)<(B0 s))=true then (C0<=(E0 x)/\(E0 x)<(B0 s))/\if (!bA (↑(UInt8.toNat (List.getD s (Int.toNat (E0 x)) (0:UInt8))):Int))=true then (A0 s) else inR IntKind.i64 ((E0 x)+(1:Int))/\∃(y:Nat),(D0 y s)/\List.length s - y<List.length s - x/\(E0 x)+(1:Int)=(E0 y)/\(H0 s) else True/\true=ew bJ s/\True:=by
 delta H0 E0 D0 C0 B0 A0
 have hlen:=hs.str
 have eb:∀b:UInt8,(b.toNat:Int)=bI b:=fun _=>rfl
 simp only [l7,Int.toNat_natCast,Int.toNat_zero,true_and,and_true,eb,ew]
 generalize bJ (bI (s.getD 0 0))=f0
 by_cases h0:s=[]
 ·simp [h0]
 have hpos:0 < s.length:=List.length_pos_iff.2 h0
 by_cases h1:s.length<=24
 ·rw [if_neg h0,if_neg (by omega)]
  refine ⟨by omega,?_⟩
  cases f0 with
  | false=>simp
  | true=>
   simp only [Bool.not_true,Bool.false_eq_true,if_false,h0,h1,decide_false,decide_true,Bool.not_false,Bool.true_and]
   refine ⟨⟨0,⟨by omega,rfl⟩,rfl⟩,?_⟩
   rintro k ⟨h3,h4⟩
   split
   ·have hk:k < s.length:=by omega
    rw [aT s k 0 hk,List.all_cons] at h4
    generalize bA (bI (s.getD k 0))=r at h4 ⊢
    refine ⟨by omega,?_⟩
    cases r with
    | false=>simpa using h4.symm
    | true=>
     simp only [Bool.not_true,Bool.false_eq_true,if_false]
     exact ⟨bN hk hlen,k+1,⟨by omega,by simpa using h4⟩,by omega,by omega⟩
   ·have hk:k=s.length:=by omega
    subst hk
    simpa using h4.symm
 ·rw [if_neg h0,if_pos (by omega)]
  simp [h1]
end Go.AL.Seat
end
section
open Go Go.AL Go.Pd
namespace Go.AL.Seat
namespace C05
def A0 (s:Str):=True/\false=ew bP s/\True
def B0 (s:Str):=(↑(List.length s):Int)
def C0:=(0:Int)
def D0 (x:Nat)(s:Str):=(x<=List.length s/\ew bP s=List.all (List.drop x s) fun (c:UInt8)=>bA (bI c))
def E0 (x:Nat):=(↑x:Int)
def H0 (s:Str):=s=s/\false=false/\(B0 s)=(B0 s)/\True
end C05
open C05 in
theorem Cw (s:Str) (hs:Wf .str s) :
  if decide (s=[])=true then (A0 s) else if decide ((24:Int)<(B0 s))=true then (A0 s) else (C0<=C0/\C0<(B0 s))/\if (!bP (↑(UInt8.toNat (List.getD s (Int.toNat C0) (0:UInt8))):Int))=true then (A0 s) else (∃(x:Nat),(D0 x s)/\C0=(E0 x)/\(H0 s))/\∀(x:Nat),(D0 x s)→if decide ((E0 x)<(B0 s))=true then (C0<=(E0 x)/\(E0 x)<(B0 s))/\if (!bA (↑(UInt8.toNat (List.getD s (Int.toNat (E0 x)) (0:UInt8))):Int))=true then (A0 s) else inR IntKind.i64 ((E0 x)+(1:Int))/\∃(y:Nat),(D0 y s)/\List.length s - y<List.length s - x/\(E0 x)+(1:Int)=(E0 y)/\(H0 s) else True/\true=ew bP s/\True:=by
 delta H0 E0 D0 C0 B0 A0
 have hlen:=hs.str
 have eb:∀b:UInt8,(b.toNat:Int)=bI b:=fun _=>rfl
 simp only [l7,Int.toNat_natCast,Int.toNat_zero,true_and,and_true,eb,ew]
 generalize bP (bI (s.getD 0 0))=f0
 by_cases h0:s=[]
 ·simp [h0]
 have hpos:0 < s.length:=List.length_pos_iff.2 h0
 by_cases h1:s.length<=24
 ·rw [if_neg h0,if_neg (by omega)]
  refine ⟨by omega,?_⟩
  cases f0 with
  | false=>simp
  | true=>
   simp only [Bool.not_true,Bool.false_eq_true,if_false,h0,h1,decide_false,decide_true,Bool.not_false,Bool.true_and]
   refine ⟨⟨0,⟨by omega,rfl⟩,rfl⟩,?_⟩
   rintro k ⟨h3,h4⟩
   split
   ·have hk:k < s.length:=by omega
    rw [aT s k 0 hk,List.all_cons] at h4
    generalize bA (bI (s.getD k 0))=r at h4 ⊢
    refine ⟨by omega,?_⟩
    cases r with
    | false=>simpa using h4.symm
    | true=>
     simp only [Bool.not_true,Bool.false_eq_true,if_false]
     exact ⟨bN hk hlen,k+1,⟨by omega,by simpa using h4⟩,by omega,by omega⟩
   ·have hk:k=s.length:=by omega
    subst hk
    simpa using h4.symm
 ·rw [if_neg h0,if_pos (by omega)]
  simp [h1]
end Go.AL.Seat
end
section
open Go Go.AL Go.Pd
namespace Go.AL.Seat
namespace C06
def A0 (s:Str):=True/\true=j9 s/\True
end C06
open C06 in
theorem Ht (s:Str)  :
  if decide (s=([109,111,100,117,108,101]:Str))=true then (A0 s) else if decide (s=([105,109,112,111,114,116]:Str))=true then (A0 s) else if decide (s=([112,105,110]:Str))=true then (A0 s) else if decide (s=([114,97,110,103,101]:Str))=true then (A0 s) else if decide (s=([116,121,112,101]:Str))=true then (A0 s) else if decide (s=([111,112,97,113,117,101]:Str))=true then (A0 s) else if decide (s=([108,101,116]:Str))=true then (A0 s) else if decide (s=([105,110]:Str))=true then (A0 s) else if decide (s=([101,120,112,111,114,116]:Str))=true then (A0 s) else if decide (s=([102,117,110]:Str))=true then (A0 s) else if decide (s=([105,102]:Str))=true then (A0 s) else if decide (s=([116,104,101,110]:Str))=true then (A0 s) else if decide (s=([101,108,115,101]:Str))=true then (A0 s) else if decide (s=([99,97,115,101]:Str))=true then (A0 s) else if decide (s=([111,102]:Str))=true then (A0 s) else if decide (s=([97,115]:Str))=true then (A0 s) else if decide (s=([110,101,119]:Str))=true then (A0 s) else if decide (s=([114,97,119]:Str))=true then (A0 s) else if decide (s=([116,114,117,101]:Str))=true then (A0 s) else if decide (s=([102,97,108,115,101]:Str))=true then (A0 s) else True/\false=j9 s/\True:=by
 delta A0
 refine a6 (fun h=>?_) (fun h0=>?_)
 ·rw [Xo h];exact ⟨trivial,rfl,trivial⟩
 refine a6 (fun h=>?_) (fun h1=>?_)
 ·rw [Xo h];exact ⟨trivial,rfl,trivial⟩
 refine a6 (fun h=>?_) (fun h2=>?_)
 ·rw [Xo h];exact ⟨trivial,rfl,trivial⟩
 refine a6 (fun h=>?_) (fun h3=>?_)
 ·rw [Xo h];exact ⟨trivial,rfl,trivial⟩
 refine a6 (fun h=>?_) (fun h4=>?_)
 ·rw [Xo h];exact ⟨trivial,rfl,trivial⟩
 refine a6 (fun h=>?_) (fun h5=>?_)
 ·rw [Xo h];exact ⟨trivial,rfl,trivial⟩
 refine a6 (fun h=>?_) (fun h6=>?_)
 ·rw [Xo h];exact ⟨trivial,rfl,trivial⟩
 refine a6 (fun h=>?_) (fun h7=>?_)
 ·rw [Xo h];exact ⟨trivial,rfl,trivial⟩
 refine a6 (fun h=>?_) (fun h8=>?_)
 ·rw [Xo h];exact ⟨trivial,rfl,trivial⟩
 refine a6 (fun h=>?_) (fun h9=>?_)
 ·rw [Xo h];exact ⟨trivial,rfl,trivial⟩
 refine a6 (fun h=>?_) (fun h10=>?_)
 ·rw [Xo h];exact ⟨trivial,rfl,trivial⟩
 refine a6 (fun h=>?_) (fun h11=>?_)
 ·rw [Xo h];exact ⟨trivial,rfl,trivial⟩
 refine a6 (fun h=>?_) (fun h12=>?_)
 ·rw [Xo h];exact ⟨trivial,rfl,trivial⟩
 refine a6 (fun h=>?_) (fun h13=>?_)
 ·rw [Xo h];exact ⟨trivial,rfl,trivial⟩
 refine a6 (fun h=>?_) (fun h14=>?_)
 ·rw [Xo h];exact ⟨trivial,rfl,trivial⟩
 refine a6 (fun h=>?_) (fun h15=>?_)
 ·rw [Xo h];exact ⟨trivial,rfl,trivial⟩
 refine a6 (fun h=>?_) (fun h16=>?_)
 ·rw [Xo h];exact ⟨trivial,rfl,trivial⟩
 refine a6 (fun h=>?_) (fun h17=>?_)
 ·rw [Xo h];exact ⟨trivial,rfl,trivial⟩
 refine a6 (fun h=>?_) (fun h18=>?_)
 ·rw [Xo h];exact ⟨trivial,rfl,trivial⟩
 refine a6 (fun h=>?_) (fun h19=>?_)
 ·rw [Xo h];exact ⟨trivial,rfl,trivial⟩
 refine ⟨trivial,?_,trivial⟩
 symm
 refine Xf fun hm=>?_
 unfold In at hm
 rcases List.mem_cons.1 hm with e | hm
 ·exact h0 (Xd e)
 rcases List.mem_cons.1 hm with e | hm
 ·exact h1 (Xd e)
 rcases List.mem_cons.1 hm with e | hm
 ·exact h2 (Xd e)
 rcases List.mem_cons.1 hm with e | hm
 ·exact h3 (Xd e)
 rcases List.mem_cons.1 hm with e | hm
 ·exact h4 (Xd e)
 rcases List.mem_cons.1 hm with e | hm
 ·exact h5 (Xd e)
 rcases List.mem_cons.1 hm with e | hm
 ·exact h6 (Xd e)
 rcases List.mem_cons.1 hm with e | hm
 ·exact h7 (Xd e)
 rcases List.mem_cons.1 hm with e | hm
 ·exact h8 (Xd e)
 rcases List.mem_cons.1 hm with e | hm
 ·exact h9 (Xd e)
 rcases List.mem_cons.1 hm with e | hm
 ·exact h10 (Xd e)
 rcases List.mem_cons.1 hm with e | hm
 ·exact h11 (Xd e)
 rcases List.mem_cons.1 hm with e | hm
 ·exact h12 (Xd e)
 rcases List.mem_cons.1 hm with e | hm
 ·exact h13 (Xd e)
 rcases List.mem_cons.1 hm with e | hm
 ·exact h14 (Xd e)
 rcases List.mem_cons.1 hm with e | hm
 ·exact h15 (Xd e)
 rcases List.mem_cons.1 hm with e | hm
 ·exact h16 (Xd e)
 rcases List.mem_cons.1 hm with e | hm
 ·exact h17 (Xd e)
 rcases List.mem_cons.1 hm with e | hm
 ·exact h18 (Xd e)
 rcases List.mem_cons.1 hm with e | hm
 ·exact h19 (Xd e)
 exact absurd hm List.not_mem_nil
end Go.AL.Seat
end
section
open Go Go.AL Go.Pd
namespace Go.AL.Seat
theorem Hu (s:Str)  :
  if ew bJ s=true then True/\(!j9 s)=aU s/\True else True/\false=aU s/\True:=by
 unfold aU;cases ew bJ s <;> simp
theorem Fm (s:Str)  :
  True/\ew bP s=cZ s/\True:=by
 simp [cZ]
end Go.AL.Seat
end
section
open Go Go.AL Go.Pd
namespace Go.AL.Seat
namespace C0a
def A0:=(0:Int)
def B0 (x:Nat):=(↑x:Int)
def C0 (x:Nat)(a:List Str)(v:Str):=(x<=List.length a/\gV a v A0=gV (List.drop x a) v (B0 x))
def D0 (a:List Str):=(↑(List.length a):Int)
end C0a
open C0a in
theorem Cx (a:List Str) (v:Str) (ha:Wf (.lst .str) a) :
  (∃(x:Nat),(C0 x a v)/\A0=(B0 x)/\a=a/\v=v/\(D0 a)=(D0 a)/\True)/\∀(x:Nat),x<=List.length a/\gV a v A0=gV (List.drop x a) v (B0 x)→if decide ((B0 x)<(D0 a))=true then (A0<=(B0 x)/\(B0 x)<(D0 a))/\if decide (v=List.getD a (Int.toNat (B0 x)) (dfl Ty.str))=true then True/\(B0 x)=gV a v A0/\True else inR IntKind.i64 ((B0 x)+(1:Int))/\∃(y:Nat),(C0 y a v)/\List.length a - y<List.length a - x/\(B0 x)+(1:Int)=(B0 y)/\a=a/\v=v/\(D0 a)=(D0 a)/\True else True/\(-1:Int)=gV a v A0/\True:=by
 delta D0 C0 B0 A0
 have la:=ha.len
 simp only [Int.toNat_natCast,eq_self,true_and,and_true]
 refine ⟨⟨0,⟨by omega,by simp⟩,by simp⟩,?_⟩
 rintro k ⟨h1,h3⟩
 refine a6 (fun h=>?_) (fun h=>?_)
 ·replace h:=Xo h
  have hk:k < a.length:=by omega
  rw [aT a k (dfl .str) hk] at h3
  refine ⟨by omega,?_⟩
  by_cases e:a.getD k (dfl .str)=v
  ·rw [if_pos (by simpa using e.symm),h3,gV,if_pos e]
  ·rw [if_neg (by simpa using fun h=>e h.symm)]
   exact ⟨bN hk la,k+1,⟨by omega,by rw [h3,gV,if_neg e];rfl⟩,by omega,by omega⟩
 ·replace h:¬((k:Int) < (a.length:Int)):=fun e=>h (Xd e)
  have e:k=a.length:=by omega
  subst e;rw [h3];simp [gV]
end Go.AL.Seat
end
section
open Go Go.AL Go.Pd
namespace Go.AL.Seat
theorem uS (a:List Str) (v:Str)  :
  True/\decide ((0:Int)<=gV a v (0:Int))=decide (v∈a)/\True:=by
 simp only [eq_self,true_and,and_true]
 rw [Bool.eq_iff_iff];simp [sY a v 0 (by omega)]
end Go.AL.Seat
end
section
open Go Go.AL Go.Pd
namespace Go.AL.Seat
namespace C0c
def A0 (s:Str):=True/\true=lc s/\True
end C0c
open C0c in
theorem Fo (s:Str)  :
  if decide (s=([73,110,116]:Str))=true then (A0 s) else if decide (s=([66,111,111,108]:Str))=true then (A0 s) else if decide (s=([84,101,120,116]:Str))=true then (A0 s) else True/\decide (s=([65,110,121]:Str))=lc s/\True:=by
 delta A0
 simp only [eq_self,true_and,and_true,lc]
 by_cases a:s=[73,110,116] <;> by_cases b:s=[66,111,111,108] <;> by_cases c:s=[84,101,120,116] <;> by_cases d:s=[65,110,121] <;> simp [a,b,c,d]
end Go.AL.Seat
end
section
open Go Go.AL Go.Pd
namespace Go.AL.Seat
theorem Cy (a:List Str)  :
  True/\a=a/\True:=by
 trivial
end Go.AL.Seat
end
section
open Go Go.AL Go.Pd
namespace Go.AL.Seat
namespace C0e
def A0 (s:Shape):=(↑(List.length s.names):Int)
def B0 (s:Shape)(x:Nat):=eG s=(List.all (List.drop x s.names) aU && decide (List.Nodup s.names))
def C0 (x:Nat)(s:Shape):=(x<=List.length s.names/\List.length s.names=List.length s.parts/\(B0 s x))
def D0 (x:Nat):=(↑x:Int)
def E0 (s:Shape):=s=s/\false=false/\s.names=s.names/\(A0 s)=(A0 s)/\s=s/\True
def H0 (s:Shape):=(List.mergeSort s.names fun (x y:Str)=>decide (x<=y))
end C0e
open C0e in
theorem Fp (s:Shape) (hs:Wf (.st .shape) s) (ho:s.parts.length *16<=140737488355328) :
  if (!decide ((A0 s)=(↑(List.length s.parts):Int)))=true then True/\false=eG s/\True else (∃(x:Nat),(C0 x s)/\(0:Int)=(D0 x)/\(E0 s))/\∀(x:Nat),x<=List.length s.names/\List.length s.names=List.length s.parts/\(B0 s x)→if decide ((D0 x)<(A0 s))=true then ((0:Int)<=(D0 x)/\(D0 x)<(A0 s))/\if (!aU (List.getD s.names (Int.toNat (D0 x)) (dfl Ty.str)))=true then True/\false=eG s/\True else inR IntKind.i64 ((D0 x)+(1:Int))/\∃(y:Nat),(C0 y s)/\List.length s.names - y<List.length s.names - x/\(D0 x)+(1:Int)=(D0 y)/\(E0 s) else List.length s.names*(16:Nat)<=(140737488355328:Nat)/\List.length (H0 s)=List.length (H0 s)/\True/\decide ((↑(List.length (Lib.compact (H0 s))):Int)=(A0 s))=eG s/\True:=by
 delta H0 E0 D0 C0 B0 A0
 have ln:=hs.names.len
 simp only [Int.toNat_natCast,eq_self,true_and,and_true]
 refine a6 (fun h=>?_) (fun h=>?_)
 ·have:s.names.length≠s.parts.length:=by simp at h;omega
  simp [eG,this]
 have hl:s.names.length=s.parts.length:=by simp at h;omega
 refine ⟨⟨0,⟨by omega,hl,by simp [eG,hl]⟩,rfl⟩,?_⟩
 rintro k ⟨h1,_,h3⟩
 refine a6 (fun h=>?_) (fun h=>?_)
 ·replace h:=Xo h
  have hk:k < s.names.length:=by omega
  rw [aT s.names k (dfl .str) hk] at h3
  refine ⟨by omega,?_⟩
  simp only [List.all_cons] at h3
  cases e:aU (s.names.getD k (dfl .str))
  ·rw [e] at h3;rw [h3];simp
  ·simp only [e,Bool.true_and] at h3
   exact ⟨bN hk ln,k+1,⟨by omega,hl,h3⟩,by omega,by omega⟩
 ·replace h:¬((k:Int) < (s.names.length:Int)):=fun e=>h (Xd e)
  have e:k=s.names.length:=by omega
  subst e
  have hc:=l9 s.names
  unfold fQ at hc
  refine ⟨by omega,?_⟩
  rw [h3,List.drop_length]
  simp only [List.all_nil,Bool.true_and]
  rw [decide_eq_decide,←hc]
  omega
end Go.AL.Seat
end
section
open Go Go.AL Go.Pd
namespace Go.AL.Seat
namespace C0f
def A0 (s:Shape):=(↑(List.length s.parts):Int)
def B0 (s:Shape):=True/\false=bw s/\True
def C0 (s:Shape):=if decide ((↑(List.length s.names):Int)=(0:Int))=true then True/\decide ((A0 s)=(0:Int))=bw s/\True else (B0 s)
def D0 (s:Shape):=if decide (s.name=[])=true then (C0 s) else (B0 s)
def E0 (s:Shape):=if decide (s.name=[])=true then List.length s.parts*(16:Nat)<=(140737488355328:Nat)/\True/\eG s=bw s/\True else (B0 s)
def H0 (s:Shape):=if aU s.pkg=true then (C0 s) else (B0 s)
def I0 (s:Shape):=if decide (s.kind=(9:Int))=true then if cZ s.name=true then if decide (s.pkg=[])=true then if (!lc s.name)=true then (C0 s) else (H0 s) else (H0 s) else (B0 s) else if decide (s.kind=(10:Int))=true then if cZ s.name=true then (H0 s) else (B0 s) else (B0 s)
end C0f
open C0f in
theorem Hv (s:Shape) (hs:Wf (.st .shape) s) (ho:s.parts.length *16<=140737488355328) :
  if decide (s.pkg=[])=true then if decide (s.kind=(1:Int))=true then (D0 s) else if decide (s.kind=(2:Int))=true then (D0 s) else if decide (s.kind=(3:Int))=true then (D0 s) else if decide (s.kind=(4:Int))=true then (D0 s) else if decide (s.kind=(5:Int))=true then if decide (s.name=[])=true then if decide ((↑(List.length s.names):Int)=(0:Int))=true then True/\decide ((A0 s)=(1:Int))=bw s/\True else (B0 s) else (B0 s) else if decide (s.kind=(6:Int))=true then (E0 s) else if decide (s.kind=(7:Int))=true then (E0 s) else if decide (s.kind=(8:Int))=true then if decide (s.name=[])=true then if decide ((↑(List.length s.names):Int)=(0:Int))=true then True/\decide ((0:Int)<(A0 s))=bw s/\True else (B0 s) else (B0 s) else (I0 s) else if decide (s.kind=(1:Int))=true then (B0 s) else if decide (s.kind=(2:Int))=true then (B0 s) else if decide (s.kind=(3:Int))=true then (B0 s) else if decide (s.kind=(4:Int))=true then (B0 s) else if decide (s.kind=(5:Int))=true then (B0 s) else if decide (s.kind=(6:Int))=true then (B0 s) else if decide (s.kind=(7:Int))=true then (B0 s) else if decide (s.kind=(8:Int))=true then (B0 s) else (I0 s):=by
 delta I0 H0 E0 D0 C0 B0 A0
 have n0:((s.names.length:Int)=0)↔s.names=[]:=by rw [←List.length_eq_zero_iff];omega
 have p0:((s.parts.length:Int)=0)↔s.parts=[]:=by rw [←List.length_eq_zero_iff];omega
 have p1:((s.parts.length:Int)=1)↔s.parts.length=1:=by omega
 have p2:(0 < (s.parts.length:Int))↔¬s.parts=[]:=by rw [←List.length_eq_zero_iff];omega
 simp only [n0,p0,p1,p2,decide_eq_true_eq,true_and,and_true,ho]
 have hf:bw s=bw s:=rfl
 conv at hf=>rhs;unfold bw
 revert hf
 generalize bw s=F
 generalize eG s=A
 generalize cZ s.name=B
 generalize aU s.pkg=C
 generalize lc s.name=D
 generalize s.kind=K
 intro hf
 repeat' (refine a6 (fun _=>?_) (fun _=>?_))
 all_goals (subst hf;simp_all)
end Go.AL.Seat
end
section
open Go Go.AL Go.Pd
namespace Go.AL.Seat
namespace C0g
def A0 (x:Nat)(s:Shape):=(x<=List.length s.parts/\allS bw s=allL bw (List.drop x s.parts))
def B0 (x:Nat):=(↑x:Int)
def C0 (s:Shape):=(↑(List.length s.parts):Int)
def D0 (s:Shape):=s=s/\false=false/\s.parts=s.parts/\(C0 s)=(C0 s)/\s=s/\True
def E0 (s:Shape)(x:Nat):=(List.getD s.parts (Int.toNat (B0 x)) (dfl (Ty.st SN.shape)))
end C0g
open C0g in
theorem zw (n:Nat) (s:Shape) (hs:Wf (.st .shape) s) (hn:sz s<=n+1) (hb:n<=1000000) :
  List.length s.parts*(16:Nat)<=(140737488355328:Nat)/\if (!bw s)=true then True/\false=allS bw s/\True else (∃(x:Nat),(A0 x s)/\(0:Int)=(B0 x)/\(D0 s))/\∀(x:Nat),x<=List.length s.parts/\allS bw s=allL bw (List.drop x s.parts)→if decide ((B0 x)<(C0 s))=true then ((0:Int)<=(B0 x)/\(B0 x)<(C0 s))/\sz (E0 s x)<=n/\if (!allS bw (E0 s x))=true then True/\false=allS bw s/\True else inR IntKind.i64 ((B0 x)+(1:Int))/\∃(y:Nat),(A0 y s)/\List.length s.parts - y<List.length s.parts - x/\(B0 x)+(1:Int)=(B0 y)/\(D0 s) else True/\true=allS bw s/\True:=by
 delta E0 D0 C0 B0 A0
 have ln:=hs.parts.len
 have hz:=p7 s
 have hl:=Bg s.parts
 simp only [Int.toNat_natCast,eq_self,true_and,and_true]
 refine ⟨by omega,a6 (fun h=>?_) (fun h=>?_)⟩
 ·rw [nv];simp at h;simp [h]
 refine ⟨⟨0,⟨by omega,by rw [nv];simp at h;simp [h]⟩,rfl⟩,?_⟩
 rintro k ⟨h1,h3⟩
 refine a6 (fun h=>?_) (fun h=>?_)
 ·replace h:=Xo h
  have hk:k < s.parts.length:=by omega
  have hm:=ld (dy s.parts k (dfl (.st .shape)) hk)
  rw [aT s.parts k (dfl (.st .shape)) hk] at h3
  simp only [allL] at h3
  refine ⟨by omega,by omega,?_⟩
  cases e:allS bw (s.parts.getD k (dfl (.st .shape)))
  ·rw [e] at h3;rw [h3];simp
  ·simp only [e,Bool.true_and] at h3
   exact ⟨bN hk ln,k+1,⟨by omega,h3⟩,by omega,by omega⟩
 ·replace h:¬((k:Int) < (s.parts.length:Int)):=fun e=>h (Xd e)
  have e:k=s.parts.length:=by omega
  subst e
  rw [h3,List.drop_length];rfl
end Go.AL.Seat
end
section
open Go Go.AL Go.Pd
namespace Go.AL.Seat
theorem Hw (c:Int) (hc:0<=c/\c<=400) :
  inR IntKind.i64 (c+(1:Int))/\if decide ((400:Int)<c+(1:Int))=true then decide ((400:Int)<c+(1:Int))=true/\c+(1:Int)=c+(1:Int)/\True else decide ((400:Int)<c+(1:Int))=false/\c+(1:Int)=c+(1:Int)/\True:=by
 refine ⟨ak (by omega) (by omega),a6 (fun h=>?_) (fun h=>?_)⟩
 ·exact ⟨h,rfl,trivial⟩
 ·exact ⟨by simpa using h,rfl,trivial⟩
end Go.AL.Seat
end
section
open Go Go.AL Go.Pd
namespace Go.AL.Seat
namespace C0i
def A0:=(0:Int)
def B0:=(400:Int)
def C0:=(1:Int)
def D0 (x:Nat × Int)(s:Shape):=(↑(szL (List.take x.1 s.parts)):Int)
def E0 (x:Nat × Int)(s:Shape)(c:Int)(l:Int):=(x.1<=List.length s.parts/\c+C0+(D0 x s)<=B0/\deepL (List.drop x.1 s.parts) (l+C0) x.2=deepS s l)
def H0 (x:Nat × Int):=(↑x.1:Int)
def I0 (s:Shape):=(↑(List.length s.parts):Int)
def J0 (s:Shape)(x:Nat × Int):=(List.getD s.parts (Int.toNat (H0 x)) (dfl (Ty.st SN.shape)))
end C0i
open C0i in
theorem Hx (n:Nat) (s:Shape) (l c:Int) (hs:Wf (.st .shape) s) (hn:sz s<=n+1) (hc:0<=c/\c<=400/\1<=l/\l<=c+1) :
  (A0<=c/\c<=B0)/\if decide (B0<c+C0)=true then decide (B0<c+(↑(sz s):Int))=true/\c+C0=(401:Int)/\True else (∃(x:Nat × Int),(E0 x s c l)/\l=x.2/\A0=(H0 x)/\s=s/\l=l/\A0=A0/\s.parts=s.parts/\(I0 s)=(I0 s)/\c+C0=c+C0+(D0 x s)/\s=s/\True)/\∀(x:Nat × Int),x.1<=List.length s.parts/\c+C0+(D0 x s)<=B0/\deepL (List.drop x.1 s.parts) (l+C0) x.2=deepS s l→if decide ((H0 x)<(I0 s))=true then (A0<=(H0 x)/\(H0 x)<(I0 s))/\inR IntKind.i64 (l+C0)/\(sz (J0 s x)<=n/\A0<=c+C0+(D0 x s)/\c+C0+(D0 x s)<=B0/\C0<=l+C0/\l+C0<=c+C0+(D0 x s)+C0)/\if decide (B0<c+C0+(D0 x s)+(↑(sz (J0 s x)):Int))=true then decide (B0<c+(↑(sz s):Int))=true/\(401:Int)=(401:Int)/\True else inR IntKind.i64 ((H0 x)+C0)/\∃(y:Nat × Int),(E0 y s c l)/\List.length s.parts - y.1<List.length s.parts - x.1/\max x.2 (deepS (J0 s x) (l+C0))=y.2/\(H0 x)+C0=(H0 y)/\s=s/\l=l/\A0=A0/\s.parts=s.parts/\(I0 s)=(I0 s)/\c+C0+(D0 x s)+(↑(sz (J0 s x)):Int)=c+C0+(D0 y s)/\s=s/\True else decide (B0<c+(↑(sz s):Int))=false/\x.2=deepS s l/\c+C0+(D0 x s)=c+(↑(sz s):Int)/\True:=by
 delta J0 I0 H0 E0 D0 C0 B0 A0
 have ln:=hs.parts.len
 have hz:=p7 s
 refine ⟨⟨hc.1,hc.2.1⟩,a6 (fun h=>?_) (fun h=>?_)⟩
 ·replace h:=Xo h
  have:=jl s
  exact ⟨Xd (by omega),by omega,trivial⟩
 replace h:¬(400:Int) < c+1:=fun e=>h (Xd e)
 have hd0:deepL s.parts (l+1) l=deepS s l:=by cases s;rfl
 refine ⟨⟨(0,l),⟨Nat.zero_le _,by simp [szL];omega,by simpa using hd0⟩,rfl,rfl,rfl,rfl,rfl,rfl,rfl,by simp [szL],rfl,trivial⟩,?_⟩
 rintro ⟨k,d⟩ ⟨h1,h2,h3⟩
 simp only [Int.toNat_natCast] at h1 h2 h3 ⊢
 have hc0:(0:Int)<=(szL (s.parts.take k):Int):=by omega
 refine a6 (fun hk=>?_) (fun hk=>?_)
 ·replace hk:=Xo hk
  have hk:k < s.parts.length:=by omega
  have hs1:=mq s.parts k (dfl (.st .shape)) hk
  have hm:=ld (dy s.parts k (dfl (.st .shape)) hk)
  rw [aT s.parts k (dfl (.st .shape)) hk] at h3
  simp only [deepL] at h3
  have ht:=wt s.parts (k+1)
  refine ⟨by omega,ak (by omega) (by omega),⟨by omega,by omega,h2,by omega,by omega⟩,a6 (fun h=>?_) (fun h=>?_)⟩
  ·replace h:=Xo h
   exact ⟨Xd (by omega),by trivial,by trivial⟩
  ·replace h:=fun e=>h (Xd e)
   replace h:¬(400:Int) < c+1+(szL (s.parts.take k):Int)+(sz (s.parts.getD k (dfl (.st .shape))):Int):=h
   exact ⟨bN hk ln,(k+1,_),⟨by omega,by simp only;omega,h3⟩,by simp only;omega,rfl,by simp only;omega,by trivial,by trivial,by trivial,by trivial,by trivial,by simp only;omega,by trivial,by trivial⟩
 ·replace hk:¬((k:Int) < (s.parts.length:Int)):=fun e=>hk (Xd e)
  have e:k=s.parts.length:=by omega
  subst e
  rw [List.take_length] at h2 ⊢
  rw [List.drop_length] at h3
  exact ⟨Xf (by omega),h3,by omega,trivial⟩
end Go.AL.Seat
end
section
open Go Go.AL Go.Pd
namespace Go.AL.Seat
namespace C0j
def A0:=(0:Int)
def B0:=(1:Int)
def C0 (s:Shape):=if sz s<=(400:Nat) then (↑(sz s):Int) else (401:Int)
def D0 (s:Shape):=if sz s<=(400:Nat) then deepS s B0 else A0
end C0j
open C0j in
theorem Fq (s:Shape) (hs:Wf (.st .shape) s) :
  (sz s<=sz s/\A0<=A0/\A0<=(400:Int)/\B0<=B0/\B0<=A0+B0)/\if decide ((400:Int)<A0+(↑(sz s):Int))=true then ((401:Int)=(C0 s))/\(A0=(D0 s))/\false=decide (sz s<=(400:Nat))/\True else (A0+(↑(sz s):Int)=(C0 s))/\(deepS s B0=(D0 s))/\true=decide (sz s<=(400:Nat))/\True:=by
 delta D0 C0 B0 A0
 refine ⟨by simp,a6 (fun h=>?_) (fun h=>?_)⟩
 ·replace h:=Xo h
  have h':¬sz s<=400:=by omega
  rw [if_neg h',if_neg h']
  exact ⟨rfl,rfl,by simp [h'],trivial⟩
 ·replace h:¬(400:Int) < 0+(sz s:Int):=fun e=>h (Xd e)
  have h':sz s<=400:=by omega
  rw [if_pos h',if_pos h']
  exact ⟨by omega,by trivial,by simp [h'],trivial⟩
end Go.AL.Seat
end
section
open Go Go.AL Go.Pd
namespace Go.AL.Seat
theorem Fs (s:Shape)  :
  if (!decide (sz s<=(400:Nat)))=true then True/\(3:Int)=bK s/\True else if decide ((40:Int)<if sz s<=(400:Nat) then deepS s (1:Int) else (0:Int))=true then True/\(91:Int)=bK s/\True else sz s<=(400:Nat)/\if (!allS bw s)=true then True/\(70:Int)=bK s/\True else True/\(0:Int)=bK s/\True:=by
 unfold bK
 by_cases h1:sz s<=400
 ·rw [if_neg (by simp [h1]),if_pos h1,if_neg (show ¬400 < sz s by omega)]
  by_cases h2:(40:Int) < deepS s 1
  ·rw [if_pos (by simp [h2]),if_pos h2];exact ⟨trivial,rfl,trivial⟩
  ·rw [if_neg (by simp [h2]),if_neg h2]
   refine ⟨h1,?_⟩
   cases allS bw s <;> simp
 ·rw [if_pos (by simp [h1]),if_pos (show 400 < sz s by omega)];exact ⟨trivial,rfl,trivial⟩
theorem IU (s:Par)  :
  True/\(!decide (s.err=(0:Int)))=aV s/\s=s/\True:=by
 simp only [aV];trivial
end Go.AL.Seat
end
section
open Go Go.AL Go.Pd
namespace Go.AL.Seat
namespace C0m
def A0 (s:Par):=(↑(List.length s.toks):Int)
def B0:=(0:Int)
end C0m
open C0m in
theorem Hy (s:Par)  (ho:a8 s) :
  if decide (s.pos<(A0 s))=true then (B0<=s.pos/\s.pos<(A0 s))/\True/\List.getD s.toks (Int.toNat s.pos) (dfl (Ty.st SN.token))=ao s/\s=s/\True else if decide ((A0 s)=B0)=true then True/\B0=(ao s).kind/\[]=(ao s).text/\B0=(ao s).pos/\s=s/\True else inR IntKind.i64 ((A0 s) - (1:Int))/\(B0<=(A0 s) - (1:Int)/\(A0 s) - (1:Int)<(A0 s))/\True/\B0=(ao s).kind/\[]=(ao s).text/\(List.getD s.toks (Int.toNat ((A0 s) - (1:Int))) (dfl (Ty.st SN.token))).pos=(ao s).pos/\s=s/\True:=by
 delta B0 A0
 obtain ⟨g1,g2,g3⟩:=ho
 unfold ao bB
 refine a6 (fun h=>?_) (fun h=>?_)
 ·replace h:=Xo h
  rw [if_pos h]
  exact ⟨⟨g1,h⟩,trivial,rfl,rfl,trivial⟩
 ·replace h:¬s.pos < (s.toks.length:Int):=fun e=>h (Xd e)
  rw [if_neg h]
  refine a6 (fun k=>?_) (fun k=>?_)
  ·replace k:=Xo k
   rw [if_pos (by omega)]
   exact ⟨trivial,rfl,rfl,rfl,rfl,trivial⟩
  ·replace k:¬(s.toks.length:Int)=0:=fun e=>k (Xd e)
   rw [if_neg (by omega)]
   exact ⟨ak (by omega) (by omega),⟨by omega,by omega⟩,trivial,rfl,rfl,rfl,rfl,trivial⟩
end Go.AL.Seat
end
section
open Go Go.AL Go.Pd
namespace Go.AL.Seat
theorem Hz (s:Par) (e:Int) (a:Int)  :
  if (!aV s)=true then True/\s.toks=(cv e a s).toks/\s.pos=(cv e a s).pos/\e=(cv e a s).err/\a=(cv e a s).fat/\True else True/\s=cv e a s/\True:=by
 unfold cv aV
 by_cases h:s.err=0
 ·simp [h]
 ·simp [h]
end Go.AL.Seat
end
section
open Go Go.AL Go.Pd
namespace Go.AL.Seat
namespace C0o
def A0 (s:Par)(t:Str):=if decide ((ao s).text=t)=true then True/\(!aV s)=isF t s/\s=s/\True else True/\false=isF t s/\s=s/\True
end C0o
open C0o in
theorem Jk (s:Par) (t:Str)  (ho:a8 s) :
  a8 s/\if decide ((ao s).kind=(6:Int))=true then (A0 s t) else if decide ((ao s).kind=(5:Int))=true then (A0 s t) else True/\false=isF t s/\s=s/\True:=by
 delta A0
 refine ⟨ho,?_⟩
 have e:isF t s=((decide ((ao s).kind=6) || decide ((ao s).kind=5)) && decide ((ao s).text=t) && !aV s):=rfl
 rw [e]
 by_cases a:(ao s).kind=6 <;> by_cases b:(ao s).kind=5 <;> by_cases c:(ao s).text=t <;> simp [a,b,c]
end Go.AL.Seat
end
section
open Go Go.AL Go.Pd
namespace Go.AL.Seat
theorem IV (s:Par) (t:Str)  (ho:a8 s) :
  a8 s/\if (!isF t s)=true then True/\false=isF t s/\s=bF t s/\True else inR IntKind.i64 (s.pos+(1:Int))/\True/\true=isF t s/\s.toks=(bF t s).toks/\s.pos+(1:Int)=(bF t s).pos/\s.err=(bF t s).err/\s.fat=(bF t s).fat/\True:=by
 refine ⟨ho,a6 (fun h=>?_) (fun h=>?_)⟩
 ·have h:isF t s=false:=by simpa using h
  rw [aP h,h];simp
 ·have h:isF t s=true:=by simpa using h
  have:=eM h
  have g:=ho
  unfold a8 at g
  rw [aI h,h]
  exact ⟨ak (by omega) (by omega),trivial,rfl,rfl,rfl,rfl,rfl,trivial⟩
theorem HA (s:Par) (t:Str)  (ho:a8 s) :
  a8 s/\if (!isF t s)=true then a8 (bF t s)/\True/\cv (90:Int) (ao (bF t s)).pos (bF t s)=aj t s/\True else True/\bF t s=aj t s/\True:=by
 refine ⟨ho,a6 (fun h=>?_) (fun h=>?_)⟩
 ·have h:isF t s=false:=by simpa using h
  rw [aP h]
  refine ⟨ho,trivial,?_,trivial⟩
  unfold aj;rw [h];rfl
 ·have h:isF t s=true:=by simpa using h
  rw [aI h]
  refine ⟨trivial,?_,trivial⟩
  unfold aj;rw [h];rfl
end Go.AL.Seat
end
section
open Go Go.AL Go.Pd
namespace Go.AL.Seat
namespace C0r
def A0 (k:Int)(s:Par):=True/\(0:Int)=(aS k s).1.kind/\[]=(aS k s).1.text/\(0:Int)=(aS k s).1.pos/\cv (90:Int) (ao s).pos s=(aS k s).2/\True
end C0r
open C0r in
theorem HB (s:Par) (k:Int)  (ho:a8 s/\¬k=0) :
  a8 s/\if (!decide ((ao s).kind=k))=true then (A0 k s) else if aV s=true then (A0 k s) else inR IntKind.i64 (s.pos+(1:Int))/\True/\ao s=(aS k s).1/\s.toks=(aS k s).2.toks/\s.pos+(1:Int)=(aS k s).2.pos/\s.err=(aS k s).2.err/\s.fat=(aS k s).2.fat/\True:=by
 delta A0
 obtain ⟨ho,hk⟩:=ho
 refine ⟨ho,a6 (fun h=>?_) (fun h=>?_)⟩
 ·have h:¬(ao s).kind=k:=by simpa using h
  unfold aS
  rw [if_neg (fun e=>h e.1)]
  exact ⟨trivial,rfl,rfl,rfl,rfl,trivial⟩
 ·have h:(ao s).kind=k:=by simpa using h
  refine a6 (fun b=>?_) (fun b=>?_)
  ·unfold aS
   rw [if_neg (fun e=>by rw [e.2] at b;cases b)]
   exact ⟨trivial,rfl,rfl,rfl,rfl,trivial⟩
  ·have b:aV s=false:=by simpa using b
   have:=f7 (l:=s.toks) (a:=s.pos) (by have:=h;unfold ao at this;rw [this];exact hk)
   have g:=ho
   unfold a8 at g
   unfold aS
   rw [if_pos ⟨h,b⟩]
   exact ⟨ak (by omega) (by omega),trivial,rfl,rfl,rfl,rfl,rfl,trivial⟩
end Go.AL.Seat
end
section
open Go Go.AL Go.Pd
namespace Go.AL.Seat
namespace C0s
def A0 (s:Par):=(aS (1:Int) s)
def B0 (s:Par)(ns:List Str):=True/\(A0 s).1.text=(aO ns s).1/\(A0 s).2=(aO ns s).2/\True
end C0s
open C0s in
theorem Ft (s:Par) (ns:List Str)  (ho:a8 s) (wns:Wf (.lst .str) ns) :
  (a8 s/\¬(1:Int)=(0:Int))/\if (!aV (A0 s).2)=true then if decide ((A0 s).1.text∈ns)=true then True/\(A0 s).1.text=(aO ns s).1/\cv (111:Int) (A0 s).1.pos (A0 s).2=(aO ns s).2/\True else (B0 s ns) else (B0 s ns):=by
 delta B0 A0
 refine ⟨⟨ho,by decide⟩,?_⟩
 have e1:(aO ns s).1=(aS 1 s).1.text:=rfl
 have e2:(aO ns s).2=(if aV (aS 1 s).2=false/\(aS 1 s).1.text∈ns then cv 111 (aS 1 s).1.pos (aS 1 s).2 else (aS 1 s).2):=rfl
 rw [e1,e2]
 refine a6 (fun h=>?_) (fun h=>?_)
 ·have h:aV (aS 1 s).2=false:=by simpa using h
  refine a6 (fun m=>?_) (fun m=>?_)
  ·rw [if_pos ⟨h,Xo m⟩];exact ⟨trivial,rfl,rfl,trivial⟩
  ·rw [if_neg (fun e=>m (Xd e.2))];exact ⟨trivial,rfl,rfl,trivial⟩
 ·rw [if_neg (fun e=>h (by rw [e.1];rfl))];exact ⟨trivial,rfl,rfl,trivial⟩
end Go.AL.Seat
end
section
open Go Go.AL Go.Pd
namespace Go.AL.Seat
namespace C0t
def A0 (p:Str)(n:Str):=(co p n).names=[]/\(co p n).parts=[]/\True
def B0 (p:Str)(n:Str):=[]=(co p n).pkg/\[]=(co p n).name/\(A0 p n)
def C0 (p:Str)(n:Str):=True/\(9:Int)=(co p n).kind/\p=(co p n).pkg/\n=(co p n).name/\(A0 p n)
end C0t
open C0t in
theorem Fu (p n:Str)  :
  if decide (p=[])=true then if decide (n=([73,110,116]:Str))=true then True/\(1:Int)=(co p n).kind/\(B0 p n) else if decide (n=([66,111,111,108]:Str))=true then True/\(2:Int)=(co p n).kind/\(B0 p n) else if decide (n=([84,101,120,116]:Str))=true then True/\(3:Int)=(co p n).kind/\(B0 p n) else if decide (n=([65,110,121]:Str))=true then True/\(4:Int)=(co p n).kind/\(B0 p n) else (C0 p n) else (C0 p n):=by
 delta C0 B0 A0
 unfold co
 by_cases h:p=[]
 ·by_cases a:n=[73,110,116]
  ·simp [h,a]
  by_cases b:n=[66,111,111,108]
  ·simp [h,b]
  by_cases c:n=[84,101,120,116]
  ·simp [h,c]
  by_cases d:n=[65,110,121]
  ·simp [h,d]
  simp [h,a,b,c,d]
 ·simp [h]
end Go.AL.Seat
end
section
open Go Go.AL Go.Pd
namespace Go.AL.Seat
namespace C0u
def A0 (n:Nat)(s:Par):=(ag n (aj ([58]:Str) s))
end C0u
open C0u in
theorem Fv (n:Nat) (s:Par)  (ho:a8 s/\rem (aj [58] s) < n) :
  a8 s/\(a8 (aj ([58]:Str) s)/\rem (aj ([58]:Str) s)<n)/\True/\(A0 n s).1=(A0 n s).1/\(A0 n s).2=(A0 n s).2/\True:=by
 delta A0
 exact ⟨ho.1,⟨(cq ho.1).good,ho.2⟩,trivial,rfl,rfl,trivial⟩
end Go.AL.Seat
end
section
open Go Go.AL Go.Pd
namespace Go.AL.Seat
namespace C0v
def A0 (x:Shape):=List.length x.parts=List.length x.parts
def B0 (n:Nat)(x:Shape)(s:Par):=(ap (ag n) x s)
end C0v
open C0v in
theorem Cz (n:Nat) (x:Shape) (s:Par) (hi:a8 s) (h0:s.err=0) (hn:rem s<=n) (hl:x.names.length+x.parts.length<=100000) :
  a8 s/\(List.length x.names=List.length x.names/\(List.length x.names+List.length [(aO x.names s).1])*(16:Nat)<=(140737488355328:Nat))/\(a8 (aO x.names s).2/\rem (aj ([58]:Str) (aO x.names s).2)<n)/\((A0 x)/\(List.length x.parts+(1:Nat))*(88:Nat)<=(140737488355328:Nat))/\(↑(List.length x.parts):Int)=(↑(List.length x.parts):Int)/\(A0 x)/\(A0 x)/\(A0 x)/\True/\x.kind=(B0 n x s).1.kind/\x.pkg=(B0 n x s).1.pkg/\x.name=(B0 n x s).1.name/\x.names++[(aO x.names s).1]=(B0 n x s).1.names/\x.parts++[(ag n (aj ([58]:Str) (aO x.names s).2)).1]=(B0 n x s).1.parts/\(ag n (aj ([58]:Str) (aO x.names s).2)).2=(B0 n x s).2/\List.length (x.names++[(aO x.names s).1])=List.length (B0 n x s).1.names/\List.length x.parts+(1:Nat)=List.length (B0 n x s).1.parts/\True:=by
 delta B0 A0
 obtain ⟨g1,e1⟩:=kc (ns:=x.names) hi
 have g2:=cq (t:=[58]) g1.good
 have e2:=(e1.then g2).lt hn h0
 refine ⟨hi,⟨rfl,by simp only [List.length_singleton];omega⟩,⟨g1.good,e2⟩,⟨rfl,by omega⟩,rfl,rfl,rfl,rfl,trivial,rfl,rfl,rfl,rfl,rfl,rfl,rfl,?_,trivial⟩
 show _=(x.parts++[_]).length
 simp
end Go.AL.Seat
end
section
open Go Go.AL Go.Pd
namespace Go.AL.Seat
namespace C0w
def A0 (x:Shape):=List.length x.parts=List.length x.parts
def B0 (n:Nat)(x:Shape)(s:Par):=(aw (ag n) x s)
end C0w
open C0w in
theorem Fw (n:Nat) (x:Shape) (s:Par) (hi:a8 s) (hn:rem s < n) (hl:x.parts.length<=100000) :
  (a8 s/\rem s<n)/\((A0 x)/\(List.length x.parts+(1:Nat))*(88:Nat)<=(140737488355328:Nat))/\(↑(List.length x.parts):Int)=(↑(List.length x.parts):Int)/\(A0 x)/\(A0 x)/\(A0 x)/\True/\x.kind=(B0 n x s).1.kind/\x.pkg=(B0 n x s).1.pkg/\x.name=(B0 n x s).1.name/\x.parts++[(ag n s).1]=(B0 n x s).1.parts/\List.length x.parts+(1:Nat)=List.length (B0 n x s).1.parts/\(ag n s).2=(B0 n x s).2/\True:=by
 delta B0 A0
 refine ⟨⟨hi,hn⟩,⟨rfl,by omega⟩,rfl,rfl,rfl,rfl,trivial,rfl,rfl,rfl,rfl,?_,rfl,trivial⟩
 show _=(x.parts++[_]).length
 simp
end Go.AL.Seat
end
section
open Go Go.AL Go.Pd
namespace Go.AL.Seat
namespace C0x
def A0 (b:Str)(e:Str)(n:Nat)(k:Int)(s:Par):=(ad b e (ap (ag n)) {kind:=k,pkg:=[],name:=[],names:=[],parts:=[]:Shape} s)
def B0 (b:Str)(e:Str)(n:Nat)(x:Nat × Shape × Par)(k:Int)(s:Par):=bS b e (ap (ag n)) x.1 x.2.1 x.2.2=ad b e (ap (ag n)) {kind:=k,pkg:=[],name:=[],names:=[],parts:=[]:Shape} s
def C0 (x:Nat × Shape × Par)(n:Nat)(b:Str)(e:Str)(k:Int)(s:Par):=(a8 x.2.2/\rem x.2.2<x.1/\rem x.2.2<=n/\List.length x.2.1.names+x.1<=(5000:Nat)/\List.length x.2.1.parts+x.1<=(5000:Nat)/\(B0 b e n x k s))
def D0 (n:Nat)(x:Nat × Shape × Par):=(ap (ag n) x.2.1 x.2.2)
end C0x
open C0x in
theorem Fx (n:Nat) (b e:Str) (k:Int) (s:Par) (hi:a8 s) (hn:rem s<=n) :
  a8 s/\if isF e s=true then True/\bF e s=(A0 b e n k s).2/\k=(A0 b e n k s).1.kind/\[]=(A0 b e n k s).1.pkg/\[]=(A0 b e n k s).1.name/\(A0 b e n k s).1.names=[]/\(A0 b e n k s).1.parts=[]/\List.length (A0 b e n k s).1.names=(0:Nat)/\List.length (A0 b e n k s).1.parts=(0:Nat)/\True else (∃(x:Nat × Shape × Par),(C0 x n b e k s)/\b=b/\e=e/\false=false/\bF e s=x.2.2/\k=x.2.1.kind/\[]=x.2.1.pkg/\[]=x.2.1.name/\x.2.1.names=[]/\x.2.1.parts=[]/\List.length x.2.1.names=(0:Nat)/\List.length x.2.1.parts=(0:Nat)/\True)/\∀(x:Nat × Shape × Par),a8 x.2.2/\rem x.2.2<x.1/\rem x.2.2<=n/\List.length x.2.1.names+x.1<=(5000:Nat)/\List.length x.2.1.parts+x.1<=(5000:Nat)/\(B0 b e n x k s)→if (!aV x.2.2)=true then (a8 x.2.2/\x.2.2.err=(0:Int)/\rem x.2.2<=n/\List.length x.2.1.names=List.length x.2.1.names/\List.length x.2.1.parts=List.length x.2.1.parts/\List.length x.2.1.names+List.length x.2.1.parts<=(100000:Nat))/\a8 (D0 n x).2/\if isF e (D0 n x).2=true then True/\bF e (D0 n x).2=(A0 b e n k s).2/\(D0 n x).1.kind=(A0 b e n k s).1.kind/\(D0 n x).1.pkg=(A0 b e n k s).1.pkg/\(D0 n x).1.name=(A0 b e n k s).1.name/\(D0 n x).1.names=(A0 b e n k s).1.names/\(D0 n x).1.parts=(A0 b e n k s).1.parts/\List.length (D0 n x).1.names=List.length (A0 b e n k s).1.names/\List.length (D0 n x).1.parts=List.length (A0 b e n k s).1.parts/\True else a8 (bF e (D0 n x).2)/\∃(y:Nat × Shape × Par),(C0 y n b e k s)/\y.1<x.1/\b=b/\e=e/\false=false/\aj b (bF e (D0 n x).2)=y.2.2/\(D0 n x).1.kind=y.2.1.kind/\(D0 n x).1.pkg=y.2.1.pkg/\(D0 n x).1.name=y.2.1.name/\(D0 n x).1.names=y.2.1.names/\(D0 n x).1.parts=y.2.1.parts/\List.length (D0 n x).1.names=List.length y.2.1.names/\List.length (D0 n x).1.parts=List.length y.2.1.parts/\True else True/\x.2.2=(A0 b e n k s).2/\x.2.1.kind=(A0 b e n k s).1.kind/\x.2.1.pkg=(A0 b e n k s).1.pkg/\x.2.1.name=(A0 b e n k s).1.name/\x.2.1.names=(A0 b e n k s).1.names/\x.2.1.parts=(A0 b e n k s).1.parts/\List.length x.2.1.names=List.length (A0 b e n k s).1.names/\List.length x.2.1.parts=List.length (A0 b e n k s).1.parts/\True:=by
 delta D0 C0 B0 A0
 have hl:=hi.2.2.1
 have hF:ad b e (ap (ag n)) ⟨k,[],[],[],[]⟩ s=if isF e s=true then (⟨k,[],[],[],[]⟩,aC s) else bS b e (ap (ag n)) (s.toks.length+2) ⟨k,[],[],[],[]⟩ s:=rfl
 have hrd:fc (ap (ag n)) n:=de (ba n)
 generalize ad b e (ap (ag n)) ⟨k,[],[],[],[]⟩ s=fin at hF ⊢
 refine ⟨hi,a6 (fun h=>?_) (fun h=>?_)⟩
 ·rw [if_pos h] at hF
  subst hF
  refine ⟨trivial,aI h,?_⟩
  exact Xr
 ·rw [if_neg h] at hF
  have h:isF e s=false:=by simpa using h
  rw [aP h]
  refine ⟨⟨(s.toks.length+2,⟨k,[],[],[],[]⟩,s),⟨hi,by show rem s < _;have h1:=hi.1;have h2:=hi.2.1;unfold rem;split <;> omega,hn,by show 0+_<=_;omega,by show 0+_<=_;omega,hF.symm⟩,by trivial,by trivial,by trivial,by trivial,?_⟩,?_⟩
  ·exact Xr
  rintro ⟨j,x,s1⟩ ⟨i1,i2,i3,l0,l1,i6⟩
  simp only at i1 i2 i3 l0 l1 i6 ⊢
  refine a6 (fun hb=>?_) (fun hb=>?_)
  ·have h0:s1.err=0:=eE.1 (by simpa using hb)
   obtain ⟨j,rfl⟩:∃m,j=m+1:=⟨j - 1,by omega⟩
   have hp:=ez h0
   obtain ⟨g,ea⟩:=hrd x s1 i1 h0 (by omega)
   have hbf:¬aV s1=true:=by simp [aV,h0]
   simp only [bS,if_neg hbf] at i6
   refine ⟨⟨i1,h0,i3,by trivial,by trivial,by omega⟩,g.good,a6 (fun c=>?_) (fun c=>?_)⟩
   ·rw [if_pos c] at i6
    subst i6
    refine ⟨trivial,aI c,?_⟩
    exact Xr
   ·have c:isF e (ap (ag n) x s1).2=false:=by simpa using c
    rw [if_neg (by simp [c])] at i6
    rw [aP c]
    obtain ⟨n1,n2,n3,n4⟩:=fx hrd (btw:=b) (en:=e) (x:=x) i1 h0 (by omega) i2
    refine ⟨g.good,(j,(ap (ag n) x s1).1,aj b (ap (ag n) x s1).2),⟨n1,n4,n3,by show (x.names++[_]).length+j<=5000;simp only [List.length_append,List.length_singleton];omega,by show (x.parts++[_]).length+j<=5000;simp only [List.length_append,List.length_singleton];omega,i6⟩,by show j < j+1;omega,by trivial,by trivial,by trivial,by trivial,?_⟩
    exact Xr
  ·have h0:¬s1.err=0:=cG.1 (by simpa using hb)
   have hbf:aV s1=true:=cG.2 h0
   have:(x,s1)=fin:=by
    rw [←i6]
    cases j with
    | zero=>rfl
    | succ j=>simp only [bS,if_pos hbf]
   subst this
   refine ⟨trivial,rfl,?_⟩
   exact Xr
end Go.AL.Seat
end
