/- Plain facts. What the functions' conditions say, proved. No condition. -/
import Derived.Test.YtdmbjejhifjhbaaGreatDoorT15
set_option linter.unusedVariables false
set_option linter.unusedSimpArgs false
set_option linter.unnecessarySimpa false
set_option linter.deprecated false
set_option linter.unusedSectionVars false
set_option maxRecDepth 100000
section
namespace Go.Pd
open Go.AL
theorem sr (s:PS):(aA s).toks=s.toks:=rfl
theorem gf (e a:Int) (s:PS):(cy e a s).toks=s.toks:=by unfold cy;split <;> rfl
theorem aY (t:Str) (s:PS):(aj t s).toks=s.toks:=by
 unfold aj
 split
 ·rfl
 ·exact gf _ _ _
theorem eC (k:Int) (s:PS):(b6 k s).2.toks=s.toks:=by
 unfold b6
 split
 ·rfl
 ·exact gf _ _ _
theorem iT (ns:List Str) (s:PS):(bP ns s).2.toks=s.toks:=by
 unfold bP
 simp only
 split
 ·rw [gf,eC]
 ·exact eC _ _
def Ab {α:Type} (l:List Tokn) (p:α→Prop) (R:PS→α × PS):Prop:=∀s,s.toks=l→p (R s).1/\(R s).2.toks=l
def oM {σ:Type} (l:List Tokn) (p:σ→Prop) (one:σ→PS→σ × PS):Prop:=∀x s,s.toks=l→p x→p (one x s).1/\(one x s).2.toks=l
theorem qJ {σ:Type} {l:List Tokn} {p:σ→Prop} {one:σ→PS→σ × PS} (h:oM l p one) (btw en:Str):∀(k:Nat) (x:σ) (s:PS),s.toks=l→p x→p (bc btw en one k x s).1/\(bc btw en one k x s).2.toks=l
 | 0,x,s,hs,hx=>⟨hx,hs⟩
 | k+1,x,s,hs,hx=>by
  simp only [bc]
  have h1:=h x s hs hx
  split
  ·exact ⟨hx,hs⟩
  split
  ·exact ⟨h1.1,h1.2⟩
  ·exact qJ h btw en k _ _ ((aY _ _).trans h1.2) h1.1
theorem eD {σ:Type} {l:List Tokn} {p:σ→Prop} {one:σ→PS→σ × PS} (h:oM l p one) (btw en:Str) {x:σ} {s:PS} (hs:s.toks=l) (hx:p x):p (ab btw en one x s).1/\(ab btw en one x s).2.toks=l:=by
 unfold ab
 split
 ·exact ⟨hx,hs⟩
 ·exact qJ h btw en _ x s hs hx
theorem qK {l:List Tokn} {R:PS→Shape × PS} (hR:Ab l (fun _=>True) R):oM l (fun _=>True) (ap R):=fun x s hs _=>⟨trivial,(hR _ ((aY _ _).trans ((iT _ _).trans hs))).2⟩
theorem y7 {l:List Tokn} {R:PS→Shape × PS} (hR:Ab l (fun _=>True) R):oM l (fun _=>True) (aw R):=fun x s hs _=>⟨trivial,(hR _ hs).2⟩
theorem qL (l:List Tokn):∀n,Ab l (fun _=>True) (ag n)
 | 0=>fun s hs=>⟨trivial,hs⟩
 | n+1=>fun s hs=>by
  have ih:=qL l n
  refine ⟨trivial,?_⟩
  show (ml (ag n) s).2.toks=l
  unfold ml
  simp only
  split
  ·exact hs
  split
  ·rw [eC,aY];exact hs
  split
  ·rw [aY];exact (ih (aA s) hs).2
  split
  ·exact (eD (qK ih) _ _ (s:=aA s) hs trivial).2
  split
  ·exact (eD (qK ih) _ _ (s:=aA s) hs trivial).2
  split
  ·have h:=(eD (y7 ih) [44] [41] (x:=(⟨8,[],[],[],[]⟩:Shape)) (s:=aA s) hs trivial).2
   exact (ih (aj [45,62] _) ((aY _ _).trans h)).2
  ·exact (gf _ _ _).trans hs
theorem qM (s:PS):(bW s).2.toks=s.toks:=by
 have h:=(qL s.toks big s rfl).2
 unfold bW
 simp only
 split
 ·exact h
 split
 ·exact h
 ·rw [gf];exact h
def PF (t:Trm):Prop:=∀x∈t.parts,cC x=true
theorem gL {t:Trm} (h:PF t) (hn:t.names.length<=1000000):cC t=true:=by
 unfold cC
 rw [po,Bool.and_eq_true,lm]
 exact ⟨Xd hn,List.all_eq_true.2 h⟩
theorem kQ {t:Trm} (h:t.parts=[]):PF t:=fun x hx=>by rw [h] at hx;cases hx
theorem y8 {t u:Trm} (h:PF t) (hu:cC u=true):PF (cA t u):=by
 intro x hx
 rcases List.mem_append.1 hx with k | k
 ·exact h x k
 ·rw [List.mem_singleton.1 k];exact hu
abbrev vV (l:List Tokn) (R:PS→Trm × PS):Prop:=Ab l (fun t=>cC t=true) R
variable {l:List Tokn} {R:PS→Trm × PS}
theorem su (hR:vV l R):oM l PF (aq R):=fun x s hs hx=>⟨y8 hx (hR s hs).1,(hR s hs).2⟩
theorem kR (a:Str) (t:Trm) (s:PS):(eI a t s).2.toks=s.toks:=(qM _).trans (aY _ _)
theorem DJ:oM l PF az:=fun x s hs hx=>⟨hx,(kR _ _ _).trans ((iT _ _).trans hs)⟩
theorem y9 (hR:vV l R):oM l PF (ah R):=fun x s hs hx=>by
 have h:=hR (aj [61] (bP x.names s).2) ((aY _ _).trans ((iT _ _).trans hs))
 exact ⟨y8 hx h.1,h.2⟩
theorem DK (hR:vV l R):oM l PF (ai R):=fun x s hs hx=>by
 have h:=hR _ ((aY [45,62] _).trans ((aY [41] _).trans ((kR [58] (cK (bu x (bP x.names s).1) (b6 1 (aj [40] (bP x.names s).2)).1.text) _).trans ((eC 1 (aj [40] (bP x.names s).2)).trans ((aY _ _).trans ((iT _ _).trans hs))))))
 exact ⟨y8 hx h.1,h.2⟩
theorem yb (hR:vV l R) {s:PS} (hs:s.toks=l):(∀x∈(cU R s).1,cC x=true)/\(cU R s).2.toks=l:=by
 have h:=hR (aj [40] s) ((aY _ _).trans hs)
 refine ⟨fun x hx=>?_,(aY _ _).trans h.2⟩
 rw [List.mem_singleton.1 hx]
 exact h.1
def FP (l:List Tokn) (p:Trm × PS):Prop:=cC p.1=true/\p.2.toks=l
theorem dY {c:Prop} [Decidable c] {p q:Trm × PS} (h1:c→FP l p) (h2:¬c→FP l q):FP l (if c then p else q):=by
 split
 ·exact h1 ‹_›
 ·exact h2 ‹_›
theorem DL (hl:l.length<=4097) (hR:vV l R):vV l (dB R):=by
 intro s hs
 have nil:∀t:Trm,t.parts=[]→t.names=[]→cC t=true:=fun t h k=>gL (kQ h) (by rw [k];exact Nat.zero_le _)
 have inn:∀(k j p:Int),cC (⟨k,[],(b6 j (aA s)).1.text,0,[],[],[],(cU R (b6 j (aA s)).2).1,p⟩:Trm)=true/\(cU R (b6 j (aA s)).2).2.toks=l:=fun k j p=>
  have h:=yb hR ((eC j (aA s)).trans hs)
  ⟨gL h.1 (Nat.zero_le _),h.2⟩
 show FP l (dB R s)
 unfold dB
 refine dY (fun _=>⟨nil _ rfl rfl,hs⟩) (fun _=>?_)
 refine dY (fun _=>⟨nil _ rfl rfl,hs⟩) (fun _=>?_)
 refine dY (fun _=>⟨nil _ rfl rfl,hs⟩) (fun _=>?_)
 refine dY (fun _=>dY (fun _=>⟨nil _ rfl rfl,(eC _ _).trans hs⟩) (fun _=>⟨nil _ rfl rfl,hs⟩)) (fun _=>?_)
 refine dY (fun _=>⟨nil _ rfl rfl,hs⟩) (fun _=>?_)
 refine dY (fun _=>⟨nil _ rfl rfl,hs⟩) (fun _=>?_)
 refine dY (fun _=>?_) (fun _=>?_)
 ·have hu:=hR (aA s) hs
  refine dY (fun _=>⟨gL (fun x hx=>?_) (Nat.zero_le _),(aY _ _).trans ((qM _).trans hu.2)⟩) (fun _=>⟨hu.1,(aY _ _).trans hu.2⟩)
  rw [List.mem_singleton.1 hx]
  exact hu.1
 refine dY (fun _=>?_) (fun _=>?_)
 ·have h:=eD (y9 hR) [44] [125] (x:=(⟨8,[],[],0,[],[],[],[],(ao s).pos⟩:Trm)) (s:=aA s) hs (kQ rfl)
  have hn:=dD (one:=ah R) (fun t=>t.names.length) (fun x s=>by show (x.names++[_]).length<=_;rw [List.length_append];exact Nat.le_refl _) [44] [125] (⟨8,[],[],0,[],[],[],[],(ao s).pos⟩:Trm) (aA s)
  refine ⟨gL h.1 ?_,h.2⟩
  rw [sr,hs] at hn
  exact Nat.le_trans hn (by show 0+(l.length+2)<=_;omega)
 refine dY (fun _=>inn 10 1 _) (fun _=>?_)
 refine dY (fun _=>inn 16 2 _) (fun _=>?_)
 refine dY (fun _=>inn 17 2 _) (fun _=>?_)
 exact ⟨nil _ rfl rfl,(gf _ _ _).trans hs⟩
theorem qN (hl:l.length<=4097) (hR:vV l R) (p:Int):∀(k:Nat) (t:Trm) (s:PS),cC t=true→s.toks=l→cC (fQ R p k t s).1=true/\(fQ R p k t s).2.toks=l
 | 0,t,s,ht,hs=>⟨ht,hs⟩
 | k+1,t,s,ht,hs=>by
  simp only [fQ]
  split
  ·exact ⟨ht,hs⟩
  split
  ·have h:=eD (su hR) [44] [41] (x:=(⟨7,[],[],0,[],[],[],[t],p⟩:Trm)) (s:=aA s) hs (fun x hx=>by rw [List.mem_singleton.1 hx];exact ht)
   have hn:=cx (one:=aq R) (fun t=>t.names=[]) (fun x s hx=>hx) [44] [41] (x:=(⟨7,[],[],0,[],[],[],[t],p⟩:Trm)) (aA s) rfl
   exact qN hl hR p k _ _ (gL h.1 (by rw [hn];exact Nat.zero_le _)) h.2
  split
  ·refine qN hl hR p k _ _ (gL (fun x hx=>?_) (Nat.zero_le _)) ((eC _ _).trans hs)
   rw [List.mem_singleton.1 hx]
   exact ht
  ·exact ⟨ht,hs⟩
theorem vW (hl:l.length<=4097):∀n,vV l (a7 n)
 | 0=>fun s hs=>⟨gL (kQ rfl) (Nat.zero_le _),hs⟩
 | n+1=>fun s hs=>by
  have hR:=vW hl n
  have pk:=su hR
  show FP l (lR (a7 n) s)
  unfold lR
  refine dY (fun _=>?_) (fun _=>?_)
  ·have h:=eD (DJ (l:=l)) [44] [41] (x:=(⟨6,[],[],0,[],[],[],[],(ao s).pos⟩:Trm)) (s:=aj [40] (aA s)) ((aY _ _).trans hs) (kQ rfl)
   have hn:=dD (one:=az) (fun t=>t.names.length) (fun x s=>by show (x.names++[_]).length<=_;rw [List.length_append];exact Nat.le_refl _) [44] [41] (⟨6,[],[],0,[],[],[],[],(ao s).pos⟩:Trm) (aj [40] (aA s))
   have h2:=pk _ (aj [45,62] (ab [44] [41] az (⟨6,[],[],0,[],[],[],[],(ao s).pos⟩:Trm) (aj [40] (aA s))).2) ((aY _ _).trans h.2) h.1
   refine ⟨gL h2.1 ?_,h2.2⟩
   rw [aY,sr,hs] at hn
   exact Nat.le_trans hn (by show 0+(l.length+2)<=_;omega)
  refine dY (fun _=>?_) (fun _=>?_)
  ·have h1:=pk (⟨14,[],(b6 1 (aA s)).1.text,0,[],[],[],[],(ao s).pos⟩:Trm) (aj [61] (b6 1 (aA s)).2) ((aY _ _).trans ((eC _ _).trans hs)) (kQ rfl)
   have h2:=pk _ (aj [105,110] _) ((aY _ _).trans h1.2) h1.1
   exact ⟨gL h2.1 (Nat.zero_le _),h2.2⟩
  refine dY (fun _=>?_) (fun _=>?_)
  ·have h1:=pk (⟨12,[],[],0,[],[],[],[],(ao s).pos⟩:Trm) (aA s) hs (kQ rfl)
   have h2:=pk _ (aj [116,104,101,110] _) ((aY _ _).trans h1.2) h1.1
   have h3:=pk _ (aj [101,108,115,101] _) ((aY _ _).trans h2.2) h2.1
   exact ⟨gL h3.1 (Nat.zero_le _),(kR _ _ _).trans h3.2⟩
  refine dY (fun _=>?_) (fun _=>?_)
  ·have h1:=pk (⟨13,[],[],0,[],[],[],[],(ao s).pos⟩:Trm) (aA s) hs (kQ rfl)
   have h:=eD (DK hR) [124] [125] (s:=aj [123] (aj [111,102] (aq (a7 n) (⟨13,[],[],0,[],[],[],[],(ao s).pos⟩:Trm) (aA s)).2)) ((aY _ _).trans ((aY _ _).trans h1.2)) h1.1
   have hn:=dD (one:=ai (a7 n)) (fun t=>t.names.length) (fun x s=>by show (x.names++[_]).length<=_;rw [List.length_append];exact Nat.le_refl _) [124] [125] (aq (a7 n) (⟨13,[],[],0,[],[],[],[],(ao s).pos⟩:Trm) (aA s)).1 (aj [123] (aj [111,102] (aq (a7 n) (⟨13,[],[],0,[],[],[],[],(ao s).pos⟩:Trm) (aA s)).2))
   refine ⟨gL h.1 ?_,(kR _ _ _).trans h.2⟩
   rw [aY,aY,h1.2] at hn
   exact Nat.le_trans hn (by show 0+(l.length+2)<=_;omega)
  refine dY (fun _=>?_) (fun _=>?_)
  ·have h:=eD pk [44] [93] (x:=(⟨11,[],[],0,[],[],[],[],(ao s).pos⟩:Trm)) (s:=aA s) hs (kQ rfl)
   have hn:=cx (one:=aq (a7 n)) (fun t=>t.names=[]) (fun x s hx=>hx) [44] [93] (x:=(⟨11,[],[],0,[],[],[],[],(ao s).pos⟩:Trm)) (aA s) rfl
   exact ⟨gL h.1 (by show List.length (ab [44] [93] (aq (a7 n)) _ (aA s)).1.names<=_;rw [hn];exact Nat.zero_le _),(kR _ _ _).trans h.2⟩
  have ha:=DL hl hR s hs
  exact qN hl hR _ _ _ _ ha.1 ha.2
end Go.Pd
namespace Go.Pd
open Go.AL
structure TokG (t:Tokn):Prop where
 kind:¬t.kind=0
 name:t.kind=1→aQ t.text=true
 upper:t.kind=2→dq t.text=true
 num:t.kind=3→kc t.text
 pos:0<=t.pos
theorem iU {k:Int} {t:Str} {p:Int} (hk:¬k=0) (h1:k=1→aQ t=true) (h2:k=2→dq t=true) (h3:k=3→kc t) (hp:0<=p):TokG ⟨k,t,p⟩:=⟨hk,h1,h2,h3,hp⟩
theorem vX {t:Str} (h:f7 t=true) (hne:t≠[]):kc t:=by
 unfold f7 at h
 simp only [Bool.and_eq_true,decide_eq_true_eq] at h
 refine gF ?_ h.1.2
 unfold bG
 rw [Xf hne,h.1.1]
 rfl
theorem oN {s:Str} {c:SC} (h0:0<=c.pos) (h1:c.pos < (s.length:Int)) (h:(aN s c).1=true) :
  ∃t,(aN s c).2.out=c.out++[t]/\TokG t/\t.pos=c.pos:=by
 unfold aN at h ⊢
 by_cases a:bq (bAt s c.pos)=true∨bw (bAt s c.pos)=true
 ·rw [if_pos a] at h ⊢
  unfold tZ at h ⊢
  split at h
  ·rename_i x;rw [if_pos x];exact ⟨_,rfl,iU (by decide) (fun e=>absurd e (by decide)) (fun e=>absurd e (by decide)) (fun e=>absurd e (by decide)) (h0),rfl⟩
  rename_i x
  rw [if_neg x]
  split at h
  ·rename_i y;rw [if_pos y];exact ⟨_,rfl,iU (by decide) (fun _=>y) (fun e=>absurd e (by decide)) (fun e=>absurd e (by decide)) (h0),rfl⟩
  rename_i y
  rw [if_neg y]
  split at h
  ·rename_i z;rw [if_pos z];exact ⟨_,rfl,iU (by decide) (fun e=>absurd e (by decide)) (fun _=>z) (fun e=>absurd e (by decide)) (h0),rfl⟩
  ·cases h
 rw [if_neg a] at h ⊢
 by_cases b:aK (bAt s c.pos)=true
 ·rw [if_pos b] at h ⊢
  have hw:=bT (pr:=aD) h0 h1 (by rw [jQ h1] at b;unfold aD;rw [b,Bool.or_true];rfl)
  have hl:=cQ (pr:=aD) h0 (Int.le_of_lt h1)
  have hcl:=pm (s:=s) h0 (b:=c.pos+(ae aD s c.pos:Int)) (by omega) hl
  unfold xX at h ⊢
  split at h
  ·rename_i x
   rw [if_pos x]
   exact ⟨_,rfl,iU (by decide) (fun e=>absurd e (by decide)) (fun e=>absurd e (by decide)) (fun _=>vX x (fun e=>by rw [e] at hcl;simp at hcl;omega)) (h0),rfl⟩
  rename_i x
  rw [if_neg x]
  split at h
  ·rename_i y;rw [if_pos y];exact ⟨_,rfl,iU (by decide) (fun e=>absurd e (by decide)) (fun e=>absurd e (by decide)) (fun e=>absurd e (by decide)) (h0),rfl⟩
  ·cases h
 rw [if_neg b] at h ⊢
 by_cases d:bAt s c.pos=34
 ·rw [if_pos d] at h ⊢
  obtain ⟨q1,_,_⟩:=eX s c.pos (s.length+2) [] (bS c (c.pos+1)) (by show 0<=c.pos+1;omega) (by show c.pos+1<=_;omega)
  have q1':(cm s c).2.2.out=c.out:=q1
  unfold xY at h ⊢
  split at h
  ·rename_i x
   rw [if_pos x]
   refine ⟨⟨4,(cm s c).1,c.pos⟩,?_,iU (by decide) (fun e=>absurd e (by decide)) (fun e=>absurd e (by decide)) (fun e=>absurd e (by decide)) (h0),rfl⟩
   show (cm s c).2.2.out++[_]=_
   rw [q1']
  ·cases h
 rw [if_neg d] at h ⊢
 unfold vF at h ⊢
 split at h
 ·rename_i x;rw [if_pos x];exact ⟨_,rfl,iU (by decide) (fun e=>absurd e (by decide)) (fun e=>absurd e (by decide)) (fun e=>absurd e (by decide)) (h0),rfl⟩
 rename_i x
 rw [if_neg x]
 split at h
 ·rename_i y;rw [if_pos y];exact ⟨_,rfl,iU (by decide) (fun e=>absurd e (by decide)) (fun e=>absurd e (by decide)) (fun e=>absurd e (by decide)) (h0),rfl⟩
 ·cases h
theorem kS (s:Str) (fr:Int):∀(n:Nat) (acc:Str) (c:SC),0<=c.pos→c.pos<=(s.length:Int)→(s.length:Int) < c.pos+(n:Int)→(bZ s fr n acc c).2.1=false→¬(bZ s fr n acc c).2.2.err=0
 | 0,acc,c,h0,h1,h2,_=>by omega
 | n+1,acc,c,h0,h1,h2,h=>by
  rw [bZ] at h ⊢
  by_cases a:bAt s c.pos < 32
  ·rw [if_pos a]
   show ¬(60:Int)=0
   decide
  rw [if_neg a] at h ⊢
  by_cases b:bAt s c.pos=34
  ·rw [if_pos b] at h
   cases h
  rw [if_neg b] at h ⊢
  by_cases d:bAt s c.pos=92
  ·rw [if_pos d] at h ⊢
   cases he:gQ (bAt s (c.pos+1)) with
   | none=>
    show ¬(60:Int)=0
    decide
   | some x=>
    rw [he] at h
    have hp:=nY he
    exact kS s fr n _ _ (by show 0<=c.pos+2;omega) (by show c.pos+2<=_;omega) (by show _ < c.pos+2+(n:Int);omega) h
  rw [if_neg d] at h ⊢
  obtain ⟨p1,p2⟩:=nZ a b d
  have p2:=p2 h0
  have hw:=cQ (pr:=aI) h0 h1
  cases hb:cu (cut s c.pos (c.pos+(ae aI s c.pos:Int))) with
  | some k=>
   show ¬(30:Int)=0
   decide
  | none=>
   rw [hb] at h
   exact kS s fr n _ _ (by show 0<=c.pos+_;omega) hw (by show _ < c.pos+_+(n:Int);omega) h
theorem mo {s:Str} {c:SC} (h0:0<=c.pos) (h1:c.pos < (s.length:Int)) (h:(aN s c).1=false):¬(aN s c).2.err=0:=by
 have d60:¬(60:Int)=0:=by decide
 unfold aN at h ⊢
 by_cases a:bq (bAt s c.pos)=true∨bw (bAt s c.pos)=true
 ·rw [if_pos a] at h ⊢
  unfold tZ at h ⊢
  split at h
  ·cases h
  rename_i x
  rw [if_neg x]
  split at h
  ·cases h
  rename_i y
  rw [if_neg y]
  split at h
  ·cases h
  ·rename_i z;rw [if_neg z];exact d60
 rw [if_neg a] at h ⊢
 by_cases b:aK (bAt s c.pos)=true
 ·rw [if_pos b] at h ⊢
  unfold xX at h ⊢
  split at h
  ·cases h
  rename_i x
  rw [if_neg x]
  split at h
  ·cases h
  ·rename_i y;rw [if_neg y];exact d60
 rw [if_neg b] at h ⊢
 by_cases d:bAt s c.pos=34
 ·rw [if_pos d] at h ⊢
  unfold xY at h ⊢
  split at h
  ·cases h
  ·rename_i x
   rw [if_neg x]
   exact kS s c.pos (s.length+2) [] (bS c (c.pos+1)) (by show 0<=c.pos+1;omega) (by show c.pos+1<=_;omega) (by show _ < c.pos+1+((s.length+2:Nat):Int);omega) (Bool.eq_false_iff.2 x)
 rw [if_neg d] at h ⊢
 unfold vF at h ⊢
 split at h
 ·cases h
 rename_i x
 rw [if_neg x]
 split at h
 ·cases h
 ·rename_i y;rw [if_neg y];exact d60
theorem jT (s:Str):∀(n:Nat) (c:SC),0<=c.pos→c.pos<=(s.length:Int)→(s.length:Int) < c.pos+(n:Int)→(∀t∈c.out,TokG t)→(dK s n c).2.err=0→
  ∃out,(dK s n c).1=out++[⟨0,[],(s.length:Int)⟩]/\∀t∈out,TokG t
 | 0,c,h0,h1,h2,_,_=>by omega
 | n+1,c,h0,h1,h2,ho,h=>by
  rw [dK] at h ⊢
  by_cases a:c.pos=(s.length:Int)
  ·rw [if_pos a]
   exact ⟨c.out,rfl,ho⟩
  rw [if_neg a] at h ⊢
  have hlt:c.pos < (s.length:Int):=by omega
  by_cases b:aE (bAt s c.pos)=true
  ·rw [if_pos b] at h ⊢
   exact jT s n _ (by show 0<=c.pos+1;omega) (by show c.pos+1<=_;omega) (by show _ < c.pos+1+(n:Int);omega) ho h
  rw [if_neg b] at h ⊢
  by_cases d:bAt s c.pos=45/\bAt s (c.pos+1)=45
  ·rw [if_pos d] at h ⊢
   have hw:=cQ (pr:=bE) h0 h1
   have hh:=bT (pr:=bE) h0 hlt (by rw [←jQ hlt,d.1];rfl)
   cases hb:cu (cut s c.pos (c.pos+(ae bE s c.pos:Int))) with
   | some k=>rw [hb] at h;exact absurd (show (30:Int)=0 from h) (by decide)
   | none=>
    rw [hb] at h
    exact jT s n _ (by show 0<=c.pos+_;omega) hw (by show _ < c.pos+_+(n:Int);omega) ho h
  rw [if_neg d] at h ⊢
  by_cases e:(aN s c).1=true
  ·rw [if_pos e] at h ⊢
   obtain ⟨t1,t2,t3⟩:=fJ h0 hlt e
   obtain ⟨t,g1,g2,_⟩:=oN h0 hlt e
   refine jT s n _ (by omega) t2 (by omega) ?_ h
   rw [g1]
   intro x hx
   rcases List.mem_append.1 hx with k | k
   ·exact ho x k
   ·rw [List.mem_singleton.1 k];exact g2
  ·rw [if_neg e] at h
   exact absurd h (by
    have:(aN s c).1=false:=by simpa using e
    exact mo h0 hlt this)
end Go.Pd
namespace Go.Pd
open Go.AL
theorem qO {s:Str} (h:(aU s).2.err=0):s.length<=4096/\∃out,(aU s).1=out++[⟨0,[],(s.length:Int)⟩]/\∀t∈out,TokG t:=by
 unfold aU at h ⊢
 split at h
 ·exact absurd h (by decide)
 ·rename_i x
  rw [if_neg x]
  exact ⟨by omega,jT s (s.length+2) ⟨0,[],0,0⟩ (by show (0:Int)<=0;omega) (by show (0:Int)<=_;omega) (by show _ < (0:Int)+((s.length+2:Nat):Int);omega) (fun t ht=>by cases ht) h⟩
theorem mq {s:Str} (h:(aU s).2.err=0):oT (aU s).1:=by
 obtain ⟨_,out,e,g⟩:=qO h
 rw [e]
 intro t ht hk
 rcases List.mem_append.1 ht with k | k
 ·exact (g t k).num hk
 ·rw [List.mem_singleton.1 k] at hk
  exact absurd (show (0:Int)=3 from hk) (by decide)
theorem qP {s:Str} (h:(aU s).2.err=0):0 < (aU s).1.length/\(eL (aU s).1 ((aU s).1.length - 1:Int)).kind=0:=by
 obtain ⟨_,out,e,g⟩:=qO h
 rw [e]
 have hl:(out++[(⟨0,[],(s.length:Int)⟩:Tokn)]).length=out.length+1:=by rw [List.length_append];rfl
 refine ⟨by omega,?_⟩
 unfold eL
 rw [if_pos (by omega)]
 have hk:(((out++[(⟨0,[],(s.length:Int)⟩:Tokn)]).length:Int) - 1).toNat=out.length:=by omega
 rw [hk,List.getD_eq_getElem?_getD,List.getElem?_append_right (Nat.le_refl _)]
 simp
def Ac (l:List Tokn) (a:Int) (p:Trm × Par):Trm × Int × Flt:=
 n9 nc (if b9 p.2=true then p else if ff p.1=3∨ff p.1=91 then (p.1,cy (ff p.1) (ao (bh l a)).pos p.2) else p)
def bB (l:List Tokn) (a:Int):Trm × Int × Flt:=if b9 (bh l a)=true then (nc,0,⟨(bh l a).err,(bh l a).fat⟩) else Ac l a (a7 5000 (bh l a))
def qQ {α:Type} (z:α) (f:List Tokn→α × Int × Flt) (s:Str):α × Flt:=
 if (aU s).2.err=0 then
  if (f (aU s).1).2.2.err=0 then
   if (dM (aU s).1 (f (aU s).1).2.1).err=0 then ((f (aU s).1).1,dM (aU s).1 (f (aU s).1).2.1) else (z,dM (aU s).1 (f (aU s).1).2.1)
  else (z,(f (aU s).1).2.2)
 else (z,(aU s).2)
def o6 (s:Str):Shape × Flt:=qQ Aa (fun l=>gP l 0) s
def iH (s:Str):Trm × Flt:=qQ nc (fun l=>bB l 0) s
theorem Ad {α:Type} {z:α} {p:α × Par} {l:List Tokn} (h:(n9 z p).2.2.err=0) (hc:p.2.err=0→0<=p.2.pos/\p.2.pos < (l.length:Int)):0<=(n9 z p).2.1/\(n9 z p).2.1 < (l.length:Int):=by
 unfold n9 at h ⊢
 split
 ·rename_i b
  rw [if_pos b] at h
  exact absurd h (cb.1 b)
 ·rename_i b
  exact hc (dC.1 (by simpa using b))
theorem o7 {l:List Tokn} (h:b9 (bh l 0)=false):(bh l 0).toks=l/\(bh l 0).pos=0:=by
 unfold bh
 split
 ·exact ⟨rfl,rfl⟩
 split <;> exact ⟨rfl,rfl⟩
theorem Bd {l:List Tokn} (hN:oT l) (hl:0 < l.length) (hk:(eL l ((l.length:Int) - 1)).kind=0) (h:(gP l 0).2.2.err=0):0<=(gP l 0).2.1/\(gP l 0).2.1 < (l.length:Int):=by
 unfold gP at h ⊢
 split
 ·rename_i b
  rw [if_pos b] at h
  exact absurd h (cb.1 b)
 rename_i b
 rw [if_neg b] at h
 have b':b9 (bh l 0)=false:=by simpa using b
 have g:=iD hN b'
 obtain ⟨e1,e2⟩:=o7 b'
 have m:=(kL g).1
 refine Ad h (fun _=>?_)
 have hcap:=m.cap ((l.length:Int) - 1) (by rw [e1];exact hk) (by rw [e2];omega)
 exact ⟨m.good.1,by omega⟩
theorem ye {l:List Tokn} (hN:oT l) (hl:0 < l.length) (hk:(eL l ((l.length:Int) - 1)).kind=0) (h:(bB l 0).2.2.err=0):0<=(bB l 0).2.1/\(bB l 0).2.1 < (l.length:Int):=by
 unfold bB at h ⊢
 split
 ·rename_i b
  rw [if_pos b] at h
  exact absurd h (cb.1 b)
 rename_i b
 rw [if_neg b] at h
 have b':b9 (bh l 0)=false:=by simpa using b
 have g:=iD hN b'
 obtain ⟨e1,e2⟩:=o7 b'
 have m:=(dj 5000 _ g (by have:=nT g;omega)).1
 have hcap:=m.cap ((l.length:Int) - 1) (by rw [e1];exact hk) (by rw [e2];omega)
 refine Ad h (fun _=>?_)
 have hp:∀e a,(cy e a (a7 5000 (bh l 0)).2).pos=(a7 5000 (bh l 0)).2.pos:=fun e a=>by unfold cy;split <;> rfl
 split
 ·exact ⟨m.good.1,by omega⟩
 split
 ·show 0<=(cy _ _ _).pos/\(cy _ _ _).pos < _
  rw [hp]
  exact ⟨m.good.1,by omega⟩
 ·exact ⟨m.good.1,by omega⟩
end Go.Pd
end
section
open Go Go.AL Go.Pd
namespace Go.AL.Seat
theorem DM (c:Int)  :
  if decide ((97:Int)<=c)=true then True/\decide (c<=(122:Int))=bq c/\True else True/\false=bq c/\True:=by
 unfold bq;simp only [kI];split <;> simp [*]
theorem DN (c:Int)  :
  if decide ((65:Int)<=c)=true then True/\decide (c<=(90:Int))=bw c/\True else True/\false=bw c/\True:=by
 unfold bw;simp only [kI];split <;> simp [*]
theorem DO (c:Int)  :
  if decide ((48:Int)<=c)=true then True/\decide (c<=(57:Int))=aK c/\True else True/\false=aK c/\True:=by
 unfold aK;simp only [kI];split <;> simp [*]
theorem Fw (c:Int)  :
  let A:=True/\true=bp c/\True;if bq c=true then A else if bw c=true then A else if aK c=true then A else True/\decide (c=(95:Int))=bp c/\True:=by
 conv=>zeta
 unfold bp;cases bq c <;> cases bw c <;> cases aK c <;> simp
theorem Be (s:Str) (hs:Wf .str s) :
  let A:=True/\false=di bq s/\True;let B:=(↑(List.length s):Int);let C:=(0:Int);let D:=s=s/\false=false/\B=B/\True;if decide (s=[])=true then A else if decide ((24:Int)<B)=true then A else (C<=C/\C<B)/\if (!bq (↑(UInt8.toNat (List.getD s (Int.toNat C) (0:UInt8))):Int))=true then A else (∃(x:Nat),(x<=List.length s/\di bq s=List.all (List.drop x s) fun (c:UInt8)=>bp (bI c))/\C=(↑x:Int)/\D)/\∀(x:Nat),let E:=(↑x:Int);(x<=List.length s/\di bq s=List.all (List.drop x s) fun (c:UInt8)=>bp (bI c))→if decide (E<B)=true then (C<=E/\E<B)/\if (!bp (↑(UInt8.toNat (List.getD s (Int.toNat E) (0:UInt8))):Int))=true then A else inR IntKind.i64 (E+(1:Int))/\∃(y:Nat),(y<=List.length s/\di bq s=List.all (List.drop y s) fun (c:UInt8)=>bp (bI c))/\List.length s - y<List.length s - x/\E+(1:Int)=(↑y:Int)/\D else True/\true=di bq s/\True:=by
 conv=>zeta
 have hlen:=hs.str
 have eb:∀b:UInt8,(b.toNat:Int)=bI b:=fun _=>rfl
 simp only [kI,Int.toNat_natCast,Int.toNat_zero,true_and,and_true,eb,di]
 generalize bq (bI (s.getD 0 0))=f0
 by_cases h0:s=[]
 ·simp [h0]
 have hpos:0 < s.length:=List.length_pos_iff.2 h0
 by_cases h1:s.length<=24
 ·rw [if_neg h0,if_neg (by omega)]
  refine ⟨by omega,?_⟩
  cases f0 with
  | false=>simp
  | true=>
   simp only [Bool.not_true,Bool.false_eq_true,if_false,h0,h1,decide_false,decide_true,Bool.not_false,Bool.true_and]
   refine ⟨⟨0,⟨by omega,rfl⟩,rfl⟩,?_⟩
   rintro k ⟨h3,h4⟩
   split
   ·have hk:k < s.length:=by omega
    rw [bf s k 0 hk,List.all_cons] at h4
    generalize bp (bI (s.getD k 0))=r at h4 ⊢
    refine ⟨by omega,?_⟩
    cases r with
    | false=>simpa using h4.symm
    | true=>
     simp only [Bool.not_true,Bool.false_eq_true,if_false]
     exact ⟨cp hk hlen,k+1,⟨by omega,by simpa using h4⟩,by omega,by omega⟩
   ·have hk:k=s.length:=by omega
    subst hk
    simpa using h4.symm
 ·rw [if_neg h0,if_pos (by omega)]
  simp [h1]
theorem Bf (s:Str) (hs:Wf .str s) :
  let A:=True/\false=di bw s/\True;let B:=(↑(List.length s):Int);let C:=(0:Int);let D:=s=s/\false=false/\B=B/\True;if decide (s=[])=true then A else if decide ((24:Int)<B)=true then A else (C<=C/\C<B)/\if (!bw (↑(UInt8.toNat (List.getD s (Int.toNat C) (0:UInt8))):Int))=true then A else (∃(x:Nat),(x<=List.length s/\di bw s=List.all (List.drop x s) fun (c:UInt8)=>bp (bI c))/\C=(↑x:Int)/\D)/\∀(x:Nat),let E:=(↑x:Int);(x<=List.length s/\di bw s=List.all (List.drop x s) fun (c:UInt8)=>bp (bI c))→if decide (E<B)=true then (C<=E/\E<B)/\if (!bp (↑(UInt8.toNat (List.getD s (Int.toNat E) (0:UInt8))):Int))=true then A else inR IntKind.i64 (E+(1:Int))/\∃(y:Nat),(y<=List.length s/\di bw s=List.all (List.drop y s) fun (c:UInt8)=>bp (bI c))/\List.length s - y<List.length s - x/\E+(1:Int)=(↑y:Int)/\D else True/\true=di bw s/\True:=by
 conv=>zeta
 have hlen:=hs.str
 have eb:∀b:UInt8,(b.toNat:Int)=bI b:=fun _=>rfl
 simp only [kI,Int.toNat_natCast,Int.toNat_zero,true_and,and_true,eb,di]
 generalize bw (bI (s.getD 0 0))=f0
 by_cases h0:s=[]
 ·simp [h0]
 have hpos:0 < s.length:=List.length_pos_iff.2 h0
 by_cases h1:s.length<=24
 ·rw [if_neg h0,if_neg (by omega)]
  refine ⟨by omega,?_⟩
  cases f0 with
  | false=>simp
  | true=>
   simp only [Bool.not_true,Bool.false_eq_true,if_false,h0,h1,decide_false,decide_true,Bool.not_false,Bool.true_and]
   refine ⟨⟨0,⟨by omega,rfl⟩,rfl⟩,?_⟩
   rintro k ⟨h3,h4⟩
   split
   ·have hk:k < s.length:=by omega
    rw [bf s k 0 hk,List.all_cons] at h4
    generalize bp (bI (s.getD k 0))=r at h4 ⊢
    refine ⟨by omega,?_⟩
    cases r with
    | false=>simpa using h4.symm
    | true=>
     simp only [Bool.not_true,Bool.false_eq_true,if_false]
     exact ⟨cp hk hlen,k+1,⟨by omega,by simpa using h4⟩,by omega,by omega⟩
   ·have hk:k=s.length:=by omega
    subst hk
    simpa using h4.symm
 ·rw [if_neg h0,if_pos (by omega)]
  simp [h1]
theorem Fx (s:Str)  :
  let A:=101;let B:=True/\true=iQ s/\True;if decide (s=([109,111,100,117,108,A]:Str))=true then B else if decide (s=([105,109,112,111,114,116]:Str))=true then B else if decide (s=([112,105,110]:Str))=true then B else if decide (s=([114,97,110,103,A]:Str))=true then B else if decide (s=([116,121,112,A]:Str))=true then B else if decide (s=([111,112,97,113,117,A]:Str))=true then B else if decide (s=([108,A,116]:Str))=true then B else if decide (s=([105,110]:Str))=true then B else if decide (s=([A,120,112,111,114,116]:Str))=true then B else if decide (s=([102,117,110]:Str))=true then B else if decide (s=([105,102]:Str))=true then B else if decide (s=([116,104,A,110]:Str))=true then B else if decide (s=([A,108,115,A]:Str))=true then B else if decide (s=([99,97,115,A]:Str))=true then B else if decide (s=([111,102]:Str))=true then B else if decide (s=([97,115]:Str))=true then B else if decide (s=([110,A,119]:Str))=true then B else if decide (s=([114,97,119]:Str))=true then B else if decide (s=([116,114,117,A]:Str))=true then B else if decide (s=([102,97,108,115,A]:Str))=true then B else True/\false=iQ s/\True:=by
 conv=>zeta
 refine a6 (fun h=>?_) (fun h0=>?_)
 ·rw [Xo h];exact ⟨trivial,rfl,trivial⟩
 refine a6 (fun h=>?_) (fun h1=>?_)
 ·rw [Xo h];exact ⟨trivial,rfl,trivial⟩
 refine a6 (fun h=>?_) (fun h2=>?_)
 ·rw [Xo h];exact ⟨trivial,rfl,trivial⟩
 refine a6 (fun h=>?_) (fun h3=>?_)
 ·rw [Xo h];exact ⟨trivial,rfl,trivial⟩
 refine a6 (fun h=>?_) (fun h4=>?_)
 ·rw [Xo h];exact ⟨trivial,rfl,trivial⟩
 refine a6 (fun h=>?_) (fun h5=>?_)
 ·rw [Xo h];exact ⟨trivial,rfl,trivial⟩
 refine a6 (fun h=>?_) (fun h6=>?_)
 ·rw [Xo h];exact ⟨trivial,rfl,trivial⟩
 refine a6 (fun h=>?_) (fun h7=>?_)
 ·rw [Xo h];exact ⟨trivial,rfl,trivial⟩
 refine a6 (fun h=>?_) (fun h8=>?_)
 ·rw [Xo h];exact ⟨trivial,rfl,trivial⟩
 refine a6 (fun h=>?_) (fun h9=>?_)
 ·rw [Xo h];exact ⟨trivial,rfl,trivial⟩
 refine a6 (fun h=>?_) (fun h10=>?_)
 ·rw [Xo h];exact ⟨trivial,rfl,trivial⟩
 refine a6 (fun h=>?_) (fun h11=>?_)
 ·rw [Xo h];exact ⟨trivial,rfl,trivial⟩
 refine a6 (fun h=>?_) (fun h12=>?_)
 ·rw [Xo h];exact ⟨trivial,rfl,trivial⟩
 refine a6 (fun h=>?_) (fun h13=>?_)
 ·rw [Xo h];exact ⟨trivial,rfl,trivial⟩
 refine a6 (fun h=>?_) (fun h14=>?_)
 ·rw [Xo h];exact ⟨trivial,rfl,trivial⟩
 refine a6 (fun h=>?_) (fun h15=>?_)
 ·rw [Xo h];exact ⟨trivial,rfl,trivial⟩
 refine a6 (fun h=>?_) (fun h16=>?_)
 ·rw [Xo h];exact ⟨trivial,rfl,trivial⟩
 refine a6 (fun h=>?_) (fun h17=>?_)
 ·rw [Xo h];exact ⟨trivial,rfl,trivial⟩
 refine a6 (fun h=>?_) (fun h18=>?_)
 ·rw [Xo h];exact ⟨trivial,rfl,trivial⟩
 refine a6 (fun h=>?_) (fun h19=>?_)
 ·rw [Xo h];exact ⟨trivial,rfl,trivial⟩
 refine ⟨trivial,?_,trivial⟩
 symm
 refine Xf fun hm=>?_
 unfold Gg at hm
 rcases List.mem_cons.1 hm with e | hm
 ·exact h0 (Xd e)
 rcases List.mem_cons.1 hm with e | hm
 ·exact h1 (Xd e)
 rcases List.mem_cons.1 hm with e | hm
 ·exact h2 (Xd e)
 rcases List.mem_cons.1 hm with e | hm
 ·exact h3 (Xd e)
 rcases List.mem_cons.1 hm with e | hm
 ·exact h4 (Xd e)
 rcases List.mem_cons.1 hm with e | hm
 ·exact h5 (Xd e)
 rcases List.mem_cons.1 hm with e | hm
 ·exact h6 (Xd e)
 rcases List.mem_cons.1 hm with e | hm
 ·exact h7 (Xd e)
 rcases List.mem_cons.1 hm with e | hm
 ·exact h8 (Xd e)
 rcases List.mem_cons.1 hm with e | hm
 ·exact h9 (Xd e)
 rcases List.mem_cons.1 hm with e | hm
 ·exact h10 (Xd e)
 rcases List.mem_cons.1 hm with e | hm
 ·exact h11 (Xd e)
 rcases List.mem_cons.1 hm with e | hm
 ·exact h12 (Xd e)
 rcases List.mem_cons.1 hm with e | hm
 ·exact h13 (Xd e)
 rcases List.mem_cons.1 hm with e | hm
 ·exact h14 (Xd e)
 rcases List.mem_cons.1 hm with e | hm
 ·exact h15 (Xd e)
 rcases List.mem_cons.1 hm with e | hm
 ·exact h16 (Xd e)
 rcases List.mem_cons.1 hm with e | hm
 ·exact h17 (Xd e)
 rcases List.mem_cons.1 hm with e | hm
 ·exact h18 (Xd e)
 rcases List.mem_cons.1 hm with e | hm
 ·exact h19 (Xd e)
 exact absurd hm List.not_mem_nil
theorem Fy (s:Str)  :
  if di bq s=true then True/\(!iQ s)=aQ s/\True else True/\false=aQ s/\True:=by
 unfold aQ;cases di bq s <;> simp
theorem DP (s:Str)  :
  True/\di bw s=dq s/\True:=by
 simp [dq]
theorem Bg (a:List Str) (v:Str) (ha:Wf (.lst .str) a) :
  let A:=(0:Int);let B:=(↑(List.length a):Int);let C:=a=a/\v=v/\B=B/\True;(∃(x:Nat),(x<=List.length a/\fD a v A=fD (List.drop x a) v (↑x:Int))/\A=(↑x:Int)/\C)/\∀(x:Nat),let D:=(↑x:Int);x<=List.length a/\fD a v A=fD (List.drop x a) v D→if decide (D<B)=true then (A<=D/\D<B)/\if decide (v=List.getD a (Int.toNat D) (dfl Ty.str))=true then True/\D=fD a v A/\True else inR IntKind.i64 (D+(1:Int))/\∃(y:Nat),(y<=List.length a/\fD a v A=fD (List.drop y a) v (↑y:Int))/\List.length a - y<List.length a - x/\D+(1:Int)=(↑y:Int)/\C else True/\(-1:Int)=fD a v A/\True:=by
 conv=>zeta
 have la:=ha.len
 simp only [Int.toNat_natCast,eq_self,true_and,and_true]
 refine ⟨⟨0,⟨by omega,by simp⟩,by simp⟩,?_⟩
 rintro k ⟨h1,h3⟩
 refine a6 (fun h=>?_) (fun h=>?_)
 ·replace h:=Xo h
  have hk:k < a.length:=by omega
  rw [bf a k (dfl .str) hk] at h3
  refine ⟨by omega,?_⟩
  by_cases e:a.getD k (dfl .str)=v
  ·rw [if_pos (by simpa using e.symm),h3,fD,if_pos e]
  ·rw [if_neg (by simpa using fun h=>e h.symm)]
   exact ⟨cp hk la,k+1,⟨by omega,by rw [h3,fD,if_neg e];rfl⟩,by omega,by omega⟩
 ·replace h:¬((k:Int) < (a.length:Int)):=fun e=>h (Xd e)
  have e:k=a.length:=by omega
  subst e;rw [h3];simp [fD]
theorem ua (a:List Str) (v:Str)  :
  True/\decide ((0:Int)<=fD a v (0:Int))=decide (v∈a)/\True:=by
 simp only [eq_self,true_and,and_true]
 rw [Bool.eq_iff_iff];simp [si a v 0 (by omega)]
theorem DQ (s:Str)  :
  let A:=True/\true=mi s/\True;if decide (s=([73,110,116]:Str))=true then A else if decide (s=([66,111,111,108]:Str))=true then A else if decide (s=([84,101,120,116]:Str))=true then A else True/\decide (s=([65,110,121]:Str))=mi s/\True:=by
 conv=>zeta
 simp only [eq_self,true_and,and_true,mi]
 by_cases a:s=[73,110,116] <;> by_cases b:s=[66,111,111,108] <;> by_cases c:s=[84,101,120,116] <;> by_cases d:s=[65,110,121] <;> simp [a,b,c,d]
theorem Bh (a:List Str)  :
  True/\a=a/\True:=by
 trivial
theorem DR (s:Shape) (hs:Wf (.st .shape) s) (ho:s.parts.length *16<=140737488355328) :
  let A:=(↑(List.length s.names):Int);let B:=True/\false=f5 s/\True;let C:=List.length s.names=List.length s.parts;let D:=s=s/\false=false/\s.names=s.names/\A=A/\s=s/\True;let E:=(List.mergeSort s.names fun (x y:Str)=>decide (x<=y));if (!decide (A=(↑(List.length s.parts):Int)))=true then B else (∃(x:Nat),(x<=List.length s.names/\C/\f5 s=(List.all (List.drop x s.names) aQ && decide (List.Nodup s.names)))/\(0:Int)=(↑x:Int)/\D)/\∀(x:Nat),let F:=(↑x:Int);x<=List.length s.names/\C/\f5 s=(List.all (List.drop x s.names) aQ && decide (List.Nodup s.names))→if decide (F<A)=true then ((0:Int)<=F/\F<A)/\if (!aQ (List.getD s.names (Int.toNat F) (dfl Ty.str)))=true then B else inR IntKind.i64 (F+(1:Int))/\∃(y:Nat),(y<=List.length s.names/\C/\f5 s=(List.all (List.drop y s.names) aQ && decide (List.Nodup s.names)))/\List.length s.names - y<List.length s.names - x/\F+(1:Int)=(↑y:Int)/\D else List.length s.names*(16:Nat)<=(140737488355328:Nat)/\List.length E=List.length E/\True/\decide ((↑(List.length (Lib.compact E)):Int)=A)=f5 s/\True:=by
 conv=>zeta
 have ln:=hs.names.len
 simp only [Int.toNat_natCast,eq_self,true_and,and_true]
 refine a6 (fun h=>?_) (fun h=>?_)
 ·have:s.names.length≠s.parts.length:=by simp at h;omega
  simp [f5,this]
 have hl:s.names.length=s.parts.length:=by simp at h;omega
 refine ⟨⟨0,⟨by omega,hl,by simp [f5,hl]⟩,rfl⟩,?_⟩
 rintro k ⟨h1,_,h3⟩
 refine a6 (fun h=>?_) (fun h=>?_)
 ·replace h:=Xo h
  have hk:k < s.names.length:=by omega
  rw [bf s.names k (dfl .str) hk] at h3
  refine ⟨by omega,?_⟩
  simp only [List.all_cons] at h3
  cases e:aQ (s.names.getD k (dfl .str))
  ·rw [e] at h3;rw [h3];simp
  ·simp only [e,Bool.true_and] at h3
   exact ⟨cp hk ln,k+1,⟨by omega,hl,h3⟩,by omega,by omega⟩
 ·replace h:¬((k:Int) < (s.names.length:Int)):=fun e=>h (Xd e)
  have e:k=s.names.length:=by omega
  subst e
  have hc:=kK s.names
  unfold fC at hc
  refine ⟨by omega,?_⟩
  rw [h3,List.drop_length]
  simp only [List.all_nil,Bool.true_and]
  rw [decide_eq_decide,←hc]
  omega
theorem Fz (s:Shape) (hs:Wf (.st .shape) s) (ho:s.parts.length *16<=140737488355328) :
  let A:=(0:Int);let B:=True;let C:=(↑(List.length s.parts):Int);let D:=B/\false=dA s/\B;let E:=if decide ((↑(List.length s.names):Int)=A)=true then B/\decide (C=A)=dA s/\B else D;let F:=if decide (s.name=[])=true then E else D;let G:=if decide (s.name=[])=true then List.length s.parts*(16:Nat)<=(140737488355328:Nat)/\B/\f5 s=dA s/\B else D;let H:=if aQ s.pkg=true then E else D;let I:=if decide (s.kind=(9:Int))=true then if dq s.name=true then if decide (s.pkg=[])=true then if (!mi s.name)=true then E else H else H else D else if decide (s.kind=(10:Int))=true then if dq s.name=true then H else D else D;if decide (s.pkg=[])=true then if decide (s.kind=(1:Int))=true then F else if decide (s.kind=(2:Int))=true then F else if decide (s.kind=(3:Int))=true then F else if decide (s.kind=(4:Int))=true then F else if decide (s.kind=(5:Int))=true then if decide (s.name=[])=true then if decide ((↑(List.length s.names):Int)=A)=true then B/\decide (C=(1:Int))=dA s/\B else D else D else if decide (s.kind=(6:Int))=true then G else if decide (s.kind=(7:Int))=true then G else if decide (s.kind=(8:Int))=true then if decide (s.name=[])=true then if decide ((↑(List.length s.names):Int)=A)=true then B/\decide (A<C)=dA s/\B else D else D else I else if decide (s.kind=(1:Int))=true then D else if decide (s.kind=(2:Int))=true then D else if decide (s.kind=(3:Int))=true then D else if decide (s.kind=(4:Int))=true then D else if decide (s.kind=(5:Int))=true then D else if decide (s.kind=(6:Int))=true then D else if decide (s.kind=(7:Int))=true then D else if decide (s.kind=(8:Int))=true then D else I:=by
 conv=>zeta
 have n0:((s.names.length:Int)=0)↔s.names=[]:=by rw [←List.length_eq_zero_iff];omega
 have p0:((s.parts.length:Int)=0)↔s.parts=[]:=by rw [←List.length_eq_zero_iff];omega
 have p1:((s.parts.length:Int)=1)↔s.parts.length=1:=by omega
 have p2:(0 < (s.parts.length:Int))↔¬s.parts=[]:=by rw [←List.length_eq_zero_iff];omega
 simp only [n0,p0,p1,p2,decide_eq_true_eq,true_and,and_true,ho]
 have hf:dA s=dA s:=rfl
 conv at hf=>rhs;unfold dA
 revert hf
 generalize dA s=F
 generalize f5 s=A
 generalize dq s.name=B
 generalize aQ s.pkg=C
 generalize mi s.name=D
 generalize s.kind=K
 intro hf
 repeat' (refine a6 (fun _=>?_) (fun _=>?_))
 all_goals (subst hf;simp_all)
theorem yf (n:Nat) (s:Shape) (hs:Wf (.st .shape) s) (hn:sz s<=n+1) (hb:n<=1000000) :
  let A:=True/\false=allS dA s/\True;let B:=(↑(List.length s.parts):Int);let C:=s=s/\false=false/\s.parts=s.parts/\B=B/\s=s/\True;let D:=dfl (Ty.st SN.shape);List.length s.parts*(16:Nat)<=(140737488355328:Nat)/\if (!dA s)=true then A else (∃(x:Nat),(x<=List.length s.parts/\allS dA s=allL dA (List.drop x s.parts))/\(0:Int)=(↑x:Int)/\C)/\∀(x:Nat),let E:=(↑x:Int);let F:=List.getD s.parts (Int.toNat E) D;x<=List.length s.parts/\allS dA s=allL dA (List.drop x s.parts)→if decide (E<B)=true then ((0:Int)<=E/\E<B)/\sz F<=n/\if (!allS dA F)=true then A else inR IntKind.i64 (E+(1:Int))/\∃(y:Nat),(y<=List.length s.parts/\allS dA s=allL dA (List.drop y s.parts))/\List.length s.parts - y<List.length s.parts - x/\E+(1:Int)=(↑y:Int)/\C else True/\true=allS dA s/\True:=by
 conv=>zeta
 have ln:=hs.parts.len
 have hz:=zR s
 have hl:=zS s.parts
 simp only [Int.toNat_natCast,eq_self,true_and,and_true]
 refine ⟨by omega,a6 (fun h=>?_) (fun h=>?_)⟩
 ·rw [tO];simp at h;simp [h]
 refine ⟨⟨0,⟨by omega,by rw [tO];simp at h;simp [h]⟩,rfl⟩,?_⟩
 rintro k ⟨h1,h3⟩
 refine a6 (fun h=>?_) (fun h=>?_)
 ·replace h:=Xo h
  have hk:k < s.parts.length:=by omega
  have hm:=tN (eU s.parts k (dfl (.st .shape)) hk)
  rw [bf s.parts k (dfl (.st .shape)) hk] at h3
  simp only [allL] at h3
  refine ⟨by omega,by omega,?_⟩
  cases e:allS dA (s.parts.getD k (dfl (.st .shape)))
  ·rw [e] at h3;rw [h3];simp
  ·simp only [e,Bool.true_and] at h3
   exact ⟨cp hk ln,k+1,⟨by omega,h3⟩,by omega,by omega⟩
 ·replace h:¬((k:Int) < (s.parts.length:Int)):=fun e=>h (Xd e)
  have e:k=s.parts.length:=by omega
  subst e
  rw [h3,List.drop_length];rfl
theorem FA (c:Int) (hc:0<=c/\c<=400) :
  let A:=(1:Int);let B:=c+A=c+A/\True;inR IntKind.i64 (c+A)/\if decide ((400:Int)<c+A)=true then decide ((400:Int)<c+A)=true/\B else decide ((400:Int)<c+A)=false/\B:=by
 conv=>zeta
 refine ⟨an (by omega) (by omega),a6 (fun h=>?_) (fun h=>?_)⟩
 ·exact ⟨h,rfl,trivial⟩
 ·exact ⟨by simpa using h,rfl,trivial⟩
theorem FB (n:Nat) (s:Shape) (l c:Int) (hs:Wf (.st .shape) s) (hn:sz s<=n+1) (hc:0<=c/\c<=400/\1<=l/\l<=c+1) :
  let A:=(0:Int);let B:=(400:Int);let C:=(1:Int);let D:=(↑(sz s):Int);let E:=decide (B<c+D)=true;let F:=(401:Int);let G:=l+C;let H:=s.parts=s.parts;let I:=(↑(List.length s.parts):Int);let J:=s=s/\True;let K:=dfl (Ty.st SN.shape);(A<=c/\c<=B)/\if decide (B<c+C)=true then E/\c+C=F/\True else (∃(x:Nat × Int),let L:=(↑(szL (List.take x.1 s.parts)):Int);(x.1<=List.length s.parts/\c+C+L<=B/\deepL (List.drop x.1 s.parts) G x.2=deepS s l)/\l=x.2/\A=(↑x.1:Int)/\s=s/\l=l/\A=A/\H/\I=I/\c+C=c+C+L/\J)/\∀(x:Nat × Int),let L:=(↑(szL (List.take x.1 s.parts)):Int);let M:=c+C+L<=B;let N:=(↑x.1:Int);let O:=List.getD s.parts (Int.toNat N) K;let P:=(↑(sz O):Int);x.1<=List.length s.parts/\M/\deepL (List.drop x.1 s.parts) G x.2=deepS s l→if decide (N<I)=true then (A<=N/\N<I)/\inR IntKind.i64 G/\(sz O<=n/\A<=c+C+L/\M/\C<=l+C/\l+C<=c+C+L+C)/\if decide (B<c+C+L+P)=true then E/\F=F/\True else inR IntKind.i64 (N+C)/\∃(y:Nat × Int),let Q:=(↑(szL (List.take y.1 s.parts)):Int);(y.1<=List.length s.parts/\c+C+Q<=B/\deepL (List.drop y.1 s.parts) G y.2=deepS s l)/\List.length s.parts - y.1<List.length s.parts - x.1/\max x.2 (deepS O G)=y.2/\N+C=(↑y.1:Int)/\s=s/\l=l/\A=A/\H/\I=I/\c+C+L+P=c+C+Q/\J else decide (B<c+D)=false/\x.2=deepS s l/\c+C+L=c+D/\True:=by
 conv=>zeta
 have ln:=hs.parts.len
 have hz:=zR s
 refine ⟨⟨hc.1,hc.2.1⟩,a6 (fun h=>?_) (fun h=>?_)⟩
 ·replace h:=Xo h
  have:=qq s
  exact ⟨Xd (by omega),by omega,trivial⟩
 replace h:¬(400:Int) < c+1:=fun e=>h (Xd e)
 have hd0:deepL s.parts (l+1) l=deepS s l:=by cases s;rfl
 refine ⟨⟨(0,l),⟨Nat.zero_le _,by simp [szL];omega,by simpa using hd0⟩,rfl,rfl,rfl,rfl,rfl,rfl,rfl,by simp [szL],rfl,trivial⟩,?_⟩
 rintro ⟨k,d⟩ ⟨h1,h2,h3⟩
 simp only [Int.toNat_natCast] at h1 h2 h3 ⊢
 have hc0:(0:Int)<=(szL (s.parts.take k):Int):=by omega
 refine a6 (fun hk=>?_) (fun hk=>?_)
 ·replace hk:=Xo hk
  have hk:k < s.parts.length:=by omega
  have hs1:=lQ s.parts k (dfl (.st .shape)) hk
  have hm:=tN (eU s.parts k (dfl (.st .shape)) hk)
  rw [bf s.parts k (dfl (.st .shape)) hk] at h3
  simp only [deepL] at h3
  have ht:=vr s.parts (k+1)
  refine ⟨by omega,an (by omega) (by omega),⟨by omega,by omega,h2,by omega,by omega⟩,a6 (fun h=>?_) (fun h=>?_)⟩
  ·replace h:=Xo h
   exact ⟨Xd (by omega),by trivial,by trivial⟩
  ·replace h:=fun e=>h (Xd e)
   replace h:¬(400:Int) < c+1+(szL (s.parts.take k):Int)+(sz (s.parts.getD k (dfl (.st .shape))):Int):=h
   exact ⟨cp hk ln,(k+1,_),⟨by omega,by simp only;omega,h3⟩,by simp only;omega,rfl,by simp only;omega,by trivial,by trivial,by trivial,by trivial,by trivial,by simp only;omega,by trivial,by trivial⟩
 ·replace hk:¬((k:Int) < (s.parts.length:Int)):=fun e=>hk (Xd e)
  have e:k=s.parts.length:=by omega
  subst e
  rw [List.take_length] at h2 ⊢
  rw [List.drop_length] at h3
  exact ⟨Xf (by omega),h3,by omega,trivial⟩
theorem DS (s:Shape) (hs:Wf (.st .shape) s) :
  let A:=(0:Int);let B:=(1:Int);let C:=(↑(sz s):Int);let D:=if sz s<=(400:Nat) then C else (401:Int);let E:=if sz s<=(400:Nat) then deepS s B else A;(sz s<=sz s/\A<=A/\A<=(400:Int)/\B<=B/\B<=A+B)/\if decide ((400:Int)<A+C)=true then ((401:Int)=D)/\(A=E)/\false=decide (sz s<=(400:Nat))/\True else (A+C=D)/\(deepS s B=E)/\true=decide (sz s<=(400:Nat))/\True:=by
 conv=>zeta
 refine ⟨by simp,a6 (fun h=>?_) (fun h=>?_)⟩
 ·replace h:=Xo h
  have h':¬sz s<=400:=by omega
  rw [if_neg h',if_neg h']
  exact ⟨rfl,rfl,by simp [h'],trivial⟩
 ·replace h:¬(400:Int) < 0+(sz s:Int):=fun e=>h (Xd e)
  have h':sz s<=400:=by omega
  rw [if_pos h',if_pos h']
  exact ⟨by omega,by trivial,by simp [h'],trivial⟩
theorem DT (s:Shape)  :
  let A:=True;if (!decide (sz s<=(400:Nat)))=true then A/\(3:Int)=dO s/\A else if decide ((40:Int)<if sz s<=(400:Nat) then deepS s (1:Int) else (0:Int))=true then A/\(91:Int)=dO s/\A else sz s<=(400:Nat)/\if (!allS dA s)=true then A/\(70:Int)=dO s/\A else A/\(0:Int)=dO s/\A:=by
 conv=>zeta
 unfold dO
 by_cases h1:sz s<=400
 ·rw [if_neg (by simp [h1]),if_pos h1,if_neg (show ¬400 < sz s by omega)]
  by_cases h2:(40:Int) < deepS s 1
  ·rw [if_pos (by simp [h2]),if_pos h2];exact ⟨trivial,rfl,trivial⟩
  ·rw [if_neg (by simp [h2]),if_neg h2]
   refine ⟨h1,?_⟩
   cases allS dA s <;> simp
 ·rw [if_pos (by simp [h1]),if_pos (show 400 < sz s by omega)];exact ⟨trivial,rfl,trivial⟩
theorem GK (s:Par)  :
  True/\(!decide (s.err=(0:Int)))=b9 s/\s=s/\True:=by
 simp only [b9];trivial
theorem FC (s:Par)  (ho:a8 s) :
  let A:=(↑(List.length s.toks):Int);let B:=(0:Int);let C:=dfl (Ty.st SN.token);let D:=s=s/\True;let E:=ao s;let F:=(1:Int);if decide (s.pos<A)=true then (B<=s.pos/\s.pos<A)/\True/\List.getD s.toks (Int.toNat s.pos) C=ao s/\D else if decide (A=B)=true then True/\B=E.kind/\[]=E.text/\B=E.pos/\D else inR IntKind.i64 (A - F)/\(B<=A - F/\A - F<A)/\True/\B=E.kind/\[]=E.text/\(List.getD s.toks (Int.toNat (A - F)) C).pos=E.pos/\D:=by
 conv=>zeta
 obtain ⟨g1,g2,g3⟩:=ho
 unfold ao eL
 refine a6 (fun h=>?_) (fun h=>?_)
 ·replace h:=Xo h
  rw [if_pos h]
  exact ⟨⟨g1,h⟩,trivial,rfl,rfl,trivial⟩
 ·replace h:¬s.pos < (s.toks.length:Int):=fun e=>h (Xd e)
  rw [if_neg h]
  refine a6 (fun k=>?_) (fun k=>?_)
  ·replace k:=Xo k
   rw [if_pos (by omega)]
   exact ⟨trivial,rfl,rfl,rfl,rfl,trivial⟩
  ·replace k:¬(s.toks.length:Int)=0:=fun e=>k (Xd e)
   rw [if_neg (by omega)]
   exact ⟨an (by omega) (by omega),⟨by omega,by omega⟩,trivial,rfl,rfl,rfl,rfl,trivial⟩
theorem FD (s:Par) (e:Int) (a:Int)  :
  let A:=cy e a s;if (!b9 s)=true then True/\s.toks=A.toks/\s.pos=A.pos/\e=A.err/\a=A.fat/\True else True/\s=cy e a s/\True:=by
 conv=>zeta
 unfold cy b9
 by_cases h:s.err=0
 ·simp [h]
 ·simp [h]
theorem H2 (s:Par) (t:Str)  (ho:a8 s) :
  let A:=ao s;let B:=s=s/\True;let C:=True/\false=isF t s/\B;let D:=if decide (A.text=t)=true then True/\(!b9 s)=isF t s/\B else C;a8 s/\if decide (A.kind=(6:Int))=true then D else if decide (A.kind=(5:Int))=true then D else C:=by
 conv=>zeta
 refine ⟨ho,?_⟩
 have e:isF t s=((decide ((ao s).kind=6) || decide ((ao s).kind=5)) && decide ((ao s).text=t) && !b9 s):=rfl
 rw [e]
 by_cases a:(ao s).kind=6 <;> by_cases b:(ao s).kind=5 <;> by_cases c:(ao s).text=t <;> simp [a,b,c]
theorem GL (s:Par) (t:Str)  (ho:a8 s) :
  let A:=cl t s;a8 s/\if (!isF t s)=true then True/\false=isF t s/\s=cl t s/\True else inR IntKind.i64 (s.pos+(1:Int))/\True/\true=isF t s/\s.toks=A.toks/\s.pos+(1:Int)=A.pos/\s.err=A.err/\s.fat=A.fat/\True:=by
 conv=>zeta
 refine ⟨ho,a6 (fun h=>?_) (fun h=>?_)⟩
 ·have h:isF t s=false:=by simpa using h
  rw [aL h,h];simp
 ·have h:isF t s=true:=by simpa using h
  have:=dP h
  have g:=ho
  unfold a8 at g
  rw [aF h,h]
  exact ⟨an (by omega) (by omega),trivial,rfl,rfl,rfl,rfl,rfl,trivial⟩
theorem FE (s:Par) (t:Str)  (ho:a8 s) :
  let A:=cl t s;a8 s/\if (!isF t s)=true then a8 A/\True/\cy (90:Int) (ao A).pos A=aj t s/\True else True/\cl t s=aj t s/\True:=by
 conv=>zeta
 refine ⟨ho,a6 (fun h=>?_) (fun h=>?_)⟩
 ·have h:isF t s=false:=by simpa using h
  rw [aL h]
  refine ⟨ho,trivial,?_,trivial⟩
  unfold aj;rw [h];rfl
 ·have h:isF t s=true:=by simpa using h
  rw [aF h]
  refine ⟨trivial,?_,trivial⟩
  unfold aj;rw [h];rfl
theorem FF (s:Par) (k:Int)  (ho:a8 s/\¬k=0) :
  let A:=b6 k s;let B:=True/\(0:Int)=A.1.kind/\[]=A.1.text/\(0:Int)=A.1.pos/\cy (90:Int) (ao s).pos s=A.2/\True;a8 s/\if (!decide ((ao s).kind=k))=true then B else if b9 s=true then B else inR IntKind.i64 (s.pos+(1:Int))/\True/\ao s=A.1/\s.toks=A.2.toks/\s.pos+(1:Int)=A.2.pos/\s.err=A.2.err/\s.fat=A.2.fat/\True:=by
 conv=>zeta
 obtain ⟨ho,hk⟩:=ho
 refine ⟨ho,a6 (fun h=>?_) (fun h=>?_)⟩
 ·have h:¬(ao s).kind=k:=by simpa using h
  unfold b6
  rw [if_neg (fun e=>h e.1)]
  exact ⟨trivial,rfl,rfl,rfl,rfl,trivial⟩
 ·have h:(ao s).kind=k:=by simpa using h
  refine a6 (fun b=>?_) (fun b=>?_)
  ·unfold b6
   rw [if_neg (fun e=>by rw [e.2] at b;cases b)]
   exact ⟨trivial,rfl,rfl,rfl,rfl,trivial⟩
  ·have b:b9 s=false:=by simpa using b
   have:=fF (l:=s.toks) (a:=s.pos) (by have:=h;unfold ao at this;rw [this];exact hk)
   have g:=ho
   unfold a8 at g
   unfold b6
   rw [if_pos ⟨h,b⟩]
   exact ⟨an (by omega) (by omega),trivial,rfl,rfl,rfl,rfl,rfl,trivial⟩
theorem DU (s:Par) (ns:List Str)  (ho:a8 s) (wns:Wf (.lst .str) ns) :
  let A:=(b6 (1:Int) s);let B:=bP ns s;let C:=A.1.text=B.1;let D:=True/\C/\A.2=B.2/\True;(a8 s/\¬(1:Int)=(0:Int))/\if (!b9 A.2)=true then if decide (A.1.text∈ns)=true then True/\C/\cy (111:Int) A.1.pos A.2=B.2/\True else D else D:=by
 conv=>zeta
 refine ⟨⟨ho,by decide⟩,?_⟩
 have e1:(bP ns s).1=(b6 1 s).1.text:=rfl
 have e2:(bP ns s).2=(if b9 (b6 1 s).2=false/\(b6 1 s).1.text∈ns then cy 111 (b6 1 s).1.pos (b6 1 s).2 else (b6 1 s).2):=rfl
 rw [e1,e2]
 refine a6 (fun h=>?_) (fun h=>?_)
 ·have h:b9 (b6 1 s).2=false:=by simpa using h
  refine a6 (fun m=>?_) (fun m=>?_)
  ·rw [if_pos ⟨h,Xo m⟩];exact ⟨trivial,rfl,rfl,trivial⟩
  ·rw [if_neg (fun e=>m (Xd e.2))];exact ⟨trivial,rfl,rfl,trivial⟩
 ·rw [if_neg (fun e=>h (by rw [e.1];rfl))];exact ⟨trivial,rfl,rfl,trivial⟩
theorem DV (p n:Str)  :
  let A:=True;let B:=mj p n;let C:=B.names=[]/\B.parts=[]/\A;let D:=[]=B.pkg/\[]=B.name/\C;let E:=A/\(9:Int)=B.kind/\p=B.pkg/\n=B.name/\C;if decide (p=[])=true then if decide (n=([73,110,116]:Str))=true then A/\(1:Int)=B.kind/\D else if decide (n=([66,111,111,108]:Str))=true then A/\(2:Int)=B.kind/\D else if decide (n=([84,101,120,116]:Str))=true then A/\(3:Int)=B.kind/\D else if decide (n=([65,110,121]:Str))=true then A/\(4:Int)=B.kind/\D else E else E:=by
 conv=>zeta
 unfold mj
 by_cases h:p=[]
 ·by_cases a:n=[73,110,116]
  ·simp [h,a]
  by_cases b:n=[66,111,111,108]
  ·simp [h,b]
  by_cases c:n=[84,101,120,116]
  ·simp [h,c]
  by_cases d:n=[65,110,121]
  ·simp [h,d]
  simp [h,a,b,c,d]
 ·simp [h]
theorem DW (n:Nat) (s:Par)  (ho:a8 s/\rem (aj [58] s) < n) :
  let A:=(aj ([58]:Str) s);let B:=ag n A;a8 s/\(a8 A/\rem A<n)/\True/\B.1=B.1/\B.2=B.2/\True:=by
 conv=>zeta
 exact ⟨ho.1,⟨(bF ho.1).good,ho.2⟩,trivial,rfl,rfl,trivial⟩
theorem Bi (n:Nat) (x:Shape) (s:Par) (hi:a8 s) (h0:s.err=0) (hn:rem s<=n) (hl:x.names.length+x.parts.length<=100000) :
  let A:=bP x.names s;let B:=(140737488355328:Nat);let C:=(aj ([58]:Str) A.2);let D:=List.length x.parts=List.length x.parts;let E:=(↑(List.length x.parts):Int);let F:=ap (ag n) x s;a8 s/\(List.length x.names=List.length x.names/\(List.length x.names+List.length [A.1])*(16:Nat)<=B)/\(a8 A.2/\rem C<n)/\(D/\(List.length x.parts+(1:Nat))*(88:Nat)<=B)/\E=E/\D/\D/\D/\True/\x.kind=F.1.kind/\x.pkg=F.1.pkg/\x.name=F.1.name/\x.names++[A.1]=F.1.names/\x.parts++[(ag n C).1]=F.1.parts/\(ag n C).2=F.2/\List.length (x.names++[A.1])=List.length F.1.names/\List.length x.parts+(1:Nat)=List.length F.1.parts/\True:=by
 conv=>zeta
 obtain ⟨g1,e1⟩:=jN (ns:=x.names) hi
 have g2:=bF (t:=[58]) g1.good
 have e2:=(e1.then g2).lt hn h0
 refine ⟨hi,⟨rfl,by simp only [List.length_singleton];omega⟩,⟨g1.good,e2⟩,⟨rfl,by omega⟩,rfl,rfl,rfl,rfl,trivial,rfl,rfl,rfl,rfl,rfl,rfl,rfl,?_,trivial⟩
 show _=(x.parts++[_]).length
 simp
theorem DX (n:Nat) (x:Shape) (s:Par) (hi:a8 s) (hn:rem s < n) (hl:x.parts.length<=100000) :
  let A:=List.length x.parts=List.length x.parts;let B:=(↑(List.length x.parts):Int);let C:=aw (ag n) x s;(a8 s/\rem s<n)/\(A/\(List.length x.parts+(1:Nat))*(88:Nat)<=(140737488355328:Nat))/\B=B/\A/\A/\A/\True/\x.kind=C.1.kind/\x.pkg=C.1.pkg/\x.name=C.1.name/\x.parts++[(ag n s).1]=C.1.parts/\List.length x.parts+(1:Nat)=List.length C.1.parts/\(ag n s).2=C.2/\True:=by
 conv=>zeta
 refine ⟨⟨hi,hn⟩,⟨rfl,by omega⟩,rfl,rfl,rfl,rfl,trivial,rfl,rfl,rfl,rfl,?_,rfl,trivial⟩
 show _=(x.parts++[_]).length
 simp
theorem DY (n:Nat) (b e:Str) (k:Int) (s:Par) (hi:a8 s) (hn:rem s<=n) :
  let A:=True;let B:=ag n;let C:=ap B;let D:=(ab b e C {kind:=k,pkg:=[],name:=[],names:=[],parts:=[]:Shape} s);let E:=(0:Nat);let F:=(5000:Nat);a8 s/\if isF e s=true then A/\cl e s=D.2/\k=D.1.kind/\[]=D.1.pkg/\[]=D.1.name/\D.1.names=[]/\D.1.parts=[]/\List.length D.1.names=E/\List.length D.1.parts=E/\A else (∃(x:Nat × Shape × Par),(a8 x.2.2/\rem x.2.2<x.1/\rem x.2.2<=n/\List.length x.2.1.names+x.1<=F/\List.length x.2.1.parts+x.1<=F/\bc b e C x.1 x.2.1 x.2.2=ab b e C {kind:=k,pkg:=[],name:=[],names:=[],parts:=[]:Shape} s)/\b=b/\e=e/\false=false/\cl e s=x.2.2/\k=x.2.1.kind/\[]=x.2.1.pkg/\[]=x.2.1.name/\x.2.1.names=[]/\x.2.1.parts=[]/\List.length x.2.1.names=E/\List.length x.2.1.parts=E/\A)/\∀(x:Nat × Shape × Par),let G:=a8 x.2.2;let H:=rem x.2.2<=n;let I:=ap B x.2.1 x.2.2;let J:=cl e I.2;G/\rem x.2.2<x.1/\H/\List.length x.2.1.names+x.1<=F/\List.length x.2.1.parts+x.1<=F/\bc b e C x.1 x.2.1 x.2.2=ab b e C {kind:=k,pkg:=[],name:=[],names:=[],parts:=[]:Shape} s→if (!b9 x.2.2)=true then (G/\x.2.2.err=(0:Int)/\H/\List.length x.2.1.names=List.length x.2.1.names/\List.length x.2.1.parts=List.length x.2.1.parts/\List.length x.2.1.names+List.length x.2.1.parts<=(100000:Nat))/\a8 I.2/\if isF e I.2=true then A/\cl e I.2=D.2/\I.1.kind=D.1.kind/\I.1.pkg=D.1.pkg/\I.1.name=D.1.name/\I.1.names=D.1.names/\I.1.parts=D.1.parts/\List.length I.1.names=List.length D.1.names/\List.length I.1.parts=List.length D.1.parts/\A else a8 J/\∃(y:Nat × Shape × Par),(a8 y.2.2/\rem y.2.2<y.1/\rem y.2.2<=n/\List.length y.2.1.names+y.1<=F/\List.length y.2.1.parts+y.1<=F/\bc b e C y.1 y.2.1 y.2.2=ab b e C {kind:=k,pkg:=[],name:=[],names:=[],parts:=[]:Shape} s)/\y.1<x.1/\b=b/\e=e/\false=false/\aj b J=y.2.2/\I.1.kind=y.2.1.kind/\I.1.pkg=y.2.1.pkg/\I.1.name=y.2.1.name/\I.1.names=y.2.1.names/\I.1.parts=y.2.1.parts/\List.length I.1.names=List.length y.2.1.names/\List.length I.1.parts=List.length y.2.1.parts/\A else A/\x.2.2=D.2/\x.2.1.kind=D.1.kind/\x.2.1.pkg=D.1.pkg/\x.2.1.name=D.1.name/\x.2.1.names=D.1.names/\x.2.1.parts=D.1.parts/\List.length x.2.1.names=List.length D.1.names/\List.length x.2.1.parts=List.length D.1.parts/\A:=by
 conv=>zeta
 have hl:=hi.2.2.1
 have hF:ab b e (ap (ag n)) ⟨k,[],[],[],[]⟩ s=if isF e s=true then (⟨k,[],[],[],[]⟩,aA s) else bc b e (ap (ag n)) (s.toks.length+2) ⟨k,[],[],[],[]⟩ s:=rfl
 have hrd:ek (ap (ag n)) n:=cM (b7 n)
 generalize ab b e (ap (ag n)) ⟨k,[],[],[],[]⟩ s=fin at hF ⊢
 refine ⟨hi,a6 (fun h=>?_) (fun h=>?_)⟩
 ·rw [if_pos h] at hF
  subst hF
  refine ⟨trivial,aF h,?_⟩
  exact Xr
 ·rw [if_neg h] at hF
  have h:isF e s=false:=by simpa using h
  rw [aL h]
  refine ⟨⟨(s.toks.length+2,⟨k,[],[],[],[]⟩,s),⟨hi,by show rem s < _;have h1:=hi.1;have h2:=hi.2.1;unfold rem;split <;> omega,hn,by show 0+_<=_;omega,by show 0+_<=_;omega,hF.symm⟩,by trivial,by trivial,by trivial,by trivial,?_⟩,?_⟩
  ·exact Xr
  rintro ⟨j,x,s1⟩ ⟨i1,i2,i3,l0,l1,i6⟩
  simp only at i1 i2 i3 l0 l1 i6 ⊢
  refine a6 (fun hb=>?_) (fun hb=>?_)
  ·have h0:s1.err=0:=dC.1 (by simpa using hb)
   obtain ⟨j,rfl⟩:∃m,j=m+1:=⟨j - 1,by omega⟩
   have hp:=cP h0
   obtain ⟨g,ea⟩:=hrd x s1 i1 h0 (by omega)
   have hbf:¬b9 s1=true:=by simp [b9,h0]
   simp only [bc,if_neg hbf] at i6
   refine ⟨⟨i1,h0,i3,by trivial,by trivial,by omega⟩,g.good,a6 (fun c=>?_) (fun c=>?_)⟩
   ·rw [if_pos c] at i6
    subst i6
    refine ⟨trivial,aF c,?_⟩
    exact Xr
   ·have c:isF e (ap (ag n) x s1).2=false:=by simpa using c
    rw [if_neg (by simp [c])] at i6
    rw [aL c]
    obtain ⟨n1,n2,n3,n4⟩:=fe hrd (btw:=b) (en:=e) (x:=x) i1 h0 (by omega) i2
    refine ⟨g.good,(j,(ap (ag n) x s1).1,aj b (ap (ag n) x s1).2),⟨n1,n4,n3,by show (x.names++[_]).length+j<=5000;simp only [List.length_append,List.length_singleton];omega,by show (x.parts++[_]).length+j<=5000;simp only [List.length_append,List.length_singleton];omega,i6⟩,by show j < j+1;omega,by trivial,by trivial,by trivial,by trivial,?_⟩
    exact Xr
  ·have h0:¬s1.err=0:=cb.1 (by simpa using hb)
   have hbf:b9 s1=true:=cb.2 h0
   have:(x,s1)=fin:=by
    rw [←i6]
    cases j with
    | zero=>rfl
    | succ j=>simp only [bc,if_pos hbf]
   subst this
   refine ⟨trivial,rfl,?_⟩
   exact Xr
theorem DZ (n:Nat) (b e:Str) (k:Int) (s:Par) (hi:a8 s) (hn:rem s < n) :
  let A:=True;let B:=ag n;let C:=aw B;let D:=(ab b e C {kind:=k,pkg:=[],name:=[],names:=[],parts:=[]:Shape} s);let E:=(5000:Nat);a8 s/\if isF e s=true then A/\cl e s=D.2/\k=D.1.kind/\[]=D.1.pkg/\[]=D.1.name/\D.1.parts=[]/\List.length D.1.parts=(0:Nat)/\A else (∃(x:Nat × Shape × Par),(a8 x.2.2/\rem x.2.2<x.1/\rem x.2.2<n/\List.length x.2.1.parts+x.1<=E/\x.2.1.names=[]/\bc b e C x.1 x.2.1 x.2.2=ab b e C {kind:=k,pkg:=[],name:=[],names:=[],parts:=[]:Shape} s)/\b=b/\e=e/\false=false/\cl e s=x.2.2/\k=x.2.1.kind/\[]=x.2.1.pkg/\[]=x.2.1.name/\x.2.1.parts=[]/\List.length x.2.1.parts=(0:Nat)/\A)/\∀(x:Nat × Shape × Par),let F:=a8 x.2.2;let G:=rem x.2.2<n;let H:=(aw B {kind:=x.2.1.kind,pkg:=x.2.1.pkg,name:=x.2.1.name,names:=[],parts:=x.2.1.parts:Shape} x.2.2);let I:=cl e H.2;F/\rem x.2.2<x.1/\G/\List.length x.2.1.parts+x.1<=E/\x.2.1.names=[]/\bc b e C x.1 x.2.1 x.2.2=ab b e C {kind:=k,pkg:=[],name:=[],names:=[],parts:=[]:Shape} s→if (!b9 x.2.2)=true then (F/\G/\List.length x.2.1.parts=List.length x.2.1.parts/\List.length x.2.1.parts<=(100000:Nat))/\a8 H.2/\if isF e H.2=true then A/\cl e H.2=D.2/\H.1.kind=D.1.kind/\H.1.pkg=D.1.pkg/\H.1.name=D.1.name/\H.1.parts=D.1.parts/\List.length H.1.parts=List.length D.1.parts/\A else a8 I/\∃(y:Nat × Shape × Par),(a8 y.2.2/\rem y.2.2<y.1/\rem y.2.2<n/\List.length y.2.1.parts+y.1<=E/\y.2.1.names=[]/\bc b e C y.1 y.2.1 y.2.2=ab b e C {kind:=k,pkg:=[],name:=[],names:=[],parts:=[]:Shape} s)/\y.1<x.1/\b=b/\e=e/\false=false/\aj b I=y.2.2/\H.1.kind=y.2.1.kind/\H.1.pkg=y.2.1.pkg/\H.1.name=y.2.1.name/\H.1.parts=y.2.1.parts/\List.length H.1.parts=List.length y.2.1.parts/\A else A/\x.2.2=D.2/\x.2.1.kind=D.1.kind/\x.2.1.pkg=D.1.pkg/\x.2.1.name=D.1.name/\x.2.1.parts=D.1.parts/\List.length x.2.1.parts=List.length D.1.parts/\A:=by
 conv=>zeta
 have hl:=hi.2.2.1
 have hF:ab b e (aw (ag n)) ⟨k,[],[],[],[]⟩ s=if isF e s=true then (⟨k,[],[],[],[]⟩,aA s) else bc b e (aw (ag n)) (s.toks.length+2) ⟨k,[],[],[],[]⟩ s:=rfl
 have hrd:ek (aw (ag n)) (n - 1):=g9 (by rw [Nat.sub_add_cancel (by omega)];exact b7 n)
 generalize ab b e (aw (ag n)) ⟨k,[],[],[],[]⟩ s=fin at hF ⊢
 refine ⟨hi,a6 (fun h=>?_) (fun h=>?_)⟩
 ·rw [if_pos h] at hF
  subst hF
  refine ⟨trivial,aF h,?_⟩
  exact Xr
 ·rw [if_neg h] at hF
  have h:isF e s=false:=by simpa using h
  rw [aL h]
  refine ⟨⟨(s.toks.length+2,⟨k,[],[],[],[]⟩,s),⟨hi,by show rem s < _;have h1:=hi.1;have h2:=hi.2.1;unfold rem;split <;> omega,hn,by show 0+_<=_;omega,rfl,hF.symm⟩,by trivial,by trivial,by trivial,by trivial,?_⟩,?_⟩
  ·exact Xr
  rintro ⟨j,x,s1⟩ ⟨i1,i2,i3,l0,ik,i6⟩
  simp only at i1 i2 i3 l0 ik i6 ⊢
  have ex:(⟨x.kind,x.pkg,x.name,[],x.parts⟩:Shape)=x:=by cases x;simp_all
  try rw [ex]
  refine a6 (fun hb=>?_) (fun hb=>?_)
  ·have h0:s1.err=0:=dC.1 (by simpa using hb)
   obtain ⟨j,rfl⟩:∃m,j=m+1:=⟨j - 1,by omega⟩
   have hp:=cP h0
   obtain ⟨g,ea⟩:=hrd x s1 i1 h0 (by omega)
   have hbf:¬b9 s1=true:=by simp [b9,h0]
   simp only [bc,if_neg hbf] at i6
   refine ⟨⟨i1,i3,by trivial,by omega⟩,g.good,a6 (fun c=>?_) (fun c=>?_)⟩
   ·rw [if_pos c] at i6
    subst i6
    refine ⟨trivial,aF c,?_⟩
    exact Xr
   ·have c:isF e (aw (ag n) x s1).2=false:=by simpa using c
    rw [if_neg (by simp [c])] at i6
    rw [aL c]
    obtain ⟨n1,n2,n3,n4⟩:=fe hrd (btw:=b) (en:=e) (x:=x) i1 h0 (by omega) i2
    refine ⟨g.good,(j,(aw (ag n) x s1).1,aj b (aw (ag n) x s1).2),⟨n1,n4,by show rem (aj b _) < n;omega,by show (x.parts++[_]).length+j<=5000;simp only [List.length_append,List.length_singleton];omega,ik,i6⟩,by show j < j+1;omega,by trivial,by trivial,by trivial,by trivial,?_⟩
    exact Xr
  ·have h0:¬s1.err=0:=cb.1 (by simpa using hb)
   have hbf:b9 s1=true:=cb.2 h0
   have:(x,s1)=fin:=by
    rw [←i6]
    cases j with
    | zero=>rfl
    | succ j=>simp only [bc,if_pos hbf]
   subst this
   refine ⟨trivial,rfl,?_⟩
   exact Xr
end Go.AL.Seat
end
