/- Plain facts. What the functions' conditions say, proved. No condition. -/
import Derived.Test.YtgackciebknbeaaGreatDoorT05
set_option linter.all false
set_option maxRecDepth 100000
section
namespace Go.Pd
open Go Go.AL
def Cw (ps:List Trm):Trm:=⟨0,[],[],0,[],[],[],ps,0⟩
def Bp:Trm:=⟨0,[],[],0,[],[],[],[],0⟩
def intM (z:Int) (ps:List Trm):Trm:=⟨1,[],[],z,[],[],[],ps,0⟩
def txtM (x:Str) (ps:List Trm):Trm:=⟨2,[],x,0,[],[],[],ps,0⟩
def zg (z:Int):Trm:=⟨7,[],[],0,[],[],[],[⟨5,[],[115,117,98],0,[],[],[],[],0⟩,⟨1,[],[],0,[],[],[],[],0⟩,⟨1,[],[],z,[],[],[],[],0⟩],0⟩
def qu (k z:Int) (x:Str) (ns:List Str) (ps:List Trm):Trm × Bool:=
 if k=1 then (if z < -999999999999999∨999999999999999 < z then (Cw ps,false) else if z < 0 then (zg (-z),true) else (intM z ps,true))
 else if k=2 then (txtM x ps,decide (bG (txtM x ps)=0))
 else if k=3 then (⟨if z=1 then 3 else 4,[],[],0,[],[],[],ps,0⟩,true)
 else if k=4 then (⟨11,[],[],0,[],[],[⟨4,[],[],[],[]⟩],ps,0⟩,true)
 else if k=5 then (⟨8,[],[],0,ns,[],[],ps,0⟩,true)
 else if k=6 then (⟨10,[],x,0,[],[],[],ps,0⟩,true)
 else (Cw ps,false)
def uz (k z:Int) (x:Str) (ns:List Str) (w:List Trm × Bool):Trm × Bool:=if w.2=true then qu k z x ns w.1 else (Cw w.1,false)
mutual
def madeF:Vlu→Trm × Bool
 | ⟨k,z,_,x,ns,ps⟩=>uz k z x ns (madeL ps [])
def madeL:List Vlu→List Trm→List Trm × Bool
 | [],out=>(out,true)
 | p ::r,out=>if (madeF p).2=true then madeL r (out++[(madeF p).1]) else (out,false)
end
theorem pb (v:Vlu):madeF v=uz v.kind v.n v.text v.names (madeL v.parts []):=by cases v;rw [madeF];try rfl
theorem uA:∀(ps:List Vlu) (out:List Trm),(madeL ps out).2=true→(madeL ps out).1=out++ps.map (fun p=>(madeF p).1)/\∀p∈ps,(madeF p).2=true
 | [],out,_=>by rw [madeL];simp
 | p ::r,out,h=>by
  rw [madeL] at h ⊢
  split at h
  ·rename_i c
   rw [if_pos c]
   obtain ⟨h1,h2⟩:=uA r _ h
   refine ⟨by rw [h1];simp,fun q hq=>?_⟩
   rcases List.mem_cons.1 hq with rfl | hq
   ·exact c
   ·exact h2 q hq
  ·cases h
mutual
def thingV:Vlu→Thg
 | ⟨k,z,g,x,ns,ps⟩=>⟨k,z,g,x,ns,thingL ps,none⟩
def thingL:List Vlu→List Thg
 | []=>[]
 | p ::r=>thingV p ::thingL r
end
mutual
def negV:Vlu→Nat
 | ⟨k,z,_,_,_,ps⟩=>(if k=1/\z < 0 then 1 else 0)+negL ps
def negL:List Vlu→Nat
 | []=>0
 | p ::r=>negV p+negL r
end
theorem Cx (v:Vlu):negV v=(if v.kind=1/\v.n < 0 then 1 else 0)+negL v.parts:=by cases v;rw [negV];try rfl
theorem qv (v:Vlu):thingV v=⟨v.kind,v.n,v.pkg,v.text,v.names,thingL v.parts,none⟩:=by cases v;rw [thingV];try rfl
mutual
theorem neg_le:∀v:Vlu,negV v<=szV v
 | ⟨k,z,g,x,ns,ps⟩=>by
  have:=negL_le ps
  rw [negV,szV]
  split <;> omega
theorem negL_le:∀l:List Vlu,negL l<=szVL l
 | []=>Nat.le_refl _
 | p ::r=>by
  have:=neg_le p
  have:=negL_le r
  rw [negL,szVL]
  omega
end
theorem l8:∀l:List Vlu,l.length<=szVL l
 | []=>Nat.le_refl _
 | p ::r=>by
  have:=fx p
  have:=l8 r
  rw [szVL,List.length_cons]
  omega
theorem pc:∀l:List Vlu,(thingL l).length=l.length
 | []=>rfl
 | p ::r=>by rw [thingL,List.length_cons,pc r,List.length_cons]
theorem uB {ev:Trm→Int→Option Ev}:∀(ps:List Vlu) (out:List Thg) (st:Int),0<=st→st+negL ps<=2000→
  (∀p∈ps,∀s:Int,0<=s→s+negV p<=2000→ev (madeF p).1 s=some ⟨⟨0,0⟩,thingV p,s+negV p⟩)→
  lQ ev (ps.map fun p=>(madeF p).1) out st=some ⟨⟨0,0⟩,out++thingL ps,st+negL ps⟩
 | [],out,st,_,_,_=>by
  rw [thingL,negL,List.append_nil]
  show some _=some _
  simp
 | p ::r,out,st,h0,h1,h=>by
  rw [negL] at h1
  rw [List.map_cons,lQ,h p (by simp) st h0 (by omega)]
  simp only [if_true]
  rw [uB r _ _ (by omega) (by omega) fun q hq=>h q (by simp [hq])]
  rw [thingL,negL]
  simp only [List.append_assoc,List.singleton_append,Xs,EvL.mk.injEq,true_and]
  omega
theorem Bq:findF ck [] [115,117,98]=some ⟨[],[115,117,98],yq ⟨none,[],[],none,[115,117,98],2⟩,du 2 none [97,100,100]⟩:=by
 simp [ck,jP,two,du,cA,iF]
theorem fy {n:Nat} {t:Trm} {p:Plc} {st:Int} (h0:0<=st) (h1:st<=2000):a7 2000 (n+1) t p st=xg (a7 2000 n) 2000 t p st:=by
 rw [a7,if_pos (show yr 2000 st from ⟨h0,h1,by decide⟩)]
theorem Br {n:Nat} {z st:Int} (hz:z < 0) (hl:-999999999999999<=z) (h0:0<=st) (h1:st+1<=2000):a7 2000 (n+2) (zg (-z)) lT st=some ⟨⟨0,0⟩,lP z,st+1⟩:=by
 rw [fy h0 (by omega)]
 have e1:xg (a7 2000 (n+1)) 2000 (zg (-z)) lT st=kY (an (fun x=>a7 2000 (n+1) x lT) (zg (-z)).parts st) (bw (a7 2000 (n+1)) 2000 0):=rfl
 have a1:a7 2000 (n+1) ⟨5,[],[115,117,98],0,[],[],[],[],0⟩ lT st=some ⟨⟨0,0⟩,yq ⟨none,[],[],none,[115,117,98],2⟩,st⟩:=by
  rw [fy h0 (by omega)]
  show Da (findF ck [] [115,117,98]) ⟨5,[],[115,117,98],0,[],[],[],[],0⟩ st=_
  rw [Bq]
  rfl
 have a2:∀q:Int,a7 2000 (n+1) ⟨1,[],[],q,[],[],[],[],0⟩ lT st=some ⟨⟨0,0⟩,lP q,st⟩:=fun q=>by
  rw [fy h0 (by omega)]
  rfl
 have a3:an (fun x=>a7 2000 (n+1) x lT) (zg (-z)).parts st=some ⟨⟨0,0⟩,[yq ⟨none,[],[],none,[115,117,98],2⟩,lP 0,lP (-z)],st⟩:=by
  have hlen:¬1000000 < (zg (-z)).parts.length:=by show ¬1000000 < 3;decide
  unfold an
  rw [if_neg hlen]
  show lQ _ [_,_,_] [] st=_
  simp only [lQ,a1,a2]
  rfl
 rw [e1,a3]
 show (if (0:Int)=0 then bw (a7 2000 (n+1)) 2000 0 [yq ⟨none,[],[],none,[115,117,98],2⟩,lP 0,lP (-z)] st else some ⟨⟨0,0⟩,oH,st⟩)=_
 rw [if_pos rfl]
 unfold bw
 rw [if_neg (fun q=>q.elim (fun q=>q ⟨h0,by omega,by decide⟩) (by simp)),if_pos ⟨rfl,rfl⟩,if_neg (by omega)]
 show Ah (okE (lP (tv (0 - (-z)))) 0) (st+1)=_
 have:tv (0 - (-z))=z:=by
  rw [show (0:Int) - (-z)=z by omega]
  rw [C7]
  split <;> omega
 rw [this]
 rfl
theorem qw:∀(N:Nat) (v:Vlu),szV v<=N→szV v<=2000→allV ai v=true→(madeF v).2=true→∀(n:Nat) (st:Int),N+2<=n→0<=st→st+negV v<=2000→
  a7 2000 n (madeF v).1 lT st=some ⟨⟨0,0⟩,thingV v,st+negV v⟩
 | 0,v,h,_,_,_,_,_,_,_,_=>absurd h (by have:=fx v;omega)
 | N+1,v,hN,hS,hf,hm,n,st,hn,h0,h1=>by
  obtain ⟨n,rfl⟩:∃k,n=k+2:=⟨n - 2,by omega⟩
  have hz:=jo v
  have hl:=l8 v.parts
  rw [allV_eq,Bool.and_eq_true,List.all_eq_true] at hf
  obtain ⟨hf,hfp⟩:=hf
  rw [Cx] at h1 ⊢
  rw [qv]
  rw [pb] at hm ⊢
  unfold uz at hm ⊢
  have hw:(madeL v.parts []).2=true:=by
   by_cases q:(madeL v.parts []).2=true
   ·exact q
   ·rw [if_neg q] at hm;cases hm
  rw [if_pos hw] at hm ⊢
  obtain ⟨hw1,hw2⟩:=uA _ _ hw
  rw [List.nil_append] at hw1
  have hparts:∀s:Int,0<=s→s+negL v.parts<=2000→an (fun x=>a7 2000 (n+1) x lT) (madeL v.parts []).1 s=some ⟨⟨0,0⟩,thingL v.parts,s+negL v.parts⟩:=fun s g0 g1=>by
   unfold an
   rw [hw1,List.length_map,if_neg (by omega)]
   have:=uB (ev:=fun x=>a7 2000 (n+1) x lT) v.parts [] s g0 g1 fun p hp s' k0 k1=>by
    have:=gq hp
    exact qw N p (by omega) (by omega) (hfp p hp) (hw2 p hp) (n+1) s' (by omega) k0 k1
   rw [this,List.nil_append]
  obtain ⟨k,z,g,x,ns,ps⟩:=v
  simp only [Vlu.kind,Vlu.n,Vlu.pkg,Vlu.text,Vlu.names,Vlu.parts] at *
  unfold qu at hm ⊢
  unfold ai qh lR at hf
  simp only [Vlu.kind,Vlu.n,Vlu.pkg,Vlu.text,Vlu.names,Vlu.parts] at hf
  by_cases c1:k=1
  ·subst c1
   simp only [if_true,Bool.and_eq_true,decide_eq_true_eq,true_and] at hf hm h1 ⊢
   obtain ⟨⟨⟨rfl,rfl⟩,b3⟩,b4⟩:=hf
   obtain rfl:=List.eq_nil_of_length_eq_zero b3
   obtain rfl:=List.eq_nil_of_length_eq_zero b4
   by_cases d:z < -999999999999999∨999999999999999 < z
   ·rw [if_pos d] at hm;cases hm
   rw [if_neg d] at hm ⊢
   simp only [negL,thingL] at h1 ⊢
   by_cases d2:z < 0
   ·rw [if_pos d2] at h1
    rw [if_pos d2,if_pos d2,Br d2 (by omega) h0 (by simpa using h1)]
    rfl
   ·rw [if_neg d2,if_neg d2,fy h0 (by simp [d2] at h1;omega)]
    simp only [Nat.add_zero,Int.natCast_zero,Int.add_zero]
    rfl
  rw [if_neg c1] at hm hf ⊢
  simp only [c1,false_and,if_false,Nat.zero_add] at h1 ⊢
  by_cases c2:k=2
  ·subst c2
   simp only [if_true,Bool.and_eq_true,decide_eq_true_eq] at hf hm ⊢
   obtain ⟨⟨⟨rfl,rfl⟩,b3⟩,b4⟩:=hf
   obtain rfl:=List.eq_nil_of_length_eq_zero b3
   obtain rfl:=List.eq_nil_of_length_eq_zero b4
   rw [fy h0 (by omega)]
   simp only [negL,thingL,Int.natCast_zero,Int.add_zero]
   rfl
  rw [if_neg c2] at hm hf ⊢
  by_cases c3:k=3
  ·subst c3
   simp only [if_true,Bool.and_eq_true,Bool.or_eq_true,decide_eq_true_eq] at hf hm ⊢
   obtain ⟨⟨⟨⟨rfl,rfl⟩,b3⟩,b4⟩,b5⟩:=hf
   obtain rfl:=List.eq_nil_of_length_eq_zero b3
   obtain rfl:=List.eq_nil_of_length_eq_zero b4
   rw [fy h0 (by omega)]
   simp only [negL,thingL,Int.natCast_zero,Int.add_zero]
   rcases b5 with rfl | rfl <;> rfl
  rw [if_neg c3] at hm hf ⊢
  by_cases c4:k=4
  ·subst c4
   simp only [if_true,Bool.and_eq_true,decide_eq_true_eq] at hf hm ⊢
   obtain ⟨⟨⟨rfl,rfl⟩,b3⟩,rfl⟩:=hf
   obtain rfl:=List.eq_nil_of_length_eq_zero b3
   rw [fy h0 (by omega)]
   show kY (an (fun x=>a7 2000 (n+1) x lT) (madeL ps []).1 st) (fun l st=>okE (vA 4 [] [] [] l) st)=_
   rw [hparts st h0 h1]
   rfl
  rw [if_neg c4] at hm hf ⊢
  by_cases c5:k=5
  ·subst c5
   simp only [if_true,Bool.and_eq_true,decide_eq_true_eq] at hf hm ⊢
   obtain ⟨⟨⟨⟨rfl,rfl⟩,rfl⟩,_⟩,_⟩:=hf
   rw [fy h0 (by omega)]
   show kY (an (fun x=>a7 2000 (n+1) x lT) (madeL ps []).1 st) (fun l st=>okE (vA 5 [] [] ns l) st)=_
   rw [hparts st h0 h1]
   rfl
  rw [if_neg c5] at hm hf ⊢
  by_cases c6:k=6
  ·subst c6
   simp only [if_true,Bool.and_eq_true,decide_eq_true_eq] at hf hm ⊢
   obtain ⟨⟨⟨⟨rfl,rfl⟩,b3⟩,_⟩,_⟩:=hf
   obtain rfl:=List.eq_nil_of_length_eq_zero b3
   rw [fy h0 (by omega)]
   show kY (an (fun x=>a7 2000 (n+1) x lT) (madeL ps []).1 st) (fun l st=>okE (vA 6 [] x [] l) st)=_
   rw [hparts st h0 h1]
   rfl
  rw [if_neg c6] at hm
  cases hm
theorem qx {td:Thg→Int→Option Td}:∀(ps out:List Vlu) (r:Int),(szVL ps:Int)<=r→
  (∀p∈ps,∀s:Int,(szV p:Int)<=s→s<=r→td (thingV p) s=some ⟨true,p,s - szV p⟩)→fe td (thingL ps) out r=some ⟨true,out++ps,r - szVL ps⟩
 | [],out,r,_,_=>by
  rw [thingL,fe,szVL]
  simp
 | p ::q,out,r,hr,h=>by
  rw [szVL] at hr
  rw [thingL,fe,h p (by simp) r (by omega) (Int.le_refl _)]
  simp only [if_true]
  rw [qx q _ _ (by omega) fun x hx s h1 h2=>h x (by simp [hx]) s h1 (by omega),szVL]
  simp only [List.append_assoc,List.singleton_append,Xs,TdL.mk.injEq,true_and]
  omega
theorem qy:∀(m:Nat) (v:Vlu) (r:Int),szV v<=m→(szV v:Int)<=r→r<=1000000→bD v=true→aP m (thingV v) r=some ⟨true,v,r - szV v⟩
 | 0,v,r,h,_,_,_=>absurd h (by have:=fx v;omega)
 | m+1,v,r,h,h1,h2,hf=>by
  have hz:=jo v
  have hl:=l8 v.parts
  unfold bD at hf
  rw [allV_eq,Bool.and_eq_true,List.all_eq_true] at hf
  have hn:=Xo hf.1
  rw [qv]
  simp only [aP]
  rw [if_neg (show ¬¬oJ r from fun q=>q ⟨by omega,h2⟩),if_neg (by omega)]
  have hno:¬(8796093022208 < v.names.length∨1000000 < (thingL v.parts).length):=by rw [pc];omega
  have hite:∀a:Option Td,(if 8796093022208 < (Thg.mk v.kind v.n v.pkg v.text v.names (thingL v.parts) none).names.length∨1000000 < (Thg.mk v.kind v.n v.pkg v.text v.names (thingL v.parts) none).parts.length then none else a)=a:=fun a=>if_neg hno
  rw [hite]
  show Option.map _ (fe (aP m) (thingL v.parts) [] (r - 1))=_
  rw [qx v.parts [] (r - 1) (by omega) fun p hp s g1 g2=>by
   have:=gq hp
   exact qy m p s (by omega) g1 (by omega) (hf.2 p hp)]
  rw [List.nil_append]
  show some (Td.mk true ⟨v.kind,v.n,v.pkg,v.text,v.names,v.parts⟩ (r - 1 - (szVL v.parts:Int)))=_
  have:(⟨v.kind,v.n,v.pkg,v.text,v.names,v.parts⟩:Vlu)=v:=by cases v;rfl
  rw [this]
  simp only [Xs,Td.mk.injEq,true_and]
  omega
theorem wD {m:Nat} {v:Vlu} {a:Int} (hm:2000 < m) (hc:fb v=0) (hf:bD v=true):bU m (thingV v) a=some ⟨⟨0,0⟩,v⟩:=by
 have hz:szV v<=2000:=by
  unfold fb at hc
  by_cases e:2000 < szV v
  ·rw [if_pos e] at hc;cases hc
  ·omega
 unfold bU
 rw [qy m v 2000 (by omega) (by omega) (by decide) hf]
 simp only [if_true]
 rw [if_pos hf,if_pos hc]
theorem zh {n m:Nat} {v:Vlu} (hn:2003<=n) (hm:2000 < m) (hc:fb v=0) (hf:bD v=true) (h2:(madeF v).2=true) (ht:bG (madeF v).1=0) :
  bk n m (madeF v).1 2000=some ⟨v,negV v,⟨0,0⟩⟩/\szV v<=2000:=by
 have hz:szV v<=2000:=by
  unfold fb at hc
  by_cases e:2000 < szV v
  ·rw [if_pos e] at hc;cases hc
  ·omega
 have ha:allV ai v=true:=by
  unfold fb at hc
  rw [if_neg (by omega)] at hc
  split at hc
  ·cases hc
  split at hc
  ·assumption
  ·cases hc
 have hg:=neg_le v
 refine ⟨?_,hz⟩
 rw [Dl ht (by decide) (by decide)]
 unfold bE
 rw [qw (szV v) v (Nat.le_refl _) hz ha h2 n 0 (by omega) (Int.le_refl _) (by omega),Option.bind_some]
 unfold Am
 rw [if_pos rfl,wD hm hc hf,Int.zero_add]
 rfl
theorem uC {v:Vlu} (hc:fb v=0):szV v<=2000:=by
 unfold fb at hc
 by_cases e:2000 < szV v
 ·rw [if_pos e] at hc;cases hc
 ·omega
def aW (v:Vlu):Trm × Int:=
 if ¬fb v=0 then (Bp,fb v)
 else if ¬(madeF v).2=true then (Bp,290)
 else if ¬bG (madeF v).1=0 then (Bp,if bG (madeF v).1=80 then 290 else bG (madeF v).1)
 else ((madeF v).1,0)
theorem eQ {t:Trm} (hn:t.names.length<=8796093022208) (hp:∀x∈t.parts,bj x=true):bj t=true:=by
 unfold bj at hp ⊢
 rw [n5,Bool.and_eq_true,jK,List.all_eq_true]
 exact ⟨Xd hn,hp⟩
theorem zi {k z:Int} {x:Str} {ns:List Str} {ps:List Trm} (hn:ns.length<=8796093022208) (hp:∀x∈ps,bj x=true):bj (qu k z x ns ps).1=true:=by
 unfold qu
 split
 ·split
  ·exact eQ (Nat.zero_le _) hp
  split
  ·rfl
  ·exact eQ (Nat.zero_le _) hp
 split
 ·exact eQ (Nat.zero_le _) hp
 split
 ·exact eQ (Nat.zero_le _) hp
 split
 ·exact eQ (Nat.zero_le _) hp
 split
 ·exact eQ hn hp
 split
 ·exact eQ (Nat.zero_le _) hp
 ·exact eQ (Nat.zero_le _) hp
theorem l9:∀(N:Nat) (v:Vlu),szV v<=N→bD v=true→bj (madeF v).1=true
 | 0,v,h,_=>absurd h (by have:=fx v;omega)
 | N+1,v,h,hf=>by
  have hz:=jo v
  unfold bD at hf
  rw [allV_eq,Bool.and_eq_true,List.all_eq_true] at hf
  have key:∀(ps:List Vlu) (out:List Trm),(∀p∈ps,bj (madeF p).1=true)→(∀x∈out,bj x=true)→∀x∈(madeL ps out).1,bj x=true:=by
   intro ps
   induction ps with
   | nil=>intro out _ ho;rw [madeL];exact ho
   | cons p r ih=>
    intro out hp ho
    rw [madeL]
    split
    ·exact ih _ (fun q hq=>hp q (by simp [hq])) fun x hx=>by
      rcases List.mem_append.1 hx with q | q
      ·exact ho x q
      ·rw [List.mem_singleton] at q;subst q;exact hp p (by simp)
    ·exact ho
  have hk:=key v.parts [] (fun p hp=>l9 N p (by have:=gq hp;omega) (hf.2 p hp)) (fun x hx=>by cases hx)
  rw [pb]
  unfold uz
  split
  ·exact zi (Xo hf.1) hk
  ·exact eQ (Nat.zero_le _) hk
end Go.Pd
end
section
open Go Go.AL Go.Pd
namespace Go.AL.Seat
theorem Bt (n:Nat) (v:Vlu) (hs:Wf (.st .val) v) (ho:szV v<=n+1/\szV v<=2000/\bD v=true) :
  (∃(x:Nat × List Trm),(x.1<=List.length v.parts/\List.length x.2=x.1/\List.all x.2 bj=true/\madeL (List.drop x.1 v.parts) x.2=madeL v.parts [])/\(0:Int)=(↑x.1:Int)/\v=v/\v.parts=v.parts/\(↑(List.length v.parts):Int)=(↑(List.length v.parts):Int)/\(0:Int)=(0:Int)/\bA UInt8=bA UInt8/\bA UInt8=bA UInt8/\(0:Int)=(0:Int)/\x.2=[]/\(0:Int)=(0:Int)/\List.length x.2=(0:Nat)/\v=v/\(0:Int)=(0:Int)/\bA UInt8=bA UInt8/\bA UInt8=bA UInt8/\(0:Int)=(0:Int)/\(0:Int)=(0:Int)/\True)/\∀(x:Nat × List Trm),x.1<=List.length v.parts/\List.length x.2=x.1/\List.all x.2 bj=true/\madeL (List.drop x.1 v.parts) x.2=madeL v.parts []→if decide ((↑x.1:Int) < (↑(List.length v.parts):Int))=true then ((0:Int)<=(↑x.1:Int)/\(↑x.1:Int) < (↑(List.length v.parts):Int))/\(szV (List.getD v.parts (Int.toNat (↑x.1:Int)) (dfl (Ty.st SN.val)))<=n/\szV (List.getD v.parts (Int.toNat (↑x.1:Int)) (dfl (Ty.st SN.val)))<=(2000:Nat)/\bD (List.getD v.parts (Int.toNat (↑x.1:Int)) (dfl (Ty.st SN.val)))=true)/\if (!(madeF (List.getD v.parts (Int.toNat (↑x.1:Int)) (dfl (Ty.st SN.val)))).2)=true then True/\(0:Int)=(madeF v).1.kind/\[]=(madeF v).1.pkg/\[]=(madeF v).1.name/\(0:Int)=(madeF v).1.n/\(madeF v).1.names=[]/\(madeF v).1.vars=[]/\(madeF v).1.shapes=[]/\x.2=(madeF v).1.parts/\(0:Int)=(madeF v).1.pos/\false=(madeF v).2/\True else (List.length x.2=List.length x.2/\(List.length x.2+List.length [(madeF (List.getD v.parts (Int.toNat (↑x.1:Int)) (dfl (Ty.st SN.val)))).1]) *(152:Nat)<=(140737488355328:Nat))/\inR IntKind.i64 ((↑x.1:Int)+(1:Int))/\∃(y:Nat × List Trm),(y.1<=List.length v.parts/\List.length y.2=y.1/\List.all y.2 bj=true/\madeL (List.drop y.1 v.parts) y.2=madeL v.parts [])/\List.length v.parts - y.1 < List.length v.parts - x.1/\(↑x.1:Int)+(1:Int)=(↑y.1:Int)/\v=v/\v.parts=v.parts/\(↑(List.length v.parts):Int)=(↑(List.length v.parts):Int)/\(0:Int)=(0:Int)/\bA UInt8=bA UInt8/\bA UInt8=bA UInt8/\(0:Int)=(0:Int)/\x.2++[(madeF (List.getD v.parts (Int.toNat (↑x.1:Int)) (dfl (Ty.st SN.val)))).1]=y.2/\(0:Int)=(0:Int)/\List.length (x.2++[(madeF (List.getD v.parts (Int.toNat (↑x.1:Int)) (dfl (Ty.st SN.val)))).1])=List.length y.2/\v=v/\(0:Int)=(0:Int)/\bA UInt8=bA UInt8/\bA UInt8=bA UInt8/\(0:Int)=(0:Int)/\(0:Int)=(0:Int)/\True else if decide (v.kind=(1:Int))=true then if decide (v.n < (-999999999999999:Int))=true then True/\(0:Int)=(madeF v).1.kind/\[]=(madeF v).1.pkg/\[]=(madeF v).1.name/\(0:Int)=(madeF v).1.n/\(madeF v).1.names=[]/\(madeF v).1.vars=[]/\(madeF v).1.shapes=[]/\x.2=(madeF v).1.parts/\(0:Int)=(madeF v).1.pos/\false=(madeF v).2/\True else if decide ((999999999999999:Int) < v.n)=true then True/\(0:Int)=(madeF v).1.kind/\[]=(madeF v).1.pkg/\[]=(madeF v).1.name/\(0:Int)=(madeF v).1.n/\(madeF v).1.names=[]/\(madeF v).1.vars=[]/\(madeF v).1.shapes=[]/\x.2=(madeF v).1.parts/\(0:Int)=(madeF v).1.pos/\false=(madeF v).2/\True else if decide (v.n < (0:Int))=true then inR IntKind.i64 ((0:Int) - v.n)/\True/\(7:Int)=(madeF v).1.kind/\[]=(madeF v).1.pkg/\[]=(madeF v).1.name/\(0:Int)=(madeF v).1.n/\(madeF v).1.names=[]/\(madeF v).1.vars=[]/\(madeF v).1.shapes=[]
  /\[{kind:=(5:Int),pkg:=[],name:=[(115:UInt8),(117:UInt8),(98:UInt8)],n:=(0:Int),names:=[],vars:=[],shapes:=[],parts:=[],pos:=(0:Int):Trm},{kind:=(1:Int),pkg:=[],name:=[],n:=(0:Int),names:=[],vars:=[],shapes:=[],parts:=[],pos:=(0:Int):Trm},{kind:=(1:Int),pkg:=[],name:=[],n:=(0:Int) - v.n,names:=[],vars:=[],shapes:=[],parts:=[],pos:=(0:Int):Trm}]=(madeF v).1.parts/\(0:Int)=(madeF v).1.pos/\true=(madeF v).2/\True else True/\(1:Int)=(madeF v).1.kind/\[]=(madeF v).1.pkg/\[]=(madeF v).1.name/\v.n=(madeF v).1.n/\(madeF v).1.names=[]/\(madeF v).1.vars=[]/\(madeF v).1.shapes=[]/\x.2=(madeF v).1.parts/\(0:Int)=(madeF v).1.pos/\true=(madeF v).2/\True else if decide (v.kind=(2:Int))=true then bj {kind:=(2:Int),pkg:=[],name:=v.text,n:=(0:Int),names:=[],vars:=[],shapes:=[],parts:=x.2,pos:=(0:Int):Trm}=true/\if (!decide (bG {kind:=(2:Int),pkg:=[],name:=v.text,n:=(0:Int),names:=[],vars:=[],shapes:=[],parts:=x.2,pos:=(0:Int):Trm}=(0:Int)))=true then True/\(2:Int)=(madeF v).1.kind/\[]=(madeF v).1.pkg/\v.text=(madeF v).1.name/\(0:Int)=(madeF v).1.n/\(madeF v).1.names=[]/\(madeF v).1.vars=[]/\(madeF v).1.shapes=[]/\x.2=(madeF v).1.parts/\(0:Int)=(madeF v).1.pos/\false=(madeF v).2/\True else True/\(2:Int)=(madeF v).1.kind/\[]=(madeF v).1.pkg/\v.text=(madeF v).1.name/\(0:Int)=(madeF v).1.n/\(madeF v).1.names=[]/\(madeF v).1.vars=[]/\(madeF v).1.shapes=[]/\x.2=(madeF v).1.parts/\(0:Int)=(madeF v).1.pos/\true=(madeF v).2/\True else if decide (v.kind=(3:Int))=true then if decide (v.n=(1:Int))=true then True/\(3:Int)=(madeF v).1.kind/\[]=(madeF v).1.pkg/\[]=(madeF v).1.name/\(0:Int)=(madeF v).1.n/\(madeF v).1.names=[]/\(madeF v).1.vars=[]/\(madeF v).1.shapes=[]/\x.2=(madeF v).1.parts/\(0:Int)=(madeF v).1.pos/\true=(madeF v).2/\True else True/\(4:Int)=(madeF v).1.kind/\[]=(madeF v).1.pkg/\[]=(madeF v).1.name/\(0:Int)=(madeF v).1.n/\(madeF v).1.names=[]/\(madeF v).1.vars=[]/\(madeF v).1.shapes=[]/\x.2=(madeF v).1.parts/\(0:Int)=(madeF v).1.pos/\true=(madeF v).2/\True else if decide (v.kind=(4:Int))=true then True/\(11:Int)=(madeF v).1.kind/\[]=(madeF v).1.pkg/\[]=(madeF v).1.name/\(0:Int)=(madeF v).1.n/\(madeF v).1.names=[]/\(madeF v).1.vars=[]/\[{kind:=(4:Int),pkg:=[],name:=[],names:=[],parts:=[]:Shape}]=(madeF v).1.shapes/\x.2=(madeF v).1.parts/\(0:Int)=(madeF v).1.pos/\true=(madeF v).2/\True else if decide (v.kind=(5:Int))=true then List.length v.names *(16:Nat)<=(140737488355328:Nat)/\True/\(8:Int)=(madeF v).1.kind/\[]=(madeF v).1.pkg/\[]=(madeF v).1.name/\(0:Int)=(madeF v).1.n/\v.names=(madeF v).1.names/\(madeF v).1.vars=[]/\(madeF v).1.shapes=[]/\x.2=(madeF v).1.parts/\(0:Int)=(madeF v).1.pos/\true=(madeF v).2/\True else if decide (v.kind=(6:Int))=true then True/\(10:Int)=(madeF v).1.kind/\[]=(madeF v).1.pkg/\v.text=(madeF v).1.name/\(0:Int)=(madeF v).1.n/\(madeF v).1.names=[]/\(madeF v).1.vars=[]/\(madeF v).1.shapes=[]/\x.2=(madeF v).1.parts/\(0:Int)=(madeF v).1.pos/\true=(madeF v).2/\True else True/\(0:Int)=(madeF v).1.kind/\[]=(madeF v).1.pkg/\[]=(madeF v).1.name/\(0:Int)=(madeF v).1.n/\(madeF v).1.names=[]/\(madeF v).1.vars=[]/\(madeF v).1.shapes=[]/\x.2=(madeF v).1.parts/\(0:Int)=(madeF v).1.pos/\false=(madeF v).2/\True:=by
 obtain ⟨h1,h0,h2⟩:=ho
 have ln:=hs.val_parts.len
 have hz:=jo v
 have hl:=l8 v.parts
 have hf:=h2
 unfold bD at hf
 rw [allV_eq,Bool.and_eq_true,List.all_eq_true] at hf
 have hn:=Xo hf.1
 refine ⟨⟨(0,[]),⟨Nat.zero_le _,rfl,rfl,by rw [List.drop_zero]⟩,(by repeat' (first | exact trivial | rfl | apply And.intro))⟩,?_⟩
 rintro ⟨k,out⟩ ⟨g1,g2,g3,g4⟩
 simp only [Int.toNat_natCast] at g1 g2 g3 g4 ⊢
 have hmF:madeF v=uz v.kind v.n v.text v.names (madeL (v.parts.drop k) out):=by rw [pb,g4]
 refine a8 (fun h=>?_) (fun h=>?_)
 ·have hk:k < v.parts.length:=by have:=Xo h;omega
  have hm:=gq (de v.parts k (dfl (.st .val)) hk)
  have hfp:bD (v.parts.getD k (dfl (.st .val)))=true:=hf.2 _ (de v.parts k (dfl (.st .val)) hk)
  rw [bf v.parts k (dfl (.st .val)) hk,madeL] at hmF g4
  refine ⟨⟨by omega,by omega⟩,⟨by omega,by omega,hfp⟩,a8 (fun c=>?_) (fun c=>?_)⟩
  ·have c:(madeF (v.parts.getD k (dfl (.st .val)))).2=false:=by simpa using c
   rw [if_neg (by rw [c];decide)] at hmF
   rw [show madeF v=(Cw out,false) from hmF]
   repeat' (first | exact trivial | rfl | apply And.intro)
  ·have c:(madeF (v.parts.getD k (dfl (.st .val)))).2=true:=by simpa using c
   rw [if_pos c] at g4
   refine ⟨⟨trivial,?_⟩,bV hk ln,(k+1,out++[(madeF (v.parts.getD k (dfl (.st .val)))).1]),⟨by omega,by simp [g2],?_,g4⟩,by simp only;omega,by simp only;omega,(by repeat' (first | exact trivial | rfl | apply And.intro))⟩
   ·simp only [List.length_singleton];omega
   ·rw [List.all_append,g3]
    simp only [List.all_cons,List.all_nil,Bool.and_true,Bool.true_and]
    exact l9 _ _ (Nat.le_refl _) hfp
 have e:k=v.parts.length:=by have q:¬_:=fun q=>h (Xd q);omega
 subst e
 rw [List.drop_length,madeL] at hmF
 have hmF:madeF v=qu v.kind v.n v.text v.names out:=hmF
 rw [hmF]
 unfold qu
 refine a8 (fun c1=>?_) (fun c1=>?_)
 ·rw [if_pos (Xo c1)]
  refine a8 (fun c=>?_) (fun c=>?_)
  ·rw [if_pos (Or.inl (Xo c))]
   repeat' (first | exact trivial | rfl | apply And.intro)
  refine a8 (fun d=>?_) (fun d=>?_)
  ·rw [if_pos (Or.inr (Xo d))]
   repeat' (first | exact trivial | rfl | apply And.intro)
  have c:¬v.n < -999999999999999:=fun q=>c (Xd q)
  have d:¬999999999999999 < v.n:=fun q=>d (Xd q)
  rw [if_neg (show ¬(v.n < -999999999999999∨999999999999999 < v.n) from fun q=>q.elim c d)]
  refine a8 (fun f=>?_) (fun f=>?_)
  ·rw [if_pos (Xo f),show -v.n=0 - v.n by omega]
   exact ⟨bM (by omega) (by omega),(by repeat' (first | exact trivial | rfl | apply And.intro))⟩
  ·rw [if_neg (show ¬v.n < 0 from fun q=>f (Xd q))]
   repeat' (first | exact trivial | rfl | apply And.intro)
 rw [if_neg (fun q=>c1 (Xd q))]
 refine a8 (fun c2=>?_) (fun c2=>?_)
 ·rw [if_pos (Xo c2)]
  refine ⟨eQ (Nat.zero_le _) (List.all_eq_true.1 g3),a8 (fun c=>?_) (fun c=>?_)⟩
  ·refine ⟨trivial,rfl,rfl,rfl,rfl,rfl,rfl,rfl,rfl,rfl,?_,trivial⟩
   exact (Xf (ej c)).symm
  ·refine ⟨trivial,rfl,rfl,rfl,rfl,rfl,rfl,rfl,rfl,rfl,?_,trivial⟩
   exact (Xd (eK c)).symm
 rw [if_neg (fun q=>c2 (Xd q))]
 refine a8 (fun c3=>?_) (fun c3=>?_)
 ·rw [if_pos (Xo c3)]
  refine a8 (fun c=>?_) (fun c=>?_)
  ·rw [if_pos (Xo c)]
   repeat' (first | exact trivial | rfl | apply And.intro)
  ·rw [if_neg (fun q=>c (Xd q))]
   repeat' (first | exact trivial | rfl | apply And.intro)
 rw [if_neg (fun q=>c3 (Xd q))]
 refine a8 (fun c4=>?_) (fun c4=>?_)
 ·rw [if_pos (Xo c4)]
  repeat' (first | exact trivial | rfl | apply And.intro)
 rw [if_neg (fun q=>c4 (Xd q))]
 refine a8 (fun c5=>?_) (fun c5=>?_)
 ·rw [if_pos (Xo c5)]
  exact ⟨by omega,(by repeat' (first | exact trivial | rfl | apply And.intro))⟩
 rw [if_neg (fun q=>c5 (Xd q))]
 refine a8 (fun c6=>?_) (fun c6=>?_)
 ·rw [if_pos (Xo c6)]
  repeat' (first | exact trivial | rfl | apply And.intro)
 rw [if_neg (fun q=>c6 (Xd q))]
 repeat' (first | exact trivial | rfl | apply And.intro)
theorem Bu (v:Vlu) (hs:Wf (.st .val) v) (ho:bD v=true) :
  bD v=true/\if (!decide (fb v=(0:Int)))=true then True/\(0:Int)=(aW v).1.kind/\[]=(aW v).1.pkg/\[]=(aW v).1.name/\(0:Int)=(aW v).1.n/\(aW v).1.names=[]/\(aW v).1.vars=[]/\(aW v).1.shapes=[]/\(aW v).1.parts=[]/\(0:Int)=(aW v).1.pos/\fb v=(aW v).2/\True else (szV v<=szV v/\szV v<=(2000:Nat)/\bD v=true)/\if (!(madeF v).2)=true then True/\(0:Int)=(aW v).1.kind/\[]=(aW v).1.pkg/\[]=(aW v).1.name/\(0:Int)=(aW v).1.n/\(aW v).1.names=[]/\(aW v).1.vars=[]/\(aW v).1.shapes=[]/\(aW v).1.parts=[]/\(0:Int)=(aW v).1.pos/\(290:Int)=(aW v).2/\True else bj (madeF v).1=true/\if (!decide (bG (madeF v).1=(0:Int)))=true then if decide (bG (madeF v).1=(80:Int))=true then True/\(0:Int)=(aW v).1.kind/\[]=(aW v).1.pkg/\[]=(aW v).1.name/\(0:Int)=(aW v).1.n/\(aW v).1.names=[]/\(aW v).1.vars=[]/\(aW v).1.shapes=[]/\(aW v).1.parts=[]/\(0:Int)=(aW v).1.pos/\(290:Int)=(aW v).2/\True else True/\(0:Int)=(aW v).1.kind/\[]=(aW v).1.pkg/\[]=(aW v).1.name/\(0:Int)=(aW v).1.n/\(aW v).1.names=[]/\(aW v).1.vars=[]/\(aW v).1.shapes=[]/\(aW v).1.parts=[]/\(0:Int)=(aW v).1.pos/\bG (madeF v).1=(aW v).2/\True else True/\(madeF v).1=(aW v).1/\(0:Int)=(aW v).2/\True:=by
 have few:=l9 (szV v) v (Nat.le_refl _) ho
 unfold aW
 refine ⟨ho,a8 (fun c=>?_) (fun c=>?_)⟩
 ·rw [if_pos (show ¬fb v=0 from ej c)]
  repeat' (first | exact trivial | rfl | apply And.intro)
 rw [if_neg (show ¬¬fb v=0 from fun q=>q (eK c))]
 refine ⟨⟨Nat.le_refl _,uC (eK c),ho⟩,a8 (fun c2=>?_) (fun c2=>?_)⟩
 ·rw [if_pos (show ¬(madeF v).2=true from fun q=>by rw [q] at c2;exact absurd c2 (by decide))]
  repeat' (first | exact trivial | rfl | apply And.intro)
 have c2:(madeF v).2=true:=by simpa using c2
 rw [if_neg (show ¬¬(madeF v).2=true from fun q=>q c2)]
 refine ⟨few,a8 (fun c3=>?_) (fun c3=>?_)⟩
 ·rw [if_pos (show ¬bG (madeF v).1=0 from ej c3)]
  refine a8 (fun c4=>?_) (fun c4=>?_)
  ·rw [if_pos (Xo c4)]
   repeat' (first | exact trivial | rfl | apply And.intro)
  ·rw [if_neg (fun q=>c4 (Xd q))]
   repeat' (first | exact trivial | rfl | apply And.intro)
 ·rw [if_neg (show ¬¬bG (madeF v).1=0 from fun q=>q (eK c3))]
  repeat' (first | exact trivial | rfl | apply And.intro)
theorem Bv (v:Vlu) (hs:Wf (.st .val) v) :
  True/\((if szV v<=(2000:Nat) then (↑(szV v):Int) else (2001:Int))=if szV v<=(2000:Nat) then (↑(szV v):Int) else (2001:Int))/\True:=by
 repeat' (first | exact trivial | rfl | apply And.intro)
theorem mM (n m:Nat) (v:Vlu) (hs:Wf (.st .val) v) (hf:bD v=true) (hq:(aW v).2=0→bj (aW v).1=true/\szV v<=2000/\∃s,bk n m (aW v).1 2000=some ⟨v,s,⟨0,0⟩⟩) :
  bD v=true/\if (!decide ((aW v).2=(0:Int)))=true then True/\true=true/\True else (bj (aW v).1=true/\Option.isSome (bk n m (aW v).1 (2000:Int))=true)/\if decide ((aR (bk n m (aW v).1 (2000:Int))).f.err=(292:Int))=true then if decide ((1000:Int) < if szV v<=(2000:Nat) then (↑(szV v):Int) else (2001:Int))=true then True/\true=true/\True else True/\false=true/\True else if decide ((aR (bk n m (aW v).1 (2000:Int))).f.err=(0:Int))=true then (v=(aR (bk n m (aW v).1 (2000:Int))).v/\szV v<=(2000:Nat))/\True/\true=true/\True else True/\false=true/\True:=by
 refine ⟨hf,a8 (fun c=>(by repeat' (first | exact trivial | rfl | apply And.intro))) (fun c=>?_)⟩
 obtain ⟨h1,h2,s,h3⟩:=hq (eK c)
 rw [h3,gU]
 refine ⟨⟨h1,rfl⟩,a8 (fun q=>absurd (Xo q) (by show ¬(0:Int)=292;decide)) (fun _=>a8 (fun _=>⟨⟨rfl,h2⟩,(by repeat' (first | exact trivial | rfl | apply And.intro))⟩) (fun q=>absurd (Xd rfl) q))⟩
end Go.AL.Seat
end
section
open Go Go.AL Go.Proofs Go.Shelf Go.Pd
namespace Go.AL.Seat
variable [Tabs]
variable [SeatLaid] [SeatPow]
theorem uD:aq Tryz.prog 22:=ee Tryz.func22
theorem uE (n:Nat) (v:Vlu) (hs:Wf (.st .val) v) (ho:szV v<=n+1/\szV v<=2000/\bD v=true) (hA:ag Tryz.prog 22 (p1 (.st .val) fun v=>⟨some (szV v<=n/\szV v<=2000/\bD v=true),none,.tup [.st .term (madeF v).1,.bool (madeF v).2],[]⟩)):ao Tryz.prog 22 [.st .val v] [] (⟨some (szV v<=n+1/\szV v<=2000/\bD v=true),none,.tup [.st .term (madeF v).1,.bool (madeF v).2],[]⟩):=
 g0 (sc (hA) (sc (qj) (sc (iG) sn))) ⟨[(3,fun S0=>⟨Nat × List Trm,fun x=>x.1<=v.parts.length/\x.2.length=x.1/\x.2.all bj=true/\madeL (v.parts.drop x.1) x.2=madeL v.parts [],fun x=>[(13,.int .i64 x.1)],fun x=>[(4,.box (.agg [.int .i64 0,.str [],.str [],.int .i64 0,.nils,.nils,.nils,.lst (.st .term) x.2 (some 701),.int .i64 0])),(701,.tail (.st .term) x.2.length)],fun x=>v.parts.length - x.1⟩)],[],[]⟩ Tryz.func22 (Bt n v hs ho)
theorem kd:∀n:Nat,ag Tryz.prog 22 (p1 (.st .val) fun v=>⟨some (szV v<=n/\szV v<=2000/\bD v=true),none,.tup [.st .term (madeF v).1,.bool (madeF v).2],[]⟩)
 | 0=>bO uD fun v _ ho=>absurd (ho _ rfl).1 (by have:=fx v;omega)
 | n+1=>bO uD fun v hs ho=>uE n v hs (ho _ rfl) (kd n)
theorem zj:ag Tryz.prog 10 (p1 (.st .val) fun v=>⟨some (bD v=true),none,.tup [.st .term (aW v).1,.int .i64 (aW v).2],[]⟩):=
 bO (ee Tryz.func10) fun v hs ho=>g0 (sc (oT) (sc (kd (szV v)) (sc (iG) sn))) a0 Tryz.func10 (Bu v hs (ho _ rfl))
theorem zk:ag Tryz.prog 11 (p1 (.st .val) fun v=>.ret (.int .i64 (if szV v<=2000 then (szV v:Int) else 2001))):=
 bO (ee Tryz.func11) fun v hs _=>g0 (sc oR sn) a0 Tryz.func11 (Bv v hs)
theorem kA (n m:Nat) (v:Vlu) (hs:Wf (.st .val) v) (hf:bD v=true) (hq:(aW v).2=0→bj (aW v).1=true/\szV v<=2000/\∃s,bk n m (aW v).1 2000=some ⟨v,s,⟨0,0⟩⟩) (hR:ag Tryz.prog 8 (p2 (.st .term) (.int .i64) fun t k=>⟨some (bj t=true/\(bk n m t k).isSome=true),none,.tup [.st .val (aR (bk n m t k)).v,.int .i64 (aR (bk n m t k)).st,.st .fault (aR (bk n m t k)).f],[]⟩)):ao Tryz.prog 4 [.st .val v] [] (.ret (.bool true)):=
 g0 (sc (uw) (sc (zj) (sc (hR) (sc zk (sc (iN 2000) sn))))) a0 Tryz.func4 (mM n m v hs hf hq)
end Go.AL.Seat
end
noncomputable section
namespace Go.AL.Seat
open Go Go.AL Go.Proofs Go.Pd
variable [Tabs] [SeatLaid] [SeatPow]
theorem Bw {v:Vlu} (h:(aW v).2=0):fb v=0/\(madeF v).2=true/\bG (madeF v).1=0/\(aW v).1=(madeF v).1:=by
 unfold aW at h ⊢
 by_cases a:fb v=0
 ·rw [if_neg (show ¬¬fb v=0 from fun q=>q a)] at h ⊢
  by_cases b:(madeF v).2=true
  ·rw [if_neg (show ¬¬(madeF v).2=true from fun q=>q b)] at h ⊢
   by_cases c:bG (madeF v).1=0
   ·rw [if_neg (show ¬¬bG (madeF v).1=0 from fun q=>q c)]
    exact ⟨a,b,c,rfl⟩
   ·rw [if_pos c] at h
    exfalso
    by_cases d:bG (madeF v).1=80
    ·simp [d] at h
    ·simp [d,c] at h
  ·rw [if_pos b] at h;cases h
 ·rw [if_pos a] at h;exact absurd h a
theorem sa {v:Vlu} (hs:Wf (.st .val) v) (hf:bD v=true):ao Tryz.prog 4 [.st .val v] [] (.ret (.bool true)):=
 kA 2003 2001 v hs hf (fun h=>by
  obtain ⟨a,b,c,e⟩:=Bw h
  rw [e]
  exact ⟨l9 _ v (Nat.le_refl _) hf,uC a,_,(zh (by decide) (by decide) a hf b c).1⟩) (ur _ _)
end Go.AL.Seat
end
section
namespace Go.Proofs.YtgackciebknbeaaGreatDoor.JEvalValues
open Go.AL Go.AL.Seat Go.Pd Go.ChangeShapes Go.WideShapes Go.RowKit Go.Proofs.YtgackciebknbeaaGreatDoor.Join
set_option maxRecDepth 1000000
theorem par:Tryz.f4.params=#[32]:=by kernel_rfl
theorem res:Tryz.f4.resultTypes=#[4]:=by kernel_rfl
theorem spec {H:Type} (ds:List (DataW H)) (hd:ds.length=1):Rows.evalValuesSpec.fn H ds={results:=[.lit (.bool true)],args:=ds}:=by
 match ds,hd with
 | [d0],_=>rfl
theorem Bx (H:Type) (enc:TypeId × Value→H) (W:World) (base:Nat) (args:Array Value) (ds gs:List (DataW H)) (before:List MemPlace)
  (hval:∀(j:Nat) t v,Tryz.f4.params[j]?=some t→args[j]?=some v→Value.okWide Tryz.prog W .any base t v)
  (hW:DataW.Whole enc Tryz.prog Tryz.f4.params.toList Rows.evalValuesSpec.vars false W args.toList ds gs before) (hwt:(DataW.weightsEach Tryz.prog (Tryz.f4.params.toList++(OpenSpec.ofChange Rows.evalValuesSpec).bare.plain.varTypes Tryz.prog) (ds++gs)).all (·<=reachBytes)=true) (hL:laidMet Tryz.prog laid W) (hsh:W.ShapedOpen Tryz.prog) :
  Calls Tryz.prog 4 args W fun e W'=>∃v,e=.returned v/\Rows.evalValuesSpec.post enc Tryz.prog Tryz.f4 false true false false W args v W':=by
 letI:Tabs:=jj W
 haveI:SeatLaid:=Ad hL hsh
 haveI:SeatPow:=BZ hL
 have hW':=hW
 obtain ⟨p,q,hA,hV,_,_,_⟩:=hW
 rw [par] at hA hval
 obtain ⟨v0,vs0,d0,ds0,p0,q0,hargs0,rfl,rfl,h0,r0⟩:=trodAll_cons hA
 obtain ⟨rfl,rfl,rfl⟩:=trodAll_nil r0
 obtain rfl:args=#[v0]:=by
  have:=congrArg List.toArray hargs0
  simpa using this
 obtain ⟨x0,hx0,hq0⟩:=Ar (vz Tryz.prog) DV (hval 0 32 v0 rfl rfl) h0 (fun n hn=>Xo (List.all_eq_true.1 hwt n (iE (i:=0) (t:=32) (by rw [par];rfl) rfl n hn)))
 refine (yb (sa ⟨_,_,hx0⟩ hq0) (fun b o v h=>h.2) (fun b x h=>h.2) (VL.cons hx0 .nil)).mono fun e W' ⟨he,hb⟩=>?_
 subst he
 refine ⟨_,rfl,zZ (tb:=4) BX (fun t ht=>?_) rfl (fun ds hd=>spec ds ?_) res undB hW' hb⟩
 ·rw [par] at ht
  have ht:t∈[32]:=ht
  simp only [List.mem_cons,List.not_mem_nil,or_false] at ht
  rcases ht with rfl
  ·exact ⟨DW,Nat.lt_trans (by decide) DJ⟩
 ·rw [par] at hd
  exact hd
theorem reads (os:Os) {H:Type} (enc:TypeId × Value→H):(DataW.whole enc Tryz.prog ((jJ os).forCall (fun _ _=>0) ⟨#[],#[.agg #[.int .i64 0,.int .i64 0,.string ⟨#[]⟩,.string ⟨#[]⟩,.slice none 0 0,.slice none 0 0]],[]⟩).memory Tryz.f4.params.toList Rows.evalValuesSpec.vars false [Value.agg #[.int .i64 0,.int .i64 0,.string ⟨#[]⟩,.string ⟨#[]⟩,.slice none 0 0,.slice none 0 0]] 8).map (fun x=>(x.1,x.2.1))=some ([.agg [.lit (.int .i64 0),.lit (.int .i64 0),.lit (.string []),.lit (.string []),.nil,.nil]],[]):=by kernel_rfl
theorem DD (os:Os) (started:os.Started) (H:Type) (enc:TypeId × Value→H) (F:Stop.Interp) :
  ReturnsInHanded {} Tryz.checked os 4 .any ((OpenSpec.ofChange Rows.evalValuesSpec).preRow enc Tryz.prog Tryz.f4 Rows.evalValuesRow.domain false Rows.evalValuesRow.laid) (((OpenSpec.ofChange Rows.evalValuesSpec).at F).post enc Tryz.prog Tryz.f4 false true false false):=by
 obtain ⟨⟨y1,y2,y3⟩,hx,hy⟩:=Option.map_eq_some_iff.1 (reads os enc)
 simp only [Prod.mk.injEq] at hy
 obtain ⟨rfl,rfl⟩:=hy
 refine returnsInHanded_of_row (C:=Tryz.checked) (s:=OpenSpec.ofChange Rows.evalValuesSpec) own started (by kernel_rfl) Tryz.func4
  (witness_row_atRef (enc:=enc) (C:=Tryz.checked) false (jJ os) #[.agg #[.int .i64 0,.int .i64 0,.string ⟨#[]⟩,.string ⟨#[]⟩,.slice none 0 0,.slice none 0 0]] rfl (by kernel_rfl) (by kernel_rfl) (by kernel_rfl)
   (OpenSpec.preRow_of_cond 8 hx (by kernel_rfl) (fun k hk=>by cases hk) (by kernel_rfl) (Ae os _))) ?_
 intro W base args ds gs before hval hW _ _ hwt hL hsh _
 exact Bx H enc W base args ds gs before hval hW hwt hL hsh
theorem c1:(Rows.evalValuesRow.inPlace ==Tryz.prog.inPlace 4)=true:=by kernel_rfl
theorem c2:(Rows.evalValuesRow.unfollowed ==Tryz.prog.unfollowed 4)=true:=by kernel_rfl
theorem c3:(Rows.evalValuesRow.recurses ==Tryz.prog.recurses 4)=true:=by kernel_rfl
theorem c4:(Rows.evalValuesRow.named ==Tryz.prog.varsNamed 4)=true:=by kernel_rfl
theorem DE:joinedFacts Tryz.prog 4 Tryz.f4 (OpenSpec.ofChange Rows.evalValuesSpec).bare Rows.evalValuesRow=true:=by
 unfold joinedFacts
 rw [c1,c2,c3,c4]
 kernel_rfl
theorem said:Rows.EvalValuesSaid:=
 OpenClaim.holds_of_cond 4 Tryz.f4 rfl rfl rfl rfl rfl rfl rfl ⟨rfl,rfl,rfl,rfl,rfl⟩ rfl rfl rfl rfl rfl (by kernel_rfl) Tryz.func4 DE
  (Xo (by kernel_rfl)) (by unfold Func.isWrapper;first | (rw [if_pos (by decide+kernel)];kernel_rfl) | (rw [if_neg (by decide+kernel)];exact ⟨rfl,rfl⟩))
  (fun os started H enc _ F=>by rw [OpenClaim.pre_eq_preRow];exact DD os started H enc F)
theorem plain (f:FuncId) (fn:Func) (hf:Tryz.pinned.checked.prog.funcNamed "pandect/pandectlaw30.EvalValues"=some f) (hfn:Tryz.pinned.checked.prog.funcs[f]?=some fn) :
  true=Tryz.pinned.checked.prog.looks []/\∀(j:Nat) t,fn.params[j]?=some t→Tryz.pinned.checked.prog.wantsStandIn t=false:=by
 obtain rfl:f=4:=Option.some.inj ((show Tryz.prog.funcNamed "pandect/pandectlaw30.EvalValues"=some 4 by kernel_rfl).symm.trans hf) |>.symm
 obtain rfl:fn=Tryz.f4:=(Option.some.inj (Tryz.func4.symm.trans hfn)).symm
 refine ⟨by kernel_rfl,fun j t ht=>?_⟩
 rw [par] at ht
 have ht:=Array.mem_of_getElem? ht
 simp only [List.mem_toArray,List.mem_cons,List.not_mem_nil,or_false] at ht
 rcases ht with rfl
 ·exact (show Tryz.prog.wantsStandIn 32=false by kernel_rfl)
theorem card:Rows.EvalValuesCardSaid:=
 Claim7.holds_tied_plain_at .later [] _ _ _ _ said (fun _ h=>by cases h) (by kernel_rfl) (fun _ h=>by cases h) evalValues_row_tie rfl ⟨rfl,rfl⟩ (by kernel_rfl) rfl plain (by kernel_rfl)
end Go.Proofs.YtgackciebknbeaaGreatDoor.JEvalValues
end
