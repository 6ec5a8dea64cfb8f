/- The layer: Go code as conditions, and that they are sound. No condition. -/
import Derived.Test.YtdmbjejhifjhbaaGreatDoorT07
set_option linter.unusedVariables false
set_option linter.unusedSimpArgs false
set_option linter.unnecessarySimpa false
set_option linter.deprecated false
set_option linter.unusedSectionVars false
set_option maxRecDepth 100000
section
namespace Go.AL
variable [Tabs]
theorem jg:∀(l:List (Nat × AV)) (i:Nat) (v:AV) (j:Nat),bD (pC l i v) j=if i=j then v else bD l j
 | [],i,v,j=>by simp [pC,bD]
 | (k,u) ::r,i,v,j=>by
  simp only [pC]
  by_cases hk:k=i
  ·subst hk
   simp only [beq_self_eq_true,if_true,bD,beq_iff_eq]
   by_cases h:k=j <;> simp [h]
  ·simp only [beq_iff_eq,hk,if_false,bD,jg r i v j]
   by_cases h:k=j
   ·subst h
    have:¬i=k:=fun e=>hk e.symm
    simp [this]
   ·simp [h]
theorem ic:∀(l:List (Nat × SObj)) (i:Nat) (v:SObj) (j:Nat),ax (nB l i v) j=if i=j then some v else ax l j
 | [],i,v,j=>by simp [nB,ax]
 | (k,u) ::r,i,v,j=>by
  simp only [nB]
  by_cases hk:k=i
  ·subst hk
   simp only [beq_self_eq_true,if_true,ax,beq_iff_eq]
   by_cases h:k=j <;> simp [h]
  ·simp only [beq_iff_eq,hk,if_false,ax,ic r i v j]
   by_cases h:k=j
   ·subst h
    have:¬i=k:=fun e=>hk e.symm
    simp [this]
   ·simp [h]
theorem q8 (t:List (Nat × AV)) (d:Option Nat) (v:AV):bD (xk t d v)=cE (bD t) d v:=by
 funext j
 cases d with
 | none=>rfl
 | some d=>simp [xk,cE,jg]
theorem iy:∀(u:List (Nat × SObj)) (b:List (Nat × SObj)),ax (putB b u)=updB (ax b) u
 | [],b=>rfl
 | (i,o) ::r,b=>by
  simp only [putB,updB]
  rw [iy r]
  congr 1
  funext j
  exact ic b i o j
theorem tF (s:St) (d:Option Nat) (e:Eff):(s.put d e).abs=s.abs.put d e:=by
 simp only [St.put,St.abs,AS.put,q8,iy]
def jJ (ops:List Oper) (o:Oper) (T:Nat→AV):Option Bool:=
 match o.guard with
 | none=>some true
 | some (j,want)=>
  match (nth ops j).bind (·.dst) with
  | none=>none
  | some d=>(match T d with | .bool b=>some (b ==want) | .tup []=>some false | _=>none)
def q9 (C:Cfg) (ops:List Oper) (o:Oper) (s s':AS) (f:gw):Prop:=
 (jJ ops o s.T=some true/\∃e,aG C o s.T s.B=some e/\e.asks/\dV C o s.T s.B=none/\s'=s.put o.dst e/\f=(aX C o s.T s.B,e.upd.map (·.1)))∨
 (jJ ops o s.T=some false/\s'=⟨cE s.T o.dst (.tup []),s.B⟩/\f=([],[]))
def xE (C:Cfg) (ops:List Oper):List Oper→AS→List gw→AS→Prop
 | [],s,fs,s'=>s=s'/\fs=[]
 | o ::r,s,fs,s'=>∃s1 f fs',q9 C ops o s s1 f/\xE C ops r s1 fs' s'/\fs=f ::fs'
theorem Ff {e:Eff} {q:Prop} (h:zF e.ob q):e.asks/\q:=by
 unfold zF at h
 unfold Eff.asks
 cases hob:e.ob with
 | none=>rw [hob] at h;exact ⟨trivial,h⟩
 | some p=>rw [hob] at h;exact h
theorem ox {C:Cfg} {ops:List Oper} {draw:Bool} {kp:AV→St→Prop} {o:Oper} {r:List Oper} {i:Nat} {s:St} {fs:List gw} {k:St→List gw→Prop}
  (h:cX C ops draw kp (o ::r) i s fs k) :
  (jJ ops o s.abs.T=some true/\∃e,aG C o s.abs.T s.abs.B=some e/\e.asks/\
   (match dV C o s.abs.T s.abs.B with
    | none=>cX C ops draw kp r (i+1) (s.put o.dst e) ((aX C o s.abs.T s.abs.B,e.upd.map (·.1)) ::fs) k
    | some (b,pv,u)=>draw=false/\(b=true→kp pv ⟨s.t,putB s.b u⟩)/\(b=false→cX C ops draw kp r (i+1) (s.put o.dst e) ((aX C o s.abs.T s.abs.B,e.upd.map (·.1)) ::fs) k)))∨
  (jJ ops o s.abs.T=some false/\cX C ops draw kp r (i+1) ⟨xk s.t o.dst (.tup []),s.b⟩ (([],[]) ::fs) k):=by
 have on:jJ ops o s.abs.T=some true→
   (match aG C o (bD s.t) (ax s.b) with
    | none=>False
    | some e=>zF e.ob
     (match dV C o (bD s.t) (ax s.b) with
     | none=>
      (match pb ops i,e.val with
      | true,.bool b=>
       sp b (cX C ops draw kp r (i+1) (s.put o.dst {e with val:=.bool true}) ((aX C o (bD s.t) (ax s.b),e.upd.map (·.1)) ::fs) k)
        (cX C ops draw kp r (i+1) (s.put o.dst {e with val:=.bool false}) ((aX C o (bD s.t) (ax s.b),e.upd.map (·.1)) ::fs) k)
      | true,_=>False
      | false,_=>cX C ops draw kp r (i+1) (s.put o.dst e) ((aX C o (bD s.t) (ax s.b),e.upd.map (·.1)) ::fs) k)
     | some (b,pv,u)=>
      (match draw || pb ops i with
      | true=>False
      | false=>sp b (kp pv ⟨s.t,putB s.b u⟩) (cX C ops draw kp r (i+1) (s.put o.dst e) ((aX C o (bD s.t) (ax s.b),e.upd.map (·.1)) ::fs) k))))→
   (jJ ops o s.abs.T=some true/\∃e,aG C o s.abs.T s.abs.B=some e/\e.asks/\
    (match dV C o s.abs.T s.abs.B with
     | none=>cX C ops draw kp r (i+1) (s.put o.dst e) ((aX C o s.abs.T s.abs.B,e.upd.map (·.1)) ::fs) k
     | some (b,pv,u)=>draw=false/\(b=true→kp pv ⟨s.t,putB s.b u⟩)/\(b=false→cX C ops draw kp r (i+1) (s.put o.dst e) ((aX C o s.abs.T s.abs.B,e.upd.map (·.1)) ::fs) k))):=by
  intro hg hq
  split at hq
  ·exact hq.elim
  ·rename_i e he
   obtain ⟨hask,h2⟩:=Ff hq
   refine ⟨hg,e,he,hask,?_⟩
   show (match dV C o (bD s.t) (ax s.b) with
     | none=>cX C ops draw kp r (i+1) (s.put o.dst e) ((aX C o (bD s.t) (ax s.b),e.upd.map (·.1)) ::fs) k
     | some (b,pv,u)=>draw=false/\(b=true→kp pv ⟨s.t,putB s.b u⟩)/\(b=false→cX C ops draw kp r (i+1) (s.put o.dst e) ((aX C o (bD s.t) (ax s.b),e.upd.map (·.1)) ::fs) k))
   cases hp:dV C o (bD s.t) (ax s.b) with
   | none=>
    rw [hp] at h2
    simp only at h2 ⊢
    split at h2
    ·rename_i b _ hb
     unfold sp at h2
     split at h2
     ·rename_i hbt
      subst hbt
      have:({e with val:=.bool true}:Eff)=e:=by rw [←hb]
      rw [this] at h2
      exact h2
     ·rename_i hbt
      have hbf:b=false:=by simpa using hbt
      subst hbf
      have:({e with val:=.bool false}:Eff)=e:=by rw [←hb]
      rw [this] at h2
      exact h2
    ·exact h2.elim
    ·exact h2
   | some x=>
    obtain ⟨b,pv,u⟩:=x
    rw [hp] at h2
    simp only at h2 ⊢
    split at h2
    ·exact h2.elim
    ·rename_i hdr
     simp only [Bool.or_eq_false_iff] at hdr
     unfold sp at h2
     refine ⟨hdr.1,fun hb=>?_,fun hb=>?_⟩
     ·rw [if_pos hb] at h2;exact h2
     ·subst hb;simpa using h2
 simp only [cX] at h
 split at h
 ·rename_i hgd
  exact Or.inl (on (by simp [jJ,hgd]) h)
 ·rename_i j want hgd
  split at h
  ·exact h.elim
  ·rename_i d hd
   split at h
   ·rename_i hb
    cases want
    ·exact Or.inr ⟨by simp [jJ,hgd,hd,St.abs,hb],h⟩
    ·exact Or.inl (on (by simp [jJ,hgd,hd,St.abs,hb]) h)
   ·rename_i hb
    cases want
    ·exact Or.inl (on (by simp [jJ,hgd,hd,St.abs,hb]) h)
    ·exact Or.inr ⟨by simp [jJ,hgd,hd,St.abs,hb],h⟩
   ·rename_i hb
    exact Or.inr ⟨by simp [jJ,hgd,hd,St.abs,hb],h⟩
   ·exact h.elim
theorem ma (C:Cfg) (ops:List Oper) (kp:AV→St→Prop) (k:St→List gw→Prop):∀(l:List Oper) (i:Nat) (s:St) (fs:List gw),cX C ops true kp l i s fs k→
  ∃s' fs',xE C ops l s.abs fs' s'.abs/\k s' (fs.reverse++fs')
 | [],i,s,fs,h=>⟨s,[],⟨rfl,rfl⟩,by simpa [cX] using h⟩
 | o ::r,i,s,fs,h=>by
  rcases ox h with ⟨hg,e,he,hask,hq⟩ | ⟨hg,hq⟩
  ·cases hp:dV C o s.abs.T s.abs.B with
   | none=>
    rw [hp] at hq
    obtain ⟨s',fs',h1,h2⟩:=ma C ops kp k r (i+1) _ _ hq
    rw [tF] at h1
    exact ⟨s',_ ::fs',⟨_,_,fs',Or.inl ⟨hg,e,he,hask,hp,rfl,rfl⟩,h1,rfl⟩,by simpa [St.abs] using h2⟩
   | some x=>
    rw [hp] at hq
    cases hq.1
  ·obtain ⟨s',fs',h1,h2⟩:=ma C ops kp k r (i+1) _ _ hq
   have e:(⟨xk s.t o.dst (.tup []),s.b⟩:St).abs=⟨cE s.abs.T o.dst (.tup []),s.abs.B⟩:=by simp only [St.abs,q8]
   rw [e] at h1
   exact ⟨s',_ ::fs',⟨_,_,fs',Or.inr ⟨hg,rfl,rfl⟩,h1,rfl⟩,by simpa [St.abs] using h2⟩
section
variable {P:Program} {C:Cfg} {ops:Array Oper} {Q:Exit→Act→World→Prop} {F:Fr}
theorem V.skip {Ω:Om}:V Ω (.tup []) Go.undef:=.tup [] [] rfl (fun j c v h=>by simp at h)
theorem V.tup0_inv {Ω:Om} {v:Value} (h:V Ω (.tup []) v):v=.tuple #[]:=by
 cases h with
 | tup _ vs h1 _=>
  have:vs=[]:=List.eq_nil_of_length_eq_zero h1.symm
  subst this
  rfl
theorem oy {o:Oper} {s:AS} {a:Act} {Ω:Om} (h:Holds F s a Ω):∀b,jJ ops.toList o s.T=some b→Region.wanted o (yielded ops a.tmps)=b:=by
 intro b hb
 unfold jJ at hb
 unfold Region.wanted
 split at hb
 ·rename_i hg
  simp only [hg]
  simpa using hb
 ·rename_i j want hg
  simp only [hg]
  split at hb
  ·simp at hb
  ·rename_i d hd'
   split at hb
   ·rename_i c hc
    simp at hb
    have hv:=h.tmps d
    rw [hc] at hv
    have hv:=hv.bool_inv
    have hsome:a.tmps[d]?=some (.bool c):=by
     rw [Array.getD_eq_getD_getElem?] at hv
     cases ht:a.tmps[d]? with
     | none=>rw [ht] at hv;simp [undef] at hv
     | some v=>rw [ht] at hv;simp at hv;rw [hv]
    have hdst:(ops[j]?).bind (·.dst)=some d:=by
     rw [km,Array.getElem?_toList] at hd'
     exact hd'
    simp only [yielded,hdst,Option.bind_some,hsome]
    rw [←hb]
    cases c <;> cases want <;> rfl
   ·rename_i hc
    simp at hb
    subst hb
    have hv:=h.tmps d
    rw [hc] at hv
    have hdst:(ops[j]?).bind (·.dst)=some d:=by
     rw [km,Array.getElem?_toList] at hd'
     exact hd'
    have hsome:a.tmps[d]?=none∨a.tmps[d]?=some (.tuple #[]):=by
     rw [Array.getD_eq_getD_getElem?] at hv
     cases ht:a.tmps[d]? with
     | none=>exact .inl rfl
     | some v=>
      rw [ht] at hv
      simp only [Option.getD_some] at hv
      exact .inr (by rw [hv.tup0_inv])
    rcases hsome with e | e <;> simp only [yielded,hdst,Option.bind_some,e] <;> cases want <;> rfl
   ·simp at hb
theorem xF (hT:bH P C.tbl) (hS:dG P C.spec) {o:Oper} {i:Nat} (hi:ops[i]?=some o) (hd:∀d,o.dst=some d→d < F.n)
  {s s':AS} {f:gw} {a:Act} {Ω:Om} (h:Holds F s a Ω) (hs:q9 C ops.toList o s s' f) {K:Act→World→Prop}
  (hK:∀a' Ω',Holds F s' a' Ω'→K a' Ω'.w):wpOp P ops Q i K a Ω.w:=by
 have hgate:=oy (ops:=ops) (o:=o) h
 unfold wpOp
 rw [hi]
 rcases hs with ⟨hg,e,he,ho,hp,rfl,rfl⟩ | ⟨hg,rfl,rfl⟩
 ·simp only [hgate true hg,if_true]
  refine Or.inl (Ge hT hS o F s a Ω e K Q h hd he ho ?_)
  rw [hp]
  exact hK
 ·simp only [hgate false hg,Bool.false_eq_true,if_false]
  exact hK _ Ω (h.pure V.skip hd)
theorem lc (hT:bH P C.tbl) (hS:dG P C.spec) (hd:∀(o:Oper),o∈ops.toList→∀d,o.dst=some d→d < F.n) {draw:Bool} {kp:AV→St→Prop} {k:St→List gw→Prop}
  (hQ:∀s fs a' Ω',k s fs→Holds F s.abs a' Ω'→Q .normal a' Ω'.w) (hP:∀pv s a' Ω' v,kp pv s→Holds F s.abs a' Ω'→V Ω' pv v→Q (.panic [{v,recovered:=false}]) a' Ω'.w) :
  ∀(l:List Oper) (i:Nat) (s:St) (fs:List gw) (a:Act) (Ω:Om),ops.toList.drop i=l→cX C ops.toList draw kp l i s fs k→Holds F s.abs a Ω→
   wpOps P ops Q (List.range' i l.length) a Ω.w
 | [],i,s,fs,a,Ω,_,hr,h=>hQ s _ a Ω (by simpa [cX] using hr) h
 | o ::r,i,s,fs,a,Ω,hl,hr,h=>by
  have hi:ops[i]?=some o:=by
   have:(ops.toList.drop i)[0]?=some o:=by rw [hl];rfl
   rw [List.getElem?_drop] at this
   simpa using this
  have hl':ops.toList.drop (i+1)=r:=by
   rw [←List.tail_drop,hl]
   rfl
  have hdo:=hd o (List.mem_of_getElem? (by rw [Array.getElem?_toList];exact hi))
  have hgate:=oy (ops:=ops) (o:=o) h
  simp only [List.length_cons,List.range'_succ]
  rw [wpOps_cons]
  unfold wpOp
  rw [hi]
  rcases ox hr with ⟨hg,e,he,hask,hq⟩ | ⟨hg,hq⟩
  ·simp only [hgate true hg,if_true]
   refine Or.inl (Ge hT hS o F s.abs a Ω e _ Q h hdo he hask ?_)
   cases hp:dV C o s.abs.T s.abs.B with
   | none=>
    rw [hp] at hq
    intro a' Ω' h'
    rw [←tF] at h'
    exact lc hT hS hd hQ hP r (i+1) _ _ a' Ω' hl' hq h'
   | some x=>
    obtain ⟨b,pv,u⟩:=x
    rw [hp] at hq
    refine ⟨fun hb a' Ω' h'=>?_,fun hb Ω' v h' hv=>?_⟩
    ·rw [←tF] at h'
     exact lc hT hS hd hQ hP r (i+1) _ _ a' Ω' hl' (hq.2.2 hb) h'
    ·refine hP pv _ a Ω' v (hq.2.1 hb) ?_ hv
     have e2:(⟨s.t,putB s.b u⟩:St).abs=⟨s.abs.T,updB s.abs.B u⟩:=by simp only [St.abs,iy]
     rw [e2]
     exact h'
  ·simp only [hgate false hg,Bool.false_eq_true,if_false]
   have e2:(⟨xk s.t o.dst (.tup []),s.b⟩:St).abs=⟨cE s.abs.T o.dst (.tup []),s.abs.B⟩:=by simp only [St.abs,q8]
   exact lc hT hS hd hQ hP r (i+1) _ _ _ Ω hl' hq (by rw [e2];exact h.pure V.skip hdo)
end
end Go.AL
end
section
namespace Go.AL
variable [Tabs]
theorem nM (look:Nat→Option SObj):∀(n:Nat) (todo acc:List Nat),∀i∈acc,i∈ka look n todo acc
 | 0,todo,acc,i,h=>by simpa [ka] using h
 | n+1,[],acc,i,h=>by simpa [ka] using h
 | n+1,j ::r,acc,i,h=>by
  simp only [ka]
  split
  ·exact nM look n r acc i h
  ·exact nM look n _ _ i (by simp [h])
theorem kC {look look':Nat→Option SObj}:∀(n:Nat) (todo acc:List Nat),(∀i∈ka look n todo acc,look i=look' i)→ka look n todo acc=ka look' n todo acc
 | 0,todo,acc,h=>rfl
 | n+1,[],acc,h=>rfl
 | n+1,j ::r,acc,h=>by
  simp only [ka] at h ⊢
  split
  ·rename_i hc
   rw [if_pos hc] at h
   exact kC n r acc h
  ·rename_i hc
   rw [if_neg hc] at h
   have hj:=h j (nM look n _ _ j (by simp))
   rw [←hj]
   exact kC n _ _ h
theorem mS {C:Cfg} {f:Nat} {args:List AV} {look look':Nat→Option SObj} (h:∀i∈(fX C f args look).map (·.1),look i=look' i):fX C f args look=fX C f args look':=by
 have hm:(fX C f args look).map (·.1)=ka look 64 (ids.idsL args) []:=by simp [fX,Function.comp_def]
 rw [hm] at h
 have hr:=kC 64 (ids.idsL args) [] h
 unfold fX
 rw [←hr]
 apply List.map_congr_left
 intro i hi
 have hb:zB look i=zB look' i:=by unfold zB;rw [h i hi]
 rw [hb]
theorem qa {look look':Nat→Option SObj} {L:List dQ}:∀(l:List dQ) (j:Nat),(∀i∈l.map (·.1),look i=look' i)→mH look L l j=mH look' L l j
 | [],j,_=>rfl
 | (i,r) ::l,j,h=>by
  simp only [mH]
  rw [←h i (by simp),qa l (j+1) (fun k hk=>h k (by simp only [List.map_cons];exact List.mem_cons_of_mem _ hk))]
theorem gA {look look':Nat→Option SObj} {L:List dQ} {d:Nat}:∀(u:List (Nat × SObj)),(∀i∈L.map (·.1),look i=look' i)→(∀i∈fw L d u,look i=look' i)→kb look L d u=kb look' L d u
 | [],_,_=>rfl
 | (k,o) ::u,h,hn=>by
  simp only [kb]
  cases hk:bj L k with
  | some x=>
   obtain ⟨i,r⟩:=x
   have hm:i∈L.map (·.1):=List.mem_map.2 ⟨(i,r),tE L _ _ (fo hk).2,rfl⟩
   have ih:=gA u h (fun j hj=>hn j (by simp only [fw,List.filterMap_cons,hk] at hj ⊢;exact hj))
   simp only [←h i hm,ih]
  | none=>
   have ih:=gA u h (fun j hj=>hn j (by
    simp only [fw,List.filterMap_cons,hk] at hj ⊢
    exact List.mem_cons_of_mem _ hj))
   have h1:=hn (nid d k) (by simp only [fw,List.filterMap_cons,hk];exact List.mem_cons_self ..)
   simp only [←h1,ih]
theorem kD {L:List dQ} {d:Nat} {S u:List (Nat × SObj)} (hS:∀x∈S,∃y,bj L x.1=some y):fw L d (gN S u)=fw L d u:=by
 have e:∀v w:List (Nat × SObj),fw L d (v++w)=fw L d v++fw L d w:=fun v w=>List.filterMap_append
 have z:fw L d (S.filter fun x=>!(u.map (·.1)).contains x.1)=[]:=by
  unfold fw
  rw [List.filterMap_eq_nil_iff]
  intro x hx
  obtain ⟨y,hy⟩:=hS x (List.mem_filter.1 hx).1
  simp [hy]
 unfold gN
 rw [e,z,List.append_nil]
theorem vh {C:Cfg} {d f:Nat} {args args':List AV} {look look':Nat→Option SObj} {r:CallR} (hr:pE C d f args look=some r) (hst:jz (C.keeps f) args=some args')
  (h1:∀i∈(fX C f args' look).map (·.1),look i=look' i) (h2:∀i∈r.foot,look i=look' i):pE C d f args look'=some r:=by
 unfold pE at hr ⊢
 rw [hst] at hr ⊢
 simp only at hr ⊢
 rw [←mS h1]
 generalize fX C f args' look=L at hr h1 ⊢
 unfold CA at hr ⊢
 split at hr
 ·rename_i hck
  have hd:bX (L.map (·.1))=true:=by simp only [Bool.and_eq_true] at hck;exact hck.1.1
  rw [←qa L 900 h1]
  split at hr
  ·rename_i as S has hS
   split at hr
   ·rename_i A hA
    have hSl:∀x∈S,∃y,bj L x.1=some y:=by
     intro x hx
     obtain ⟨q,i,r,o,e1,e2,_⟩:=(ib L 900 S hS).1 x.1 x.2 (pZ L 900 S hS x hx)
     rw [e1]
     exact ⟨(i,r),cR (l9 L i 900 q r hd e2)⟩
    unfold zC at hr ⊢
    split at hr
    ·rename_i v u c1 c2 c3
     split at hr
     ·rename_i hp
      simp at hr
      subst hr
      rw [c1,←gA (gN S A.upd) h1 (by rw [kD hSl];exact h2),c2,c3]
     ·rename_i b pv pu hp
      split at hr
      ·rename_i pv' pu' q1 q2 q3
       simp at hr
       subst hr
       rw [c1,←gA (gN S A.upd) h1 (by rw [kD hSl];exact fun i hi=>h2 i (by simp [hi])),c2,c3]
       simp only
       rw [q1,←gA (gN S pu) h1 (by rw [kD hSl];exact fun i hi=>h2 i (by simp [hi])),q2,q3]
      ·cases hr
    ·cases hr
   ·cases hr
  ·cases hr
 ·cases hr
theorem lM {B B':Nat→Option SObj}:∀(u:List (Nat × SObj)),(∀i∈u.map (·.1),B i=B' i)→iK B u=iK B' u
 | [],_=>rfl
 | (i,o) ::r,h=>by
  simp only [iK]
  rw [h i (by simp),lM r (fun j hj=>h j (by simp only [List.map_cons];exact List.mem_cons_of_mem _ hj))]
theorem qb {B B':Nat→Option SObj}:∀(u:List (Nat × SObj)),(∀i∈u.map (·.1),B i=B' i)→uH B u=uH B' u
 | [],_=>rfl
 | (i,o) ::r,h=>by
  simp only [uH]
  rw [h i (by simp),qb r (fun j hj=>h j (by simp only [List.map_cons];exact List.mem_cons_of_mem _ hj))]
def D0:Op→Bool
 | .call {callee:=.value _,..}=>true
 | _=>false
theorem xG (C:Cfg) (o:Oper) (T T':Nat→AV) (B B':Nat→Option SObj) (hnc:D0 o.op=false) (h:∀x∈o.op.operands.toList,opd T x=opd T' x)
  (hb:∀id∈aX C o T B,B id=B' id):aX C o T B=aX C o T' B'/\aG C o T B=aG C o T' B'/\dV C o T B=dV C o T' B':=by
 suffices hs:aX C o T B=aX C o T' B'/\aG C o T B=aG C o T' B' by
  refine ⟨hs.1,hs.2,?_⟩
  unfold dV
  cases hop:o.op with
  | panic x=>simp [hop,Op.operands] at h;simp [h]
  | call c=>
   obtain ⟨callee,args,ts⟩:=c
   cases callee with
   | builtin b=>simp [fY,hop,dw];cases o.dst <;> rfl
   | value f=>rw [hop] at hnc;cases hnc
   | invoke r m=>simp [fY,hop,dw];cases o.dst <;> rfl
  | _=>rfl
 have mapEq:∀ps:Array (Nat × Operand),(∀x∈(ps.toList.map (·.2)),opd T x=opd T' x)→
   (ps.toList.map fun (i,x)=>(i,opd T x))=(ps.toList.map fun (i,x)=>(i,opd T' x)):=by
  intro ps hps
  apply List.map_congr_left
  rintro ⟨i,x⟩ hx
  simp only [Prod.mk.injEq,true_and]
  exact hps x (List.mem_map.2 ⟨(i,x),hx,rfl⟩)
 have bndEq:∀x:Option Operand,(∀y∈x.toArray.toList,opd T y=opd T' y)→bnd T x=bnd T' x:=by
  intro x hx
  cases x with
  | none=>rfl
  | some y=>simp only [bnd];rw [hx y (by simp)]
 cases hop:o.op with
 | move x=>simp [hop,Op.operands] at h;simp [aX,aG,hop,h]
 | assign x=>simp [hop,Op.operands] at h;simp [aX,aG,hop,h]
 | pick c x y=>
  simp [hop,Op.operands] at h
  obtain ⟨h1,h2,h3⟩:=h
  simp only [aX,aG,hop,h1,h2,h3,and_self]
 | alloc e=>
  simp only [aX,hop] at hb
  refine ⟨by simp only [aX,hop],?_⟩
  simp only [aG,hop]
  split
  ·rename_i d r h1 h2
   rw [hb d (by simp [h1])]
  ·rfl
 | box e x=>
  simp [hop,Op.operands] at h
  simp only [aX,hop] at hb
  refine ⟨by simp only [aX,hop],?_⟩
  simp only [aG,hop]
  split
  ·rename_i d r h1 h2
   rw [hb d (by simp [h1]),h]
  ·rfl
 | build t ps=>
  simp only [hop,Op.operands] at h
  refine ⟨by simp only [aX,hop],?_⟩
  simp only [aG,hop]
  rw [mapEq ps (by simpa using h)]
 | buildSlice t n ps=>
  simp only [hop,Op.operands] at h
  simp only [aX,hop] at hb
  refine ⟨by simp only [aX,hop],?_⟩
  simp only [aG,hop]
  split
  ·rename_i d e sz by' z ty h1 h2
   rw [hb d (by simp [h1]),mapEq ps (by simpa using h)]
  ·rfl
 | load t x=>
  simp [hop,Op.operands] at h
  simp only [aX,hop] at hb
  refine ⟨by simp only [aX,hop,h],?_⟩
  simp only [aG,hop]
  split
  ·rw [←h]
   split
   ·rename_i id off hx
    rw [hx] at hb
    rw [hb id (by simp)]
   ·rfl
   ·rename_i id i w off hx
    rw [hx] at hb
    rw [hb id (by simp)]
   ·rfl
  ·rfl
 | store t x y=>
  simp [hop,Op.operands] at h
  simp only [aX,hop] at hb
  refine ⟨by simp only [aX,hop,h.1],?_⟩
  simp only [aG,hop]
  split
  ·rw [←h.1,←h.2]
   split
   ·rfl
   split
   ·rename_i id off hx
    rw [hx] at hb
    rw [hb id (by simp)]
   ·rename_i id i w off hx
    rw [hx] at hb
    rw [hb id (by simp)]
   ·rename_i τ n k hx
    rw [hx] at hb
    rw [hb k (by simp)]
   ·rfl
  ·rfl
 | nilCheck x=>simp [hop,Op.operands] at h;exact ⟨by simp only [aX,hop],by simp only [aG,hop];rw [h]⟩
 | binOp op t x y t'=>
  simp [hop,Op.operands] at h
  exact ⟨by simp only [aX,hop],by simp only [aG,hop];rw [h.1,h.2]⟩
 | unOp op t x=>simp [hop,Op.operands] at h;exact ⟨by simp only [aX,hop],by simp only [aG,hop];rw [h]⟩
 | convert t t' x=>simp [hop,Op.operands] at h;exact ⟨by simp only [aX,hop],by simp only [aG,hop];rw [h]⟩
 | fieldAddr t x f=>simp [hop,Op.operands] at h;exact ⟨by simp only [aX,hop],by simp only [aG,hop];rw [h]⟩
 | field t x f=>simp [hop,Op.operands] at h;exact ⟨by simp only [aX,hop],by simp only [aG,hop];rw [h]⟩
 | indexAddr t x y=>
  simp [hop,Op.operands] at h
  exact ⟨by simp only [aX,hop],by simp only [aG,hop];rw [h.1,h.2]⟩
 | index t x y=>
  simp [hop,Op.operands] at h
  exact ⟨by simp only [aX,hop],by simp only [aG,hop];rw [h.1,h.2]⟩
 | slice t x lo hi mx=>
  cases mx with
  | some _=>simp only [aX,aG,hop,and_self]
  | none=>
   simp only [hop,Op.operands] at h
   have h1:opd T x=opd T' x:=h x (by simp)
   have h2:bnd T lo=bnd T' lo:=bndEq lo (fun y hy=>h y (by simp at hy ⊢;simp [hy]))
   have h3:bnd T hi=bnd T' hi:=bndEq hi (fun y hy=>h y (by simp at hy ⊢;simp [hy]))
   simp only [aX,aG,hop,h1,h2,h3,and_self]
 | extract x i=>simp [hop,Op.operands] at h;exact ⟨by simp only [aX,hop],by simp only [aG,hop];rw [h]⟩
 | call c=>
  obtain ⟨callee,args,ts⟩:=c
  cases callee with
  | builtin b=>
   cases b with
   | len=>
    simp only [hop,Op.operands,Call.operands] at h
    simp only [aX,hop] at hb
    refine ⟨?_,?_⟩
    ·simp only [aX,hop]
     split
     ·rename_i x hx
      rw [h x (by simp [hx])]
     ·rfl
    ·simp only [aG,hop]
     split
     ·rename_i x t hx ht
      rw [hx] at hb
      simp only at hb
      have hx':=h x (by simp [hx])
      rw [←hx']
      unfold Gp
      split
      ·rfl
      ·rfl
      ·rfl
      ·rfl
      ·rename_i id _ hxe
       rw [hxe] at hb
       rw [hb id (by simp)]
      ·rfl
     ·rfl
   | append=>
    simp only [hop,Op.operands,Call.operands] at h
    simp only [aX,hop] at hb
    refine ⟨?_,?_⟩
    ·simp only [aX,hop]
     split
     ·rename_i x y hx
      rw [h x (by simp [hx])]
     ·rfl
    ·simp only [aG,hop]
     split
     ·rename_i x y t t' d hx ht hdst
      split
      ·rw [←h x (by simp [hx]),←h y (by simp [hx])]
       rw [hx] at hb
       simp only at hb
       split
       ·unfold p9
        split
        ·split
         ·split
          ·rename_i hxe hye
           rw [hxe] at hb
           simp only at hb
           rw [hb _ (by simp)]
          ·rename_i hxe hye
           rw [hxe] at hb
           simp only at hb
           rw [hb d (by simp [hdst])]
          ·rfl
         ·rfl
        ·rfl
       unfold sV
       split
       ·split
        ·split
         ·rfl
         ·rfl
         ·rename_i hxe hye
          rw [hxe] at hb
          simp only at hb
          rw [hb _ (by simp)]
         ·rename_i hxe hye
          rw [hxe] at hb
          simp only at hb
          rw [hb d (by simp [hdst])]
         ·rfl
        ·rfl
       ·rfl
      ·rw [←h x (by simp [hx]),←h y (by simp [hx])]
       rw [hx] at hb
       simp only at hb
       split
       ·unfold pa
        split
        ·split
         ·split
          ·rename_i xs k hxe
           rw [hxe] at hb
           simp only at hb
           rw [hb k (by simp)]
          ·rfl
         ·rfl
        ·rfl
       ·rfl
     ·rfl
   | max=>
    simp only [hop,Op.operands,Call.operands] at h
    refine ⟨by simp only [aX,hop,dw],?_⟩
    simp only [aG,hop]
    split
    ·rename_i x y hx
     rw [h x (by simp [hx]),h y (by simp [hx])]
    ·rfl
   | min=>
    simp only [hop,Op.operands,Call.operands] at h
    refine ⟨by simp only [aX,hop,dw],?_⟩
    simp only [aG,hop]
    split
    ·rename_i x y hx
     rw [h x (by simp [hx]),h y (by simp [hx])]
    ·rfl
   | _=>simp only [aX,aG,hop,dw,and_self]
  | value f=>rw [hop] at hnc;cases hnc
  | invoke r m=>
   simp only [aX,aG,hop,fY,dw]
   exact ⟨trivial,by cases o.dst <;> rfl⟩
 | lookup t x k ok=>
  simp [hop,Op.operands] at h
  simp only [aX,hop] at hb
  refine ⟨by simp only [aX,hop,h.1],?_⟩
  simp only [aG,hop,←h.1,←h.2,sW]
  split
  ·rename_i kt e sz by' z ty id hr hxe
   rw [hxe] at hb
   rw [hb id (by simp)]
  ·rfl
 | mapUpdate t x k v=>
  simp [hop,Op.operands] at h
  simp only [aX,hop] at hb
  refine ⟨by simp only [aX,hop,h.1],?_⟩
  simp only [aG,hop,←h.1,←h.2.1,←h.2.2,jA]
  split
  ·rename_i kt e sz by' z ty id hr hxe
   rw [hxe] at hb
   rw [hb id (by simp)]
  ·rfl
 | insert t x k v=>
  simp [hop,Op.operands] at h
  simp only [aX,hop] at hb
  refine ⟨by simp only [aX,hop,h.1],?_⟩
  simp only [aG,hop,←h.1,←h.2.1,←h.2.2,jA]
  split
  ·rename_i kt e sz by' z ty id hr hxe
   rw [hxe] at hb
   rw [hb id (by simp)]
  ·rfl
 | makeMap t r=>
  simp only [hop,Op.operands] at h
  simp only [aX,hop] at hb
  refine ⟨by simp only [aX,hop],?_⟩
  have hr:r.map (opd T)=r.map (opd T'):=by
   cases r with
   | none=>rfl
   | some y=>simp only [Option.map_some];rw [h y (by simp)]
  simp only [aG,hop,hr]
  split
  ·rename_i d k e sz by' z ty hd ht
   rw [hb d (by simp [hd])]
  ·rfl
 | makeSlice t x y=>
  simp [hop,Op.operands] at h
  simp only [aX,hop] at hb
  refine ⟨by simp only [aX,hop],?_⟩
  simp only [aG,hop,h.1,h.2]
  split
  ·rename_i d e sz by' z ty m n hd ht hx hy
   rw [hb d (by simp [hd])]
  ·rfl
 | makeFunc f x y=>
  refine ⟨by simp only [aX,hop],?_⟩
  simp only [hop,Op.operands] at h
  have hy:y.toList.map (opd T)=y.toList.map (opd T'):=List.map_congr_left fun z hz=>h z (by simp at hz ⊢;simp [hz])
  cases f <;> simp only [aG,hop,hy]
 | makeInterface t x=>simp [hop,Op.operands] at h;exact ⟨by simp only [aX,hop],by simp only [aG,hop];rw [h]⟩
 | typeAssert x t t' b=>cases b <;> (simp [hop,Op.operands] at h;exact ⟨by simp only [aX,hop],by simp only [aG,hop];first | done | rw [h]⟩)
 | panic x=>simp [hop,Op.operands] at h;exact ⟨by simp only [aX,hop],by simp only [aG,hop];rw [h]⟩
 | _=>simp only [aX,aG,hop,and_self]
theorem AF (C:Cfg) (o:Oper) (T T':Nat→AV) (B B':Nat→Option SObj) {e:Eff} (h:∀x∈o.op.operands.toList,opd T x=opd T' x)
  (hb:∀id∈aX C o T B,B id=B' id) (he:aG C o T B=some e):aX C o T B=aX C o T' B'/\aG C o T' B'=some e/\dV C o T B=dV C o T' B':=by
 cases hc:D0 o.op with
 | false=>
  obtain ⟨h1,h2,h3⟩:=xG C o T T' B B' hc h hb
  exact ⟨h1,by rw [←h2,he],h3⟩
 | true=>
  obtain ⟨f0,args0,ts,hop⟩:∃f0 args0 ts,o.op=.call {callee:=.value f0,args:=args0,argTypes:=ts}:=by
   cases hop:o.op with
   | call c=>
    obtain ⟨callee,args,ts⟩:=c
    cases callee with
    | value f=>exact ⟨f,args,ts,rfl⟩
    | builtin b=>rw [hop] at hc;cases hc
    | invoke r m=>rw [hop] at hc;cases hc
   | _=>rw [hop] at hc;cases hc
  have hcal:dw T {callee:=.value f0,args:=args0,argTypes:=ts}=dw T' {callee:=.value f0,args:=args0,argTypes:=ts}:=by
   simp only [hop,Op.operands,Call.operands] at h
   have ha:args0.toList.map (opd T)=args0.toList.map (opd T'):=List.map_congr_left fun z hz=>h z (by simp at hz ⊢;simp [hz])
   cases f0 with
   | func f=>simp only [dw,ha]
   | tmp t=>
    have ht:T t=T' t:=h (.tmp t) (by simp)
    simp only [dw,ha,ht]
   | _=>rfl
  have heff:∃r,fY C o T B=some r/\fx (ki C o) B r.eff=e:=by
   simp only [aG,hop] at he
   split at he
   ·rename_i r hr;simp at he;exact ⟨r,hr,he⟩
   ·cases he
  obtain ⟨r,hr,rfl⟩:=heff
  have hr0:=hr
  simp only [fY,hop] at hr
  split at hr
  ·rename_i c d hc' hdst
   simp at hc'
   subst hc'
   split at hr
   ·rename_i f args hca
    have hca':=hca
    rw [hcal] at hca'
    obtain ⟨args',hst⟩:∃args',jz (C.keeps f) args=some args':=by
     cases hs:jz (C.keeps f) args with
     | none=>simp [pE,hs] at hr
     | some x=>exact ⟨x,rfl⟩
    have hneed:aX C o T B=(fX C f args' B).map (·.1)++(r.foot++CB (ki C o) r.eff.upd):=by
     simp only [aX,hop,hca,hst]
     simp only [hr0]
    rw [hneed] at hb
    have h1:∀i∈(fX C f args' B).map (·.1),B i=B' i:=fun i hi=>hb i (by simp only [List.mem_append];exact Or.inl hi)
    have hr1:=vh hr hst h1 (fun i hi=>hb i (by simp only [List.mem_append];exact Or.inr (Or.inl hi)))
    have hds:fx (ki C o) B' r.eff=fx (ki C o) B r.eff:=by
     cases hsm:ki C o with
     | false=>rfl
     | true=>
      rw [hsm] at hb
      have hb2:∀i∈r.eff.upd.map (·.1),B i=B' i:=fun i hi=>hb i (by simp only [List.mem_append];exact Or.inr (Or.inr hi))
      simp only [fx]
      rw [lM r.eff.upd hb2,qb r.eff.upd hb2]
    have hr2:fY C o T' B'=some r:=by simp only [fY,hop,hdst,hca',hr1]
    refine ⟨?_,?_,?_⟩
    ·rw [hneed]
     simp only [aX,hop,hca',hst,hr2]
     rw [mS h1]
    ·simp only [aG,hop,hr2]
     exact congrArg some hds
    ·simp only [dV,hop,hr0,hr2]
   ·cases hr
  ·cases hr
theorem AG {o:Oper} {T T':Nat→AV} (h:∀t∈xl o,T t=T' t):∀x∈o.op.operands.toList,opd T x=opd T' x:=by
 intro x hx
 cases x with
 | tmp t=>
  simp only [opd]
  exact h t (by simp only [xl,List.mem_filterMap];exact ⟨.tmp t,hx,rfl⟩)
 | _=>rfl
theorem xH {ops:List Oper} {o:Oper} {T T':Nat→AV} (h:∀t∈jB ops o,T t=T' t):jJ ops o T=jJ ops o T':=by
 unfold jJ
 split
 ·rfl
 ·rename_i j want hg
  split
  ·rfl
  ·rename_i d hd
   rw [h d (by simp only [jB,hg,List.mem_append];right;simp [hd])]
def se (C:Cfg) (ops:List Oper) (o:Oper) (s:AS) (v:AV) (u:List (Nat × SObj)) (f:gw):Prop:=
 (jJ ops o s.T=some true/\∃e,aG C o s.T s.B=some e/\e.asks/\dV C o s.T s.B=none/\v=e.val/\u=e.upd/\f=(aX C o s.T s.B,e.upd.map (·.1)))∨
 (jJ ops o s.T=some false/\v=.tup []/\u=[]/\f=([],[]))
theorem q9.eff {C:Cfg} {ops:List Oper} {o:Oper} {s s1:AS} {f:gw} (hs:q9 C ops o s s1 f) :
  ∃v u,se C ops o s v u f/\s1=⟨cE s.T o.dst v,updB s.B u⟩/\f.2=u.map (·.1):=by
 rcases hs with ⟨h1,e,h2,h3,hp,rfl,rfl⟩ | ⟨h1,rfl,rfl⟩
 ·exact ⟨e.val,e.upd,Or.inl ⟨h1,e,h2,h3,hp,rfl,rfl,rfl⟩,rfl,rfl⟩
 ·exact ⟨.tup [],[],Or.inr ⟨h1,rfl,rfl,rfl⟩,rfl,rfl⟩
theorem se.step {C:Cfg} {ops:List Oper} {o:Oper} {s:AS} {v:AV} {u:List (Nat × SObj)} {f:gw} (hs:se C ops o s v u f) :
  q9 C ops o s ⟨cE s.T o.dst v,updB s.B u⟩ f:=by
 rcases hs with ⟨h1,e,h2,h3,hp,rfl,rfl,rfl⟩ | ⟨h1,rfl,rfl,rfl⟩
 ·exact Or.inl ⟨h1,e,h2,h3,hp,rfl,rfl⟩
 ·exact Or.inr ⟨h1,rfl,rfl⟩
theorem se.other {C:Cfg} {ops:List Oper} {o:Oper} {s s':AS} {v:AV} {u:List (Nat × SObj)} {f:gw} (hs:se C ops o s v u f)
  (hT:∀t∈jB ops o,s.T t=s'.T t) (hB:∀id∈f.1,s.B id=s'.B id):se C ops o s' v u f:=by
 have hg:=xH hT
 rcases hs with ⟨h1,e,h2,h3,hp,rfl,rfl,rfl⟩ | ⟨h1,rfl,rfl,rfl⟩
 ·obtain ⟨l1,l2,l3⟩:=AF C o s.T s'.T s.B s'.B (AG fun t ht=>hT t (by simp [jB,ht])) hB h2
  exact Or.inl ⟨by rw [←hg,h1],e,l2,h3,by rw [←l3,hp],rfl,rfl,by rw [l1]⟩
 ·exact Or.inr ⟨by rw [←hg,h1],rfl,rfl,rfl⟩
theorem fB:∀(u:List (Nat × SObj)) (B:Nat→Option SObj) (j:Nat),j∉u.map (·.1)→updB B u j=B j
 | [],B,j,_=>rfl
 | (i,o) ::r,B,j,h=>by
  simp at h
  simp only [updB]
  rw [fB r _ j (by simpa using h.2)]
  have:¬i=j:=fun e=>h.1 e.symm
  simp [this]
theorem mb:∀(u:List (Nat × SObj)) (B B':Nat→Option SObj) (j:Nat),B j=B' j→updB B u j=updB B' u j
 | [],B,B',j,h=>h
 | (i,o) ::r,B,B',j,h=>by
  simp only [updB]
  exact mb r _ _ j (by show (if i=j then _ else _)=(if i=j then _ else _);rw [h])
theorem AH (u v:List (Nat × SObj)) (B:Nat→Option SObj) (h:∀x∈u.map (·.1),x∉v.map (·.1)):updB (updB B u) v=updB (updB B v) u:=by
 funext j
 by_cases hu:j∈u.map (·.1)
 ·rw [fB v _ j (h j hu)]
  exact mb u _ _ j (fB v B j (h j hu)).symm
 ·rw [fB u _ j hu]
  exact mb v _ _ j (fB u B j hu)
theorem AI {T:Nat→AV} {d d':Option Nat} {x y:AV} (h:∀i,d=some i→d'≠some i):cE (cE T d x) d' y=cE (cE T d' y) d x:=by
 cases d with
 | none=>rfl
 | some i=>
  cases d' with
  | none=>rfl
  | some j=>
   have hij:¬i=j:=fun e=>h i rfl (by rw [e])
   funext k
   simp only [cE]
   by_cases h1:i=k
   ·subst h1
    have:¬j=i:=fun e=>hij e.symm
    simp [this]
   ·simp [h1]
theorem zN {T:Nat→AV} {d:Option Nat} {v:AV} {t:Nat} (h:d≠some t):cE T d v t=T t:=by
 cases d with
 | none=>rfl
 | some d=>
  simp only [cE]
  rw [if_neg (fun e=>h (by rw [e]))]
theorem ie {a b:List Nat} (h:Ao a b=true):∀x∈a,x∉b:=by
 intro x hx
 have:=List.all_eq_true.1 h x hx
 simpa using this
theorem q9.swap {C:Cfg} {ops:List Oper} {x y:Oper} {s s1 s2:AS} {f g:gw} (hy:q9 C ops y s s1 g) (hx:q9 C ops x s1 s2 f)
  (ha:sX ops y x=true) (hf:sY g f=true):∃s1',q9 C ops x s s1' f/\q9 C ops y s1' s2 g:=by
 simp only [sX,Bool.and_eq_true] at ha
 obtain ⟨ha1,ha2⟩:=ha
 simp only [sY,Bool.and_eq_true] at hf
 have hf1:=ie hf.1
 have hf2:=ie hf.2
 have yd:∀t,y.dst=some t→t∉jB ops x/\x.dst≠some t:=by
  intro t ht
  rw [ht] at ha1
  simp at ha1
  exact ha1
 have xd:∀t,x.dst=some t→t∉jB ops y:=by
  intro t ht
  rw [ht] at ha2
  simpa using ha2
 obtain ⟨vy,uy,hy0,e1,ey⟩:=hy.eff
 subst e1
 obtain ⟨vx,ux,hx0,e2,ex⟩:=hx.eff
 subst e2
 have hx1:=hx0.other (s':=s)
  (fun t ht=>zN (fun e=>(yd t e).1 ht))
  (fun id hid=>fB uy _ id (fun hm=>hf1 id (by rw [ey];exact hm) (by simp [hid])))
 have hy1:=hy0.other (s':=⟨cE s.T x.dst vx,updB s.B ux⟩)
  (fun t ht=>(zN (fun e=>xd t e ht)).symm)
  (fun id hid=>(fB ux _ id (fun hm=>hf2 id (by rw [ex];exact hm) hid)).symm)
 refine ⟨_,hx1.step,?_⟩
 have h2:=hy1.step
 have hgoal:(⟨cE (cE s.T y.dst vy) x.dst vx,updB (updB s.B uy) ux⟩:AS)=⟨cE (cE s.T x.dst vx) y.dst vy,updB (updB s.B ux) uy⟩:=by
  rw [AI (fun i hi=>(yd i hi).2),AH uy ux _ (fun i hi hi'=>hf1 i (by rw [ey];exact hi) (by simp [ex,hi']))]
 rw [hgoal]
 exact h2
def vi (C:Cfg) (ops:List Oper) (fs:Nat→gw):List Nat→AS→AS→Prop
 | [],s,s'=>s=s'
 | i ::r,s,s'=>∃o s1,ops[i]?=some o/\q9 C ops o s s1 (fs i)/\vi C ops fs r s1 s'
def D1 (ops:List Oper) (fs:Nat→gw) (j i:Nat):Prop:=
 ∀x y,ops[j]?=some x→ops[i]?=some y→sX ops x y=true/\sY (fs j) (fs i)=true
theorem vi.front {C:Cfg} {ops:List Oper} {fs:Nat→gw}:∀(r1:List Nat) (i:Nat) (r2:List Nat) (s sN:AS),
  vi C ops fs (r1++i ::r2) s sN→(∀j∈r1,D1 ops fs j i)→vi C ops fs (i ::(r1++r2)) s sN
 | [],i,r2,s,sN,h,_=>h
 | j ::r1,i,r2,s,sN,h,ha=>by
  obtain ⟨o,s1,ho,hs,hr⟩:=h
  obtain ⟨o',s2,ho',hs',hr'⟩:=vi.front r1 i r2 s1 sN hr (fun j hj=>ha j (by simp [hj]))
  obtain ⟨a1,a2⟩:=ha j (by simp) o o' ho ho'
  obtain ⟨s1',k1,k2⟩:=hs.swap hs' a1 a2
  exact ⟨o',s1',ho',k1,o,s2,ho,k2,hr'⟩
theorem oz (C:Cfg) (ops:List Oper):∀(l:List Oper) (i:Nat) (s sN:AS) (fl:List gw) (fs:Nat→gw),ops.drop i=l→xE C ops l s fl sN→
  (∀k,fs (i+k)=fl.getD k ([],[]))→vi C ops fs (List.range' i l.length) s sN
 | [],i,s,sN,fl,fs,_,h,_=>h.1
 | o ::r,i,s,sN,fl,fs,hl,h,hf=>by
  obtain ⟨s1,f,fs',hs,hr,rfl⟩:=h
  have hi:ops[i]?=some o:=by
   have:(ops.drop i)[0]?=some o:=by rw [hl];rfl
   rw [List.getElem?_drop] at this
   simpa using this
  have hl':ops.drop (i+1)=r:=by rw [←List.tail_drop,hl];rfl
  refine ⟨o,s1,hi,?_,oz C ops r (i+1) s1 sN fs' fs hl' hr (fun k=>?_)⟩
  ·have:=hf 0
   simp at this
   rw [this]
   exact hs
  ·have:=hf (k+1)
   simp at this
   rw [List.getD_eq_getElem?_getD,←this]
   congr 1
   omega
end Go.AL
end
section
namespace Go.AL
variable [Tabs]
def gj (acc:List (List Nat)) (o:Oper):List Nat:=(o.after.toList.filter (Region.binds .any)).flatMap fun e=>e.on ::acc.getD e.on []
def dp (ops:List Oper):List (List Nat):=ops.foldl (fun acc o=>acc++[gj acc o]) []
theorem xI (ops:List Oper):dp ops=ops.foldl (fun acc o=>acc++[gj acc o]) []:=rfl
theorem xJ {l:List Edge} {acc:List Nat} {i:Nat}:∀{m:Nat},(l.foldl (fun m e=>m ||| 2 ^ e.on ||| acc.getD e.on 0) m).testBit i=true→
  m.testBit i=true∨∃e∈l,e.on=i∨(acc.getD e.on 0).testBit i=true:=by
 induction l with
 | nil=>intro m h;exact Or.inl h
 | cons e r ih=>
  intro m h
  rcases ih h with h | ⟨x,hx,h⟩
  ·simp only [Nat.testBit_or,Bool.or_eq_true,Nat.testBit_two_pow,decide_eq_true_eq] at h
   rcases h with (h | h) | h
   ·exact Or.inl h
   ·exact Or.inr ⟨e,by simp,Or.inl h⟩
   ·exact Or.inr ⟨e,by simp,Or.inr h⟩
  ·exact Or.inr ⟨x,List.mem_cons_of_mem _ hx,h⟩
theorem vj (ops:List Oper):(xm ops).length=(dp ops).length/\∀j i,((xm ops).getD j 0).testBit i=true→i∈(dp ops).getD j []:=by
 suffices h:∀(ops:List Oper) (a:List Nat) (b:List (List Nat)),a.length=b.length→(∀j i,(a.getD j 0).testBit i=true→i∈b.getD j [])→
   (ops.foldl (fun acc o=>acc++[pG acc o]) a).length=(ops.foldl (fun acc o=>acc++[gj acc o]) b).length/\
   ∀j i,((ops.foldl (fun acc o=>acc++[pG acc o]) a).getD j 0).testBit i=true→i∈(ops.foldl (fun acc o=>acc++[gj acc o]) b).getD j [] by
  exact h ops [] [] rfl (by simp)
 intro ops
 induction ops with
 | nil=>exact fun a b hl h=>⟨hl,h⟩
 | cons o r ih=>
  intro a b hl h
  refine ih (a++[pG a o]) (b++[gj b o]) (by simp [hl]) fun j i hb=>?_
  rcases Nat.lt_trichotomy j a.length with hj | hj | hj
  ·rw [List.getD_eq_getElem?_getD,List.getElem?_append_left hj,←List.getD_eq_getElem?_getD] at hb
   rw [List.getD_eq_getElem?_getD,List.getElem?_append_left (by omega),←List.getD_eq_getElem?_getD]
   exact h j i hb
  ·subst hj
   rw [List.getD_eq_getElem?_getD,List.getElem?_append_right (Nat.le_refl _),Nat.sub_self] at hb
   rw [hl,List.getD_eq_getElem?_getD,List.getElem?_append_right (Nat.le_refl _),Nat.sub_self]
   simp only [List.getElem?_cons_zero,Option.getD_some] at hb ⊢
   unfold pG at hb
   rcases xJ hb with hz | ⟨e,he,hz⟩
   ·simp at hz
   ·unfold gj
    rw [List.mem_flatMap]
    refine ⟨e,he,?_⟩
    rcases hz with rfl | hz
    ·simp
    ·exact List.mem_cons_of_mem _ (h _ _ hz)
  ·rw [List.getD_eq_getElem?_getD,List.getElem?_eq_none (by simp;omega)] at hb
   simp at hb
theorem jK (l:List Oper) (o:Oper):dp (l++[o])=dp l++[gj (dp l) o]:=by
 simp only [xI,List.foldl_append,List.foldl_cons,List.foldl_nil]
theorem oA:∀(r l:List Oper),∃t,dp (l++r)=dp l++t
 | [],l=>⟨[],by simp⟩
 | o ::r,l=>by
  obtain ⟨t,ht⟩:=oA r (l++[o])
  refine ⟨gj (dp l) o ::t,?_⟩
  rw [show l++o ::r=(l++[o])++r from by simp,ht,jK]
  simp
theorem qc (l:List Oper):(dp l).length=l.length:=by
 induction h:l.length generalizing l with
 | zero=>rw [List.eq_nil_of_length_eq_zero h];rfl
 | succ n ih=>
  have hne:l≠[]:=fun e=>by rw [e] at h;simp at h
  have hs:=List.dropLast_concat_getLast hne
  rw [←hs,jK]
  simp only [List.length_append,List.length_singleton]
  rw [ih l.dropLast (by simp [h])]
theorem xK {l:List Oper} {i:Nat} {o:Oper} (h:l[i]?=some o) :
  (dp l).getD i []=gj (dp (l.take i)) o/\∀m,m < i→(dp l).getD m []=(dp (l.take i)).getD m []:=by
 have hi:i < l.length:=by
  rcases Nat.lt_or_ge i l.length with k | k
  ·exact k
  ·rw [List.getElem?_eq_none k] at h;cases h
 have ho:l[i]=o:=by rw [List.getElem?_eq_getElem hi] at h;simpa using h
 have e:l=(l.take i++[o])++l.drop (i+1):=by
  rw [←ho,List.append_assoc,List.singleton_append,←List.drop_eq_getElem_cons hi,List.take_append_drop]
 obtain ⟨t,ht⟩:=oA (l.drop (i+1)) (l.take i++[o])
 rw [←e,jK] at ht
 have hl:(dp (l.take i)).length=i:=by rw [qc];simp;omega
 refine ⟨?_,fun m hm=>?_⟩
 ·rw [ht,List.getD_eq_getElem?_getD,List.append_assoc,List.getElem?_append_right (by omega),hl]
  simp
 ·rw [ht,List.getD_eq_getElem?_getD,List.append_assoc,List.getElem?_append_left (by omega),List.getD_eq_getElem?_getD]
theorem tG {l:List Oper} (he:∀(i:Nat) (o:Oper),l[i]?=some o→∀e∈o.after.toList,Region.binds .any e=true→e.on < i) {L:Nat→Prop}
  (hd:∀(i:Nat) (o:Oper),l[i]?=some o→L i→∀e∈o.after.toList,Region.binds .any e=true→L e.on) :
  ∀(n i:Nat) (o:Oper),i < n→l[i]?=some o→(∀e∈o.after.toList,Region.binds .any e=true→L e.on)→∀k∈(dp l).getD i [],L k:=by
 intro n
 induction n with
 | zero=>intro i o hi;omega
 | succ n ih=>
  intro i o hi ho hp k hk
  obtain ⟨h1,h2⟩:=xK ho
  rw [h1] at hk
  simp only [gj,List.mem_flatMap,List.mem_filter,List.mem_cons] at hk
  obtain ⟨e,⟨he1,he2⟩,hk⟩:=hk
  have hlt:=he i o ho e he1 he2
  rcases hk with rfl | hk
  ·exact hp e he1 he2
  ·rw [←h2 e.on hlt] at hk
   have hlen:e.on < l.length:=by
    have:i < l.length:=by
     rcases Nat.lt_or_ge i l.length with k | k
     ·exact k
     ·rw [List.getElem?_eq_none k] at ho;cases ho
    omega
   have ho':l[e.on]?=some l[e.on]:=List.getElem?_eq_getElem hlen
   exact ih e.on _ (by omega) ho' (hd e.on _ ho' (hp e he1 he2)) k hk
theorem rE {l:List Oper} {fl:List gw} (h:iq l fl=true) :
  (∀(i:Nat) (o:Oper),l[i]?=some o→∀e∈o.after.toList,Region.binds .any e=true→e.on < i)/\
  ∀j i,i < j→j < l.length→i∈(dp l).getD j []∨D1 l (fun k=>fl.getD k ([],[])) i j:=by
 simp only [iq,Bool.and_eq_true,List.all_eq_true] at h
 obtain ⟨h1,h2⟩:=h
 refine ⟨fun i o ho e he hb=>?_,fun j i hij hj=>?_⟩
 ·have hm:(o,i)∈l.zipIdx:=by
   rw [List.mem_zipIdx_iff_getElem?]
   exact ho
  have:=h2 (o,i) hm
  simp only [Array.all_eq_true,Bool.or_eq_true,Bool.not_eq_true',Nat.blt_eq] at this
  obtain ⟨k,hk,hke⟩:=Array.mem_iff_getElem.1 (Array.mem_toList_iff.1 he)
  have:=this k hk
  rw [hke] at this
  rcases this with h | h
  ·rw [hb] at h;cases h
  ·exact h
 ·have:=h1 j (List.mem_range.2 hj) i (List.mem_range.2 hij)
  simp only [Bool.or_eq_true] at this
  rcases this with h | h
  ·left;exact (vj l).2 j i h
  ·right
   intro x y hx hy
   simp only [km,hx,hy] at h
   split at h
   ·rename_i x' y' f g e1 e2 e3 e4
    simp at e1 e2
    subst e1 e2
    simp only [Bool.and_eq_true] at h
    simp only [List.getD_eq_getElem?_getD,e3,e4,Option.getD_some]
    exact h
   ·simp at h
section
variable {P:Program} {C:Cfg} {ops:Array Oper} {Q:Exit→Act→World→Prop} {F:Fr}
theorem any_sound (hT:bH P C.tbl) (hS:dG P C.spec) (hdst:∀(o:Oper),o∈ops.toList→∀d,o.dst=some d→d < F.n)
  {fs:Nat→gw} {sN:AS} (he:∀(i:Nat) (o:Oper),ops.toList[i]?=some o→∀e∈o.after.toList,Region.binds .any e=true→e.on < i)
  (hi:∀j i,i < j→j < ops.size→i∈(dp ops.toList).getD j []∨D1 ops.toList fs i j)
  (hQ:∀a' Ω',Holds F sN a' Ω'→Q .normal a' Ω'.w) :
  ∀(fuel:Nat) (R:List Nat) (listed:Array Bool) (s:AS) (a:Act) (Ω:Om),R.length=fuel→listed.size=ops.size→
   (∀i,i < ops.size→(listed.getD i true=false↔i∈R))→R.Pairwise (· < ·)→(∀i∈R,i < ops.size)→
   (∀(i:Nat) (o:Oper),ops.toList[i]?=some o→listed.getD i true=true→∀e∈o.after.toList,Region.binds .any e=true→listed.getD e.on true=true)→
   vi C ops.toList fs R s sN→Holds F s a Ω→wpAny P .any ops Q fuel listed a Ω.w:=by
 intro fuel
 have mem_ready:∀{listed:Array Bool} {i:Nat},i∈Region.ready .any ops listed↔
   i < ops.size/\listed.getD i true=false/\∃o,ops[i]?=some o/\∀e∈o.after.toList,Region.binds .any e=true→listed.getD e.on false=true:=by
  intro listed i
  unfold Region.ready
  simp only [List.mem_filter,List.mem_range,Bool.and_eq_true,Bool.not_eq_true']
  constructor
  ·rintro ⟨h1,h2,h3⟩
   refine ⟨h1,h2,?_⟩
   cases ho:ops[i]? with
   | none=>rw [ho] at h3;simp at h3
   | some o=>
    rw [ho] at h3
    refine ⟨o,rfl,fun e hem hb=>?_⟩
    simp only [Option.map_some,Option.getD_some,Array.all_eq_true,Bool.or_eq_true,Bool.not_eq_true'] at h3
    obtain ⟨k,hk,hke⟩:=Array.mem_iff_getElem.1 (Array.mem_toList_iff.1 hem)
    have:=h3 k hk
    rw [hke] at this
    rcases this with h | h
    ·rw [hb] at h;cases h
    ·exact h
  ·rintro ⟨h1,h2,o,ho,h3⟩
   refine ⟨h1,h2,?_⟩
   rw [ho]
   simp only [Option.map_some,Option.getD_some,Array.all_eq_true,Bool.or_eq_true,Bool.not_eq_true']
   intro k hk
   cases hb:Region.binds .any o.after[k] with
   | false=>exact Or.inl rfl
   | true=>exact Or.inr (h3 _ (Array.mem_toList_iff.2 (Array.getElem_mem hk)) hb)
 have two:∀{listed:Array Bool} {i:Nat},listed.size=ops.size→i < ops.size→listed.getD i true=listed.getD i false:=by
  intro listed i hs hi'
  simp [Array.getD_eq_getD_getElem?,hs,hi']
 have least:∀(R:List Nat) (listed:Array Bool),listed.size=ops.size→(∀i,i < ops.size→(listed.getD i true=false↔i∈R))→R.Pairwise (· < ·)→(∀i∈R,i < ops.size)→
   Region.ready .any ops listed=[]→R=[]:=by
  intro R listed hs hl hp hlt hr
  cases R with
  | nil=>rfl
  | cons m R=>
   have hm:=hlt m (by simp)
   have:m∈Region.ready .any ops listed:=by
    refine mem_ready.2 ⟨hm,(hl m hm).2 (by simp),ops[m],Array.getElem?_eq_getElem hm,fun e hem hb0=>?_⟩
    have hon:=he m ops[m] (by rw [Array.getElem?_toList];exact Array.getElem?_eq_getElem hm) e hem hb0
    rw [←two hs (by omega)]
    cases hb:listed.getD e.on true with
    | true=>rfl
    | false=>
     have hin:=(hl e.on (by omega)).1 hb
     simp only [List.mem_cons] at hin
     rcases hin with hin | hin
     ·omega
     ·have:=(List.pairwise_cons.1 hp).1 e.on hin
      omega
   rw [hr] at this
   cases this
 induction fuel with
 | zero=>
  intro R listed s a Ω hlen hs hl hp hlt hdc hrun h
  have hR:=List.eq_nil_of_length_eq_zero hlen
  subst hR
  have hsn:s=sN:=hrun
  subst hsn
  refine ⟨?_,hQ a Ω h⟩
  cases hr:Region.ready .any ops listed with
  | nil=>rfl
  | cons i r=>
   have:i∈Region.ready .any ops listed:=by rw [hr];simp
   obtain ⟨h1,h2,_⟩:=mem_ready.1 this
   have:=(hl i h1).1 h2
   cases this
 | succ fuel ih=>
  intro R listed s a Ω hlen hs hl hp hlt hdc hrun h
  refine ⟨fun hr=>?_,fun i hir=>?_⟩
  ·have hR:=least R listed hs hl hp hlt hr
   subst hR
   have hsn:s=sN:=hrun
   subst hsn
   exact hQ a Ω h
  ·obtain ⟨h1,h2,o,ho,h3⟩:=mem_ready.1 hir
   have hiR:=(hl i h1).1 h2
   obtain ⟨r1,r2,hR⟩:=List.append_of_mem hiR
   subst hR
   have hpre:∀e∈o.after.toList,Region.binds .any e=true→listed.getD e.on true=true:=by
    intro e hem hb
    have hon:=he i o (by rw [Array.getElem?_toList];exact ho) e hem hb
    rw [two hs (by omega)]
    exact h3 e hem hb
   have hal:=tG (l:=ops.toList) he (L:=fun k=>listed.getD k true=true) hdc (i+1) i o (by omega) (by rw [Array.getElem?_toList];exact ho) hpre
   have hp':=List.pairwise_append.1 hp
   have hfront:=vi.front r1 i r2 s sN hrun (fun j hj=>by
    have hji:j < i:=hp'.2.2 j hj i (by simp)
    rcases hi i j hji h1 with hk | hk
    ·have:=hal j hk
     have hjf:=(hl j (by omega)).2 (by simp [hj])
     rw [this] at hjf
     cases hjf
    ·exact hk)
   obtain ⟨o',s1,ho',hstep,hrest⟩:=hfront
   have hoo:o'=o:=by
    rw [Array.getElem?_toList,ho] at ho'
    simpa using ho'.symm
   subst hoo
   refine xF hT hS ho (hdst o' (List.mem_of_getElem? ho')) h hstep (fun a' Ω' h'=>?_)
   have hnd:i∉r1/\i∉r2:=by
    refine ⟨fun hm=>?_,fun hm=>?_⟩
    ·have:=hp'.2.2 i hm i (by simp);omega
    ·have:=(List.pairwise_cons.1 hp'.2.1).1 i hm;omega
   refine ih (r1++r2) (listed.setIfInBounds i true) s1 a' Ω' (by simp at hlen ⊢;omega) (by simpa using hs) (fun k hk=>?_) ?_ (fun k hk=>hlt k (by simp at hk ⊢;rcases hk with hk | hk <;> simp [hk])) (fun k ok hok hkl e hem hb=>?_) hrest h'
   ·by_cases hik:i=k
    ·subst hik
     simp [Array.getD_eq_getD_getElem?,hs,h1,hnd.1,hnd.2]
    ·have:(listed.setIfInBounds i true).getD k true=listed.getD k true:=by simp [Array.getD_eq_getD_getElem?,hik]
     rw [this,hl k hk]
     simp
     have:¬k=i:=fun e=>hik e.symm
     simp [this]
   ·refine List.pairwise_append.2 ⟨hp'.1,(List.pairwise_cons.1 hp'.2.1).2,fun x hx y hy=>hp'.2.2 x hx y (by simp [hy])⟩
   ·have key:∀m,listed.getD m true=true→(listed.setIfInBounds i true).getD m true=true:=by
     intro m hm
     by_cases him:i=m
     ·subst him
      simp [Array.getD_eq_getD_getElem?,hs,h1]
     ·have:(listed.setIfInBounds i true).getD m true=listed.getD m true:=by simp [Array.getD_eq_getD_getElem?,him]
      rw [this,hm]
    by_cases hik:i=k
    ·subst hik
     rw [Array.getElem?_toList,ho] at hok
     simp at hok
     subst hok
     exact key _ (hpre e hem hb)
    ·have:(listed.setIfInBounds i true).getD k true=listed.getD k true:=by simp [Array.getD_eq_getD_getElem?,hik]
     rw [this] at hkl
     exact key _ (hdc k ok hok hkl e hem hb)
theorem tH (hm:P.follows .mixedOrders=true) (hT:bH P C.tbl) (hS:dG P C.spec) {id:Nat} {draw:Bool}
  (hdst:∀(o:Oper),o∈ops.toList→∀d,o.dst=some d→d < F.n) {kp:AV→St→Prop} {k:St→List gw→Prop} {s:St} {a:Act} {Ω:Om}
  (hrun:cX C ops.toList draw kp ops.toList 0 s [] k) (hind:draw=true→∀s fs,k s fs→iq ops.toList fs=true) (h:Holds F s.abs a Ω)
  (hQ:∀s fs a' Ω',k s fs→Holds F s.abs a' Ω'→Q .normal a' Ω'.w) (hP:∀pv s a' Ω' v,kp pv s→Holds F s.abs a' Ω'→V Ω' pv v→Q (.panic [{v,recovered:=false}]) a' Ω'.w) :
  (Code.region id ops draw).wp P Q a Ω.w:=by
 cases draw with
 | false=>
  refine wp_region ?_
  have:=lc (Q:=Q) hT hS hdst hQ hP ops.toList 0 s [] a Ω rfl hrun h
  rw [List.range_eq_range']
  simpa using this
 | true=>
  obtain ⟨s',fl,hr0,hk⟩:=ma C ops.toList kp k ops.toList 0 s [] hrun
  simp only [List.reverse_nil,List.nil_append] at hk
  obtain ⟨h1,h2⟩:=rE (hind rfl s' fl hk)
  refine wp_region_any hm ?_
  have hr:=oz C ops.toList ops.toList 0 s.abs s'.abs fl (fun k=>fl.getD k ([],[])) rfl hr0 (fun k=>by simp)
  have:=any_sound (Q:=Q) hT hS hdst (fs:=fun k=>fl.getD k ([],[])) h1 (fun j i hij hj=>h2 j i hij (by simpa using hj)) (fun a' Ω' h'=>hQ s' fl a' Ω' hk h') ops.size (List.range' 0 ops.toList.length)
   (Array.replicate ops.size false) s.abs a ⟨Ω.e,Ω.w.drew,Ω.pub⟩ (by simp) (by simp) (fun i hi=>by simp [Array.getD_eq_getD_getElem?,hi,List.mem_range'])
   (List.pairwise_lt_range') (fun i hi=>by simp [List.mem_range'] at hi;omega)
   (fun i o ho hl=>by
    have hi:i < ops.size:=by
     rw [Array.getElem?_toList] at ho
     rcases Nat.lt_or_ge i ops.size with k | k
     ·exact k
     ·rw [Array.getElem?_eq_none k] at ho;cases ho
    simp [Array.getD_eq_getD_getElem?,hi] at hl) hr h.drew
  exact this
end
end Go.AL
end
