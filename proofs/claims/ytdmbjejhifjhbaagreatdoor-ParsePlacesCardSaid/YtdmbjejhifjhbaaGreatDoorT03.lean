/- The layer: Go code as conditions, and that they are sound. No condition. -/
import Derived.Test.YtdmbjejhifjhbaaGreatDoorT02
import Derived.Laws.StructEq
set_option linter.unusedVariables false
set_option linter.unusedSimpArgs false
set_option linter.unnecessarySimpa false
set_option linter.deprecated false
set_option linter.unusedSectionVars false
set_option maxRecDepth 100000
section
namespace Go.AL
variable [Tabs]
section
variable {P:Program} {C:Cfg} {o:Oper}
theorem iO (k:IntKind) (n:Int) (h1:k.min<=n) (h2:n<=k.max):k.wrap n=n:=by
 cases k <;> simp only [IntKind.min,IntKind.max,IntKind.signed,IntKind.bits,IntKind.wrap] at *<;> simp at *<;> omega
theorem Au {op:BinOp} {t:Nat} {x y:Operand} {k k':IntKind} {a b:Int}:eqGuard op t x y (.int k a) (.int k' b)=pure ():=by
 unfold eqGuard
 cases op <;> rfl
theorem Av {op:BinOp} {t:Nat} {x y:Operand} {a b:ByteArray}:eqGuard op t x y (.string a) (.string b)=pure ():=by
 unfold eqGuard
 cases op <;> rfl
theorem xp {op:BinOp} {t:Nat} {x y:Operand} {a b:Bool}:eqGuard op t x y (.bool a) (.bool b)=pure ():=by
 unfold eqGuard
 cases op <;> rfl
theorem F9 {Ω:Om} {op:BinOp} {t:Nat} {k:IntKind} {m n:Int} {eff:Eff} (he:xe op k m n=some eff) (ho:eff.asks) {w:World}
  (hm:k.min<=m/\m<=k.max) (hn:k.min<=n/\n<=k.max) :
  eff.upd=[]/\∃v,(binOp op t (.int k m) (.int k n)).run P w=.ok v w/\V Ω eff.val v:=by
 have hmax:k.min<=0/\0<=k.max:=by cases k <;> simp [IntKind.min,IntKind.max,IntKind.signed,IntKind.bits]
 cases op <;> simp only [xe,Xs,reduceCtorEq] at he <;> subst he <;> refine ⟨rfl,?_⟩
 case add=>
  obtain ⟨h1,h2⟩:=ho
  exact ⟨_,by simp [binOp,Op.intArith,iO k _ h1 h2],.int k _ h1 h2⟩
 case sub=>
  obtain ⟨h1,h2⟩:=ho
  exact ⟨_,by simp [binOp,Op.intArith,iO k _ h1 h2],.int k _ h1 h2⟩
 case mul=>
  obtain ⟨h1,h2⟩:=ho
  exact ⟨_,by simp [binOp,Op.intArith,iO k _ h1 h2],.int k _ h1 h2⟩
 case quo=>
  obtain ⟨h0,h1,h2⟩:=ho
  exact ⟨_,by simp [binOp,Op.intDiv,iO k _ h1 h2,h0],.int k _ h1 h2⟩
 case rem=>
  obtain ⟨h0,h1,h2⟩:=ho
  exact ⟨_,by simp [binOp,Op.intDiv,h0],.int k _ h1 h2⟩
 case eql=>exact ⟨.bool (decide (m=n)),by simp [binOp,Op.intCmp];by_cases h:m=n <;> simp [h],.bool _⟩
 case neq=>exact ⟨.bool (!decide (m=n)),by simp [binOp,Op.intCmp];by_cases h:m=n <;> simp [h],.bool _⟩
 case lss=>exact ⟨_,by simp [binOp,Op.intCmp],.bool _⟩
 case leq=>exact ⟨_,by simp [binOp,Op.intCmp],.bool _⟩
 case gtr=>exact ⟨_,by simp [binOp,Op.intCmp],.bool _⟩
 case geq=>exact ⟨_,by simp [binOp,Op.intCmp],.bool _⟩
theorem fk (l:List UInt8):(⟨l.toArray⟩:ByteArray).toList=l:=by
 have h:∀(b:ByteArray) (i:Nat) (r:List UInt8),ByteArray.toList.loop b i r=r.reverse++b.data.toList.drop i:=by
  intro b i r
  induction hk:b.size - i generalizing i r with
  | zero=>
   unfold ByteArray.toList.loop
   rw [if_neg (by omega)]
   have:b.data.toList.drop i=[]:=List.drop_eq_nil_of_le (by simp;exact Nat.le_of_sub_eq_zero hk)
   simp [this]
  | succ k ih=>
   unfold ByteArray.toList.loop
   have hlt:i < b.size:=by omega
   rw [if_pos hlt,ih (i+1) _ (by omega)]
   have hlt':i < b.data.toList.length:=by simpa using hlt
   rw [List.drop_eq_getElem_cons hlt']
   simp [ByteArray.get!,hlt]
 unfold ByteArray.toList
 rw [h]
 simp
theorem mM (m n:Str):(m ==n)=decide (m=n):=by rw [Bool.eq_iff_iff];simp
theorem Fa {Ω:Om} {op:BinOp} {t:Nat} {m n:Str} {eff:Eff} (he:xf op m n=some eff) (ho:eff.asks) {w:World} :
  eff.upd=[]/\∃v,(binOp op t (.string ⟨m.toArray⟩) (.string ⟨n.toArray⟩)).run P w=.ok v w/\V Ω eff.val v:=by
 cases op <;> simp only [xf,Xs,reduceCtorEq] at he <;> subst he <;> refine ⟨rfl,?_⟩
 case add=>
  have h1:m.length+n.length<=9223372036854775807:=ho
  have e:(⟨m.toArray⟩:ByteArray)++⟨n.toArray⟩=⟨(m++n).toArray⟩:=by
   apply ByteArray.ext
   simp
  refine ⟨.string ⟨(m++n).toArray⟩,?_,.str (m++n) (by unfold ck;simp;omega)⟩
  have e2:¬(((ByteArray.size ⟨m.toArray⟩+ByteArray.size ⟨n.toArray⟩:Nat):Int) > IntKind.i64.max):=by
   simp [ByteArray.size,IntKind.max,IntKind.signed,IntKind.bits]
   omega
  simp only [binOp,Op.stringOp]
  rw [if_neg e2,e]
  rfl
 case eql=>exact ⟨.bool (decide (m=n)),by simp [binOp,Op.stringOp,fk,mM],.bool _⟩
 case neq=>exact ⟨.bool (!decide (m=n)),by simp [binOp,Op.stringOp,fk,mM],.bool _⟩
 case lss=>exact ⟨.bool (Op.bytesLess m n),by simp [binOp,Op.stringOp,fk],.bool _⟩
 case leq=>exact ⟨.bool (Op.bytesLess m n || decide (m=n)),by simp [binOp,Op.stringOp,fk,mM],.bool _⟩
 case gtr=>exact ⟨.bool (!(Op.bytesLess m n || decide (m=n))),by simp [binOp,Op.stringOp,fk,mM],.bool _⟩
 case geq=>exact ⟨.bool (!Op.bytesLess m n),by simp [binOp,Op.stringOp,fk],.bool _⟩
theorem nD (d:Nat) {t:Nat} {m n:Bool} (hu:P.underlying t=some .bool) {w:World} :
  (Op.equalIn (d+1) t (.bool m) (.bool n)).run P w=.ok (m ==n) w:=by
 unfold Op.equalIn
 simp only [Sem.run_bind,aV hu,Result.andThen_ok]
 rfl
theorem kr {t:Nat} {m n:Bool} (hu:P.underlying t=some .bool) {w:World} :
  (Op.equal t (.bool m) (.bool n)).run P w=.ok (m ==n) w:=nD 9999 hu
theorem CL {Ω:Om} {op:BinOp} {t:Nat} {m n:Bool} {eff:Eff} (hu:P.underlying t=some .bool) (he:sT op m n=some eff) {w:World} :
  eff.upd=[]/\∃v,(binOp op t (.bool m) (.bool n)).run P w=.ok v w/\V Ω eff.val v:=by
 cases op <;> simp only [sT,Xs,reduceCtorEq] at he <;> subst he <;> refine ⟨rfl,?_⟩
 case eql=>exact ⟨.bool (m ==n),by simp [binOp,kr hu],.bool _⟩
 case neq=>exact ⟨.bool (!(m ==n)),by simp [binOp,kr hu],.bool _⟩
theorem aS (hT:bH P C.tbl) {t:Nat} {r:TR} (hr:aT C.tbl t=some r) {ti:TI} (hti:r.ti=ti) :
  ∃d,P.underlying t=some d/\aZ P ti d=true:=by
 obtain ⟨d,h1,h2⟩:=(hT t r hr).desc
 exact ⟨d,h1,by rw [←hti];exact h2⟩
theorem te (hT:bH P C.tbl) {ft:Nat} {rt:TR} (hr:aT C.tbl ft=some rt) {Ω:Om} {c d:AV} {u v:Value} {b:Bool} (h:xi rt.ti c d=some b)
  (hu:V Ω c u) (hv:V Ω d v) (dep:Nat) (w:World):(Op.equalIn (dep+1) ft u v).run P w=.ok b w/\rt.isAgg=false:=by
 obtain ⟨dd,hd1,hd2⟩:=aS hT hr rfl
 unfold TR.isAgg
 generalize rt.ti=ti at h hd2
 unfold xi at h
 split at h
 ·split at h
  ·rename_i j a k b' hjk
   subst hjk
   cases dd <;> simp [aZ] at hd2
   simp at h
   subst h
   rw [hu.int_inv.1,hv.int_inv.1]
   refine ⟨?_,rfl⟩
   rw [run_equalIn_int _ _ _ _ _ _ _ hd1]
   congr 1
  ·cases h
 ·cases dd <;> simp [aZ] at hd2
  simp at h
  subst h
  rw [hu.bool_inv,hv.bool_inv]
  exact ⟨run_equalIn_bool' _ _ _ _ _ hd1,rfl⟩
 ·cases dd <;> simp [aZ] at hd2
  simp at h
  subst h
  rw [hu.str_inv.1,hv.str_inv.1]
  refine ⟨?_,rfl⟩
  rw [run_equalIn_string _ _ _ _ _ hd1,fk,fk,mM]
 ·cases h
theorem mN (hT:bH P C.tbl) {Ω:Om} {cs ds:List AV} {xs ys:List Value} (hx:VL Ω cs xs) (hy:VL Ω ds ys) (dep:Nat) (w:World) :
  ∀(fields:List Field) (b:Bool),(∀f∈fields,f.name≠ "_")→CC C (fields.map fun f=>(f.offset,f.type)) cs ds=some b→
   (Op.eqFields (dep+1) xs.toArray ys.toArray fields).run P w=.ok b w
 | [],b,_,h=>by simp [CC] at h;subst h;simp [Op.eqFields]
 | f ::r,b,hn,h=>by
  simp only [List.map_cons,CC] at h
  split at h
  ·rename_i rt c d hr hc hd
   split at h
   ·rename_i b1 b2 h1 h2
    simp only [Xs] at h
    subst h
    rw [km] at hc hd
    have getv:∀{cs:List AV} {vs:List Value} {c:AV},VL Ω cs vs→cs[f.offset]?=some c→∃v,vs[f.offset]?=some v/\V Ω c v:=by
     intro cs vs c hv hc
     have hl:f.offset < cs.length:=by
      rcases Nat.lt_or_ge f.offset cs.length with k | k
      ·exact k
      ·rw [List.getElem?_eq_none k] at hc;cases hc
     have hl':f.offset < vs.length:=by rw [←hv.1];exact hl
     exact ⟨vs[f.offset],List.getElem?_eq_getElem hl',hv.2 _ c _ hc (List.getElem?_eq_getElem hl')⟩
    obtain ⟨u,hu1,hu2⟩:=getv hx hc
    obtain ⟨v,hv1,hv2⟩:=getv hy hd
    obtain ⟨k1,k2⟩:=te hT hr h1 hu2 hv2 dep w
    have hpart:∀{vs:List Value} {u:Value},vs[f.offset]?=some u→(part f.type vs.toArray f.offset).run P w=.ok u w:=by
     intro vs u hu
     simp [part,(hT _ _ hr).tf.agg,k2,hu]
    have ih:=mN hT hx hy dep w r b2 (fun g hg=>hn g (by simp [hg])) h2
    simp only [Op.eqFields,ne_eq,hn f (by simp),not_false_eq_true,if_true,Sem.run_bind,hpart hu1,hpart hv1,Result.andThen_ok,k1]
    cases b1
    ·simp
    ·simp [ih]
   ·cases h
  ·cases h
theorem pN {Ω:Om} {x:AV} {cs:List AV} {v:Value} (h:V Ω x v) (hc:mI x=some cs):∃vs:List Value,v=.agg vs.toArray/\VL Ω cs vs:=by
 unfold mI at hc
 split at hc
 ·simp at hc;subst hc;exact h.agg_inv
 ·simp at hc
  subst hc
  cases h with
  | st _ _ v hv=>exact hv.agg_inv
 ·cases hc
theorem Fb (hT:bH P C.tbl) {o:Oper} {op:BinOp} {t t':Nat} {x y:Operand} (hop:o.op=.binOp op t x y t') {a:Act} {Ω:Om} {cs ds:List AV} {xs ys:List Value}
  (hx:VL Ω cs xs) (hxv:a.eval x=.agg xs.toArray) (hyl:VL Ω ds ys) (hyv:a.eval y=.agg ys.toArray) {eff:Eff} (he:xj C op t cs ds=some eff) :
  eff.upd=[]/\∃v,(execOp a.eval o).run P Ω.w=.ok (.value v) Ω.w/\V Ω eff.val v:=by
 unfold xj at he
 split at he
 ·rename_i fs sz by' z ty hr
  split at he
  ·rename_i b hb
   obtain ⟨d,hd1,hd2⟩:=aS hT hr rfl
   obtain ⟨e1,e2⟩:=(hT _ _ hr).eqs fs rfl
   cases d <;> try (simp [aZ] at hd2;done)
   rename_i fields
   simp only [aZ,Bool.and_eq_true,decide_eq_true_eq,List.all_eq_true] at hd2
   obtain ⟨hf1,hf2⟩:=hd2
   have hfo:P.fieldsOf t=fields:=by simp [Program.fieldsOf,hd1]
   have hrun:(Op.equalIn 10000 t (.agg xs.toArray) (.agg ys.toArray)).run P Ω.w=.ok b Ω.w:=by
    rw [run_equalIn_struct Ω.w 9999 t _ _ (by rw [hfo];exact hd1) e1,hfo]
    exact mN hT hx hyl 9998 Ω.w fields.toList b (fun f hf=>by simpa using (hf2 f hf).2) (by rw [hf1];exact hb)
   have hg:=run_eqGuard_agg Ω.w op t x y xs.toArray ys.toArray e2
   split at he
   ·simp only [Xs] at he
    subst he
    exact ⟨rfl,.bool b,by simp [execOp,hop,hxv,hyv,hg,run_eql_struct,hrun],.bool _⟩
   ·simp only [Xs] at he
    subst he
    exact ⟨rfl,.bool (!b),by simp [execOp,hop,hxv,hyv,hg,run_neq_struct,hrun],.bool _⟩
   ·simp at he
  ·simp at he
 ·simp at he
theorem CM (hT:bH P C.tbl) {op:BinOp} {t t':Nat} {x y:Operand} (hop:o.op=.binOp op t x y t'):cG P C o:=by
 refine cG.pure fun F s a Ω eff h he ho=>?_
 simp only [aG,hop] at he
 have hx:=bC h x
 have hy:=bC h y
 split at he
 ·rename_i k m k' n hm hn
  rw [hm] at hx
  rw [hn] at hy
  split at he
  ·rename_i hk
   subst hk
   obtain ⟨hx1,hx2⟩:=hx.int_inv
   obtain ⟨hy1,hy2⟩:=hy.int_inv
   obtain ⟨h1,v,h2,h3⟩:=F9 (P:=P) (Ω:=Ω) (t:=t) (w:=Ω.w) he ho hx2 hy2
   exact ⟨h1,v,by simp [execOp,hop,hx1,hy1,Au,h2],h3⟩
  ·simp at he
 ·rename_i m n hm hn
  rw [hm] at hx
  rw [hn] at hy
  obtain ⟨hx1,hx2⟩:=hx.str_inv
  obtain ⟨hy1,hy2⟩:=hy.str_inv
  obtain ⟨h1,v,h2,h3⟩:=Fa (P:=P) (Ω:=Ω) (t:=t) (w:=Ω.w) he ho
  exact ⟨h1,v,by simp [execOp,hop,hx1,hy1,Av,h2],h3⟩
 ·rename_i m n hm hn
  rw [hm] at hx
  rw [hn] at hy
  have hx1:=hx.bool_inv
  have hy1:=hy.bool_inv
  split at he
  ·rename_i sz by' z ty hr
   obtain ⟨d,hd1,hd2⟩:=aS hT hr rfl
   cases d <;> simp [aZ] at hd2
   obtain ⟨h1,v,h2,h3⟩:=CL (P:=P) (Ω:=Ω) (t:=t) (w:=Ω.w) hd1 he
   exact ⟨h1,v,by simp [execOp,hop,hx1,hy1,xp,h2],h3⟩
  ·simp at he
 ·rename_i n m hm hn
  rw [hm] at hx
  rw [hn] at hy
  split at he
  ·rename_i e sz by' z ty hr
   obtain ⟨d,hd1,hd2⟩:=aS hT hr rfl
   cases d <;> simp [aZ] at hd2
   have key:∃p,a.eval x=.pointer p/\p.isNone=m.isNone/\p.isSome=m.isSome:=by
    generalize a.eval x=xv at hx
    cases hx with
    | ptNone _=>exact ⟨none,rfl,rfl,rfl⟩
    | ptSome _ _ _ hv=>cases hv with
     | cptr _ b off vals _ _=>exact ⟨_,rfl,rfl,rfl⟩
   obtain ⟨p,hp,hp1,hp2⟩:=key
   have hy1:a.eval y=.pointer none:=by
    generalize a.eval y=yv at hy
    cases hy
    rfl
   have hq:(Op.equal t (.pointer p) (.pointer none)).run P Ω.w=.ok p.isNone Ω.w:=by
    unfold Op.equal Op.maxDepth Op.equalIn
    simp only [Sem.run_bind,aV hd1,Result.andThen_ok]
    cases p <;> rfl
   have hg:(eqGuard op t x y (.pointer p) (.pointer none)).run P Ω.w=.ok () Ω.w:=by
    cases op <;> rfl
   split at he
   ·simp only [Xs] at he
    subst he
    exact ⟨rfl,.bool m.isNone,by rw [←hp1];simp [execOp,hop,hp,hy1,hg,binOp,hq],.bool _⟩
   ·simp only [Xs] at he
    subst he
    exact ⟨rfl,.bool m.isSome,by rw [←hp2];simp [execOp,hop,hp,hy1,hg,binOp,hq],.bool _⟩
   ·simp at he
  ·simp at he
 ·rename_i ti ia hm hn
  rw [hm] at hx
  rw [hn] at hy
  split at he
  ·rename_i sz by' z ty hr
   obtain ⟨d,hd1,hd2⟩:=aS hT hr rfl
   cases d <;> simp [aZ] at hd2
   have key:∃v,a.eval x=.iface ti v:=by
    generalize a.eval x=xv at hx
    cases hx
    exact ⟨_,rfl⟩
   obtain ⟨xv,hp⟩:=key
   have hy1:a.eval y=.nilIface:=by
    generalize a.eval y=yv at hy
    cases hy
    rfl
   have hq:(Op.equal t (.iface ti xv) .nilIface).run P Ω.w=.ok false Ω.w:=by
    unfold Op.equal Op.maxDepth Op.equalIn
    simp only [Sem.run_bind,aV hd1,Result.andThen_ok]
    rfl
   have hg:(eqGuard op t x y (.iface ti xv) .nilIface).run P Ω.w=.ok () Ω.w:=by
    cases op <;> rfl
   split at he
   ·simp only [Xs] at he
    subst he
    exact ⟨rfl,.bool false,by simp [execOp,hop,hp,hy1,hg,binOp,hq],.bool _⟩
   ·simp only [Xs] at he
    subst he
    exact ⟨rfl,.bool true,by simp [execOp,hop,hp,hy1,hg,binOp,hq],.bool _⟩
   ·simp at he
  ·simp at he
 ·rename_i hm hn
  rw [hm] at hx
  rw [hn] at hy
  split at he
  ·rename_i sz by' z ty yc hr
   obtain ⟨d,hd1,hd2⟩:=aS hT hr rfl
   cases d <;> simp [aZ] at hd2
   have hp:a.eval x=.nilIface:=by
    generalize a.eval x=xv at hx
    cases hx
    rfl
   have hy1:a.eval (.const yc)=.nilIface:=by
    generalize a.eval (.const yc)=yv at hy
    cases hy
    rfl
   have hq:(Op.equal t .nilIface .nilIface).run P Ω.w=.ok true Ω.w:=by
    unfold Op.equal Op.maxDepth Op.equalIn
    simp only [Sem.run_bind,aV hd1,Result.andThen_ok]
    rfl
   have hg:(eqGuard op t x (.const yc) .nilIface .nilIface).run P Ω.w=.ok () Ω.w:=by
    cases op <;> first | rfl | (simp [eqGuard]) | (cases x <;> rfl)
   split at he
   ·simp only [Xs] at he
    subst he
    exact ⟨rfl,.bool true,by simp [execOp,hop,hp,hy1,hg,binOp,hq],.bool _⟩
   ·simp only [Xs] at he
    subst he
    exact ⟨rfl,.bool false,by simp [execOp,hop,hp,hy1,hg,binOp,hq],.bool _⟩
   ·simp at he
  ·simp at he
 ·split at he
  ·rename_i cs ds hc hd
   obtain ⟨xs,hxv,hxl⟩:=pN hx hc
   obtain ⟨ys,hyv,hyl⟩:=pN hy hd
   exact Fb hT hop hxl hxv hyl hyv he
  ·simp at he
theorem Fc {op:UnOp} {t:Nat} {x:Operand} (hop:o.op=.unOp op t x):cG P C o:=by
 refine cG.pure fun F s a Ω eff h he ho=>?_
 simp only [aG,hop] at he
 have hx:=bC h x
 split at he
 ·rename_i b hb
  rw [hb] at hx
  simp only [Xs] at he
  subst he
  exact ⟨rfl,.bool (!b),by simp [execOp,hop,hx.bool_inv,Op.unary],.bool _⟩
 ·rename_i k n hn
  rw [hn] at hx
  simp only [Xs] at he
  subst he
  obtain ⟨h1,h2⟩:=ho
  have e:=iO k _ h1 h2
  exact ⟨rfl,.int k (0 - n),by simp only [execOp,hop,hx.int_inv.1,Op.unary,Op.intArith,e];simp,.int k _ h1 h2⟩
 ·simp at he
theorem ku {w:World} {b off:Nat} {f:Field} {i:TypeInfo} (hi:P.info? f.type=some i) (h0:i.size≠0) :
  (fieldPlace ⟨b,off,none⟩ f).run P w=.ok ⟨b,off+f.offset,none⟩ w:=by
 simp only [fieldPlace,Sem.run_bind,dW hi,Result.andThen_ok]
 rw [if_neg h0]
 simp [Addr.add]
theorem mO (hT:bH P C.tbl) {t:Nat} {r:TR} (hr:aT C.tbl t=some r) {f off ft:Nat} (hf:p8 r f=some (off,ft)) :
  ∃fields fd i,P.underlying t=some (.struct fields)/\fields[f]?=some fd/\fd.offset=off/\fd.type=ft/\P.info? ft=some i/\i.size≠0:=by
 unfold p8 at hf
 split at hf
 ·rename_i fs hti
  obtain ⟨d,hd1,hd2⟩:=aS hT hr hti
  cases d <;> simp [aZ] at hd2
  rename_i fields
  obtain ⟨h1,h2⟩:=hd2
  rw [km,←h1] at hf
  simp only [List.getElem?_map,Array.getElem?_toList,Option.map_eq_some_iff] at hf
  obtain ⟨fd,hfd,e⟩:=hf
  simp at e
  have hm:fd∈fields:=Array.mem_of_getElem? hfd
  obtain ⟨j,hj,hje⟩:=Array.mem_iff_getElem.1 hm
  have:=h2 j hj
  rw [hje] at this
  split at this
  ·rename_i i hi
   exact ⟨fields,fd,i,hd1,hfd,e.1,e.2,by rw [←e.2];exact hi,fun h0=>by simp [h0] at this⟩
  ·simp at this
 ·simp at hf
theorem tg (hT:bH P C.tbl) {t f:Nat} {x:Operand} (hop:o.op=.fieldAddr t x f):cG P C o:=by
 refine cG.pure fun F s a Ω eff h he ho=>?_
 simp only [aG,hop] at he
 have hx:=bC h x
 split at he
 ·rename_i r hr
  split at he
  ·rename_i off ft id o' hf hopd
   simp only [Xs] at he
   subst he
   rw [hopd] at hx
   obtain ⟨b,bo,len,hxv,hxb⟩:=hx.ptr_inv
   obtain ⟨fields,fd,i,h1,h2,h3,h4,h5,h6⟩:=mO hT hr hf
   refine ⟨rfl,.pointer (some ⟨b,bo+o'+off,none⟩),?_,?_⟩
   ·simp [execOp,hop,hxv,Instr.fieldAt,aV h1,h2,Instr.sureAddr,ku (P:=P) (w:=Ω.w) (b:=b) (off:=bo+o') (f:=fd) (by rw [h4];exact h5) h6,h3]
   ·have:=V.ptr (Ω:=Ω) id (o'+off) b bo len hxb
    rwa [←Nat.add_assoc] at this
  ·rename_i off ft id n w o' hf hopd
   simp only [Xs] at he
   subst he
   rw [hopd] at hx
   obtain ⟨b,bo,len,hxv,hxb⟩:=hx.aptr_inv
   obtain ⟨fields,fd,i,h1,h2,h3,h4,h5,h6⟩:=mO hT hr hf
   refine ⟨rfl,.pointer (some ⟨b,bo+(n *w+o')+off,none⟩),?_,?_⟩
   ·simp [execOp,hop,hxv,Instr.fieldAt,aV h1,h2,Instr.sureAddr,ku (P:=P) (w:=Ω.w) (b:=b) (off:=bo+(n *w+o')) (f:=fd) (by rw [h4];exact h5) h6,h3]
   ·have:=V.aptr (Ω:=Ω) id n w (o'+off) b bo len hxb
    have e:bo+(n *w+o')+off=bo+(n *w+(o'+off)):=by omega
    rw [e]
    exact this
  ·rename_i off ft c hf hopd
   rw [hopd] at hx
   obtain ⟨fields,fd,i,h1,h2,h3,h4,h5,h6⟩:=mO hT hr hf
   have fO:∀{c':AV},V Ω (.cptr c) (a.eval x)→(∃n,(aa c').length<=n/\sub (aa c) off (aa c').length=some (aa c'))→
     eff=.pure (.cptr c')→eff.upd=[]/\∃v,(execOp a.eval o).run P Ω.w=.ok (.value v) Ω.w/\V Ω eff.val v:=by
    intro c' hx hs he
    obtain ⟨_,_,hs⟩:=hs
    subst he
    obtain ⟨s1,s2⟩:=i9 hs
    generalize hxe:a.eval x=xv at hx
    cases hx with
    | cptr _ b o' vals k1 k2=>
     refine ⟨rfl,.pointer (some ⟨b,o'+off,none⟩),?_,?_⟩
     ·simp [execOp,hop,hxe,Instr.fieldAt,aV h1,h2,Instr.sureAddr,ku (P:=P) (w:=Ω.w) (b:=b) (off:=o') (f:=fd) (by rw [h4];exact h5) h6,h3]
     ·simp only [Eff.pure]
      have key:∀(j:Nat) (d:AV),(aa c')[j]?=some d→(aa c)[off+j]?=some d:=by
       intro j d hd
       rw [s2,List.getElem?_take] at hd
       split at hd
       ·rwa [List.getElem?_drop] at hd
       ·cases hd
      refine .cptr _ b _ (fun j=>vals (off+j)) (fun j d hd=>?_) (fun j d hd=>k2 _ _ (key j d hd))
      have:=k1 _ _ (key j d hd)
      rwa [←Nat.add_assoc] at this
   have drops:∀{c1:AV} {r1:List AV},lH (aa c) off=some (c1 ::r1)→∃n,(aa (.agg (c1 ::r1))).length<=n/\sub (aa c) off (aa (.agg (c1 ::r1))).length=some (aa (.agg (c1 ::r1))):=by
    intro c1 r1 hdr
    exact ⟨_,Nat.le_refl _,uM hdr⟩
   split at he
   ·rename_i n y m hrt hft
    split at he
    ·rename_i m' z hz
     split at he
     ·rename_i hm
      simp only [Xs] at he
      refine fO hx ⟨_,Nat.le_refl _,?_⟩ he.symm
      have hs:=kq hz
      rw [←bn] at hs
      exact hs
     ·simp at he
    ·split at he
     ·rename_i hdr
      simp only [Xs] at he
      exact fO hx (drops hdr) he.symm
     ·simp at he
   ·split at he
    ·rename_i hdr
     simp only [Xs] at he
     exact fO hx (drops hdr) he.symm
    ·simp at he
  ·simp at he
 ·simp at he
theorem CN {w:World} {t:Nat} {r:TR} (ht:TF P t r) {cs ds:List AV} {x:AV} {off:Nat} {Ω:Om} {vs:List Value} (hv:VL Ω cs vs)
  (hs:sub cs off r.size=some ds) (ho:dU r ds=some x):∃v,(part t vs.toArray off).run P w=.ok v w/\V Ω x v:=by
 have hd:=hv.sub hs
 obtain ⟨s1,s2⟩:=i9 hs
 unfold dU at ho
 simp only [part,Sem.run_bind,ht.agg,Result.andThen_ok]
 split at ho
 ·rename_i hagg
  simp at ho
  subst ho
  rw [hagg]
  simp only [if_true,Sem.run_bind,ht.size,Result.andThen_ok]
  refine ⟨_,rfl,?_⟩
  have e:vs.toArray.extract off (off+r.size)=((vs.drop off).take r.size).toArray:=by
   apply Array.ext'
   simp [List.extract_eq_take_drop]
  rw [e]
  exact V.of_agg hd
 ·rename_i hagg
  have hagg':r.isAgg=false:=by simpa using hagg
  rw [hagg']
  split at ho
  ·rename_i c
   simp at ho
   subst ho
   have hl:=hd.1
   generalize hds:(vs.drop off).take r.size=us at hd hl
   cases us with
   | nil=>simp at hl
   | cons v us=>
    cases us with
    | cons _ _=>simp at hl
    | nil=>
     have hv0:vs[off]?=some v:=by
      have e1:((vs.drop off).take r.size)[0]?=some v:=by rw [hds];rfl
      rw [List.getElem?_take] at e1
      split at e1
      ·rw [List.getElem?_drop] at e1;simpa using e1
      ·simp at e1
     exact ⟨v,by simp [hv0],hd.head⟩
  ·simp at ho
theorem CO (hT:bH P C.tbl) {t f:Nat} {x:Operand} (hop:o.op=.field t x f):cG P C o:=by
 refine cG.pure fun F s a Ω eff h he ho=>?_
 simp only [aG,hop] at he
 have hx:=bC h x
 split at he
 ·rename_i r hr
  split at he
  ·rename_i off ft hf
   obtain ⟨fields,fd,i,h1,h2,h3,h4,h5,h6⟩:=mO hT hr hf
   have go:∀{rt:TR} {c:AV} {vs:List Value},aT C.tbl ft=some rt→a.eval x=.agg vs.toArray→VL Ω (aa c) vs→(lI rt c off).map Eff.pure=some eff→
     eff.upd=[]/\∃v,(execOp a.eval o).run P Ω.w=.ok (.value v) Ω.w/\V Ω eff.val v:=by
    intro rt c vs hrt hxv hvl he
    simp only [Option.map_eq_some_iff] at he
    obtain ⟨av,ho1,rfl⟩:=he
    obtain ⟨ds,z,q1,q2,q3⟩:=oq (hT ft rt hrt) ho1
    obtain ⟨v,hv1,hv2⟩:=CN (P:=P) (w:=Ω.w) (hT ft rt hrt).tf hvl q1 q2
    exact ⟨rfl,v,by simp [execOp,hop,hxv,Instr.field,aV h1,h2,asAgg,h4,h3,hv1],q3 _ _ hv2⟩
   split at he
   ·rename_i rt cs hrt hopd
    rw [hopd] at hx
    obtain ⟨vs,hxv,hvl⟩:=hx.agg_inv
    exact go (c:=.agg cs) hrt hxv hvl he
   ·rename_i rt n y hrt hopd
    rw [hopd] at hx
    split at he
    ·generalize hxe:a.eval x=xv at hx
     cases hx with
     | st _ _ _ hx=>
      obtain ⟨vs,hxv,hvl⟩:=hx.agg_inv
      exact go (c:=.st n y) hrt (by rw [hxe,hxv]) hvl he
    ·simp at he
   ·simp at he
  ·simp at he
 ·simp at he
end
end Go.AL
end
section
namespace Go.AL
variable [Tabs]
section
variable {P:Program} {C:Cfg} {o:Oper}
theorem jd {τ σ:Ty} {xs:List (den τ)} {ys:List (den σ)} (h:kf τ σ xs=some ys):∃e:τ=σ,e ▸ xs=ys:=by
 unfold kf at h
 split at h
 ·rename_i e;simp at h;exact ⟨e,h⟩
 ·simp at h
theorem fm {k:IntKind} {n:Int}:asIntOf (.int k n)=pure (k,n):=rfl
theorem V.lst_inv {Ω:Om} {τ:Ty} {xs:List (den τ)} {o:Option Nat} {v:Value} (h:V Ω (.lst τ xs o) v) :
  (xs=[]/\v=.slice none 0 0/\gx Ω o 0 v)∨(xs=[]/\o=none/\∃a,v=.slice (some a) 0 0)∨
  ∃b off cap,∃vals:Nat→Nat→Value,v=.slice (some ⟨b,off,none⟩) xs.length cap/\xs.length<=cap/\cap<=ck/\gx Ω o xs.length v/\
   (∀(i:Nat) (x:den τ),xs[i]?=some x→∀(j:Nat) (c:AV),(cells τ x)[j]?=some c→
    Ω.pub b (off+(i *ac τ+j))/\Ω.w.cell? ⟨b,off+(i *ac τ+j),none⟩=some (vals i j))/\
   (∀(i:Nat) (x:den τ),xs[i]?=some x→∀(j:Nat) (c:AV),(cells τ x)[j]?=some c→V Ω c (vals i j)):=by
 cases h with
 | lstNil _ _ ht=>exact Or.inl ⟨rfl,rfl,ht⟩
 | lstVoid _ a=>exact Or.inr (Or.inl ⟨rfl,rfl,a,rfl⟩)
 | lst _ _ _ b off cap vals h1 h2 h3 h4 h5=>exact Or.inr (Or.inr ⟨b,off,cap,vals,rfl,h1,h2,h3,h4,h5⟩)
theorem V.elem {Ω:Om} {τ:Ty} {xs:List (den τ)} {b off:Nat} {vals:Nat→Nat→Value} (i:Nat) (hi:i < xs.length)
  (h4:∀(i:Nat) (x:den τ),xs[i]?=some x→∀(j:Nat) (c:AV),(cells τ x)[j]?=some c→
    Ω.pub b (off+(i *ac τ+j))/\Ω.w.cell? ⟨b,off+(i *ac τ+j),none⟩=some (vals i j))
  (h5:∀(i:Nat) (x:den τ),xs[i]?=some x→∀(j:Nat) (c:AV),(cells τ x)[j]?=some c→V Ω c (vals i j)) (d:den τ) :
  V Ω (.cptr (inj τ (xs.getD i d))) (.pointer (some ⟨b,off+i *ac τ,none⟩)):=by
 have e:xs[i]?=some (xs.getD i d):=by simp [List.getD_eq_getElem?_getD,hi]
 refine .cptr _ b _ (fun j=>vals i j) (fun j c hc=>?_) (fun j c hc=>h5 i _ e j c (by rwa [l6] at hc))
 rw [l6] at hc
 have:=h4 i _ e j c hc
 rw [Nat.add_assoc]
 exact this
theorem th (hT:bH P C.tbl) {t:Nat} {x y:Operand} (hop:o.op=.indexAddr t x y):cG P C o:=by
 refine cG.pure fun F s a Ω eff h he ho=>?_
 simp only [aG,hop] at he
 have hx:=bC h x
 have hy:=bC h y
 split at he
 ·rename_i e sz by' z ty τ xs o' k n hr hopx hopy
  rw [hopx] at hx
  rw [hopy] at hy
  split at he
  ·rename_i re hre
   split at he
   ·rename_i hty
    simp only [Xs] at he
    subst he
    obtain ⟨ho1,ho2⟩:=ho
    obtain ⟨d,hd1,hd2⟩:=aS hT hr rfl
    cases d <;> simp [aZ] at hd2
    subst hd2
    obtain ⟨i,zz,i1,i2,i3,i4,i5⟩:=(hT _ _ hre).info
    have hw:=((hT _ _ hre).ty τ hty).1
    obtain ⟨hy1,hy2⟩:=hy.int_inv
    rcases hx.lst_inv with ⟨h1,_,_⟩ | ⟨h1,_,_⟩ | ⟨b,off,cap,vals,hv,h1,h2,h3,h4,h5⟩
    ·subst h1
     simp at ho2
     omega
    ·subst h1
     simp at ho2
     omega
    ·refine ⟨rfl,.pointer (some ⟨b,off+n.toNat *ac τ,none⟩),?_,V.elem n.toNat (by omega) h4 h5 _⟩
     have c1:(0<=n/\n < (xs.length:Int)):=⟨ho1,ho2⟩
     simp [execOp,hop,hv,hy1,Instr.indexAt,fm,aV hd1,c1,dW i1,i2,←hw,Addr.add]
   ·simp at he
  ·simp at he
 ·rename_i e sz by' z ty id m w k n hr hopx hopy
  rw [hopx] at hx
  rw [hopy] at hy
  split at he
  ·rename_i re hre
   split at he
   ·rename_i hty
    subst hty
    simp only [Xs] at he
    subst he
    obtain ⟨ho1,ho2⟩:=ho
    obtain ⟨d,hd1,hd2⟩:=aS hT hr rfl
    cases d <;> simp [aZ] at hd2
    subst hd2
    obtain ⟨i,zz,i1,i2,i3,i4,i5⟩:=(hT _ _ hre).info
    obtain ⟨hy1,hy2⟩:=hy.int_inv
    generalize hxe:a.eval x=xv at hx
    cases hx with
    | arr _ _ _ b len cap a' he hl hc1 hc2 hc3=>
     rcases hc3 with rfl | ⟨_,h0,_⟩
     rotate_left
     ·omega
     refine ⟨rfl,.pointer (some ⟨b,n.toNat *re.size,none⟩),?_,?_⟩
     ·have c1:(0<=n/\n < (m:Int)):=⟨ho1,ho2⟩
      simp [execOp,hop,hxe,hy1,Instr.indexAt,fm,aV hd1,c1,dW i1,i2,Addr.add]
      exact fun h0=>h0.symm
     ·have:=V.aptr (Ω:=Ω) id n.toNat re.size 0 b 0 len he
      simpa using this
   ·simp at he
  ·simp at he
 ·rename_i e sz by' z ty τ xs k k' n hr hopx hopy
  rw [hopx] at hx
  rw [hopy] at hy
  split at he
  ·rename_i re hre
   split at he
   ·rename_i hty
    simp only [Xs] at he
    subst he
    have ho1:n=(xs.length:Int):=ho
    obtain ⟨d,hd1,hd2⟩:=aS hT hr rfl
    cases d <;> simp [aZ] at hd2
    subst hd2
    obtain ⟨i,zz,i1,i2,i3,i4,i5⟩:=(hT _ _ hre).info
    have hw:=((hT _ _ hre).ty τ hty).1
    obtain ⟨hy1,hy2⟩:=hy.int_inv
    generalize hxe:a.eval x=xv at hx
    cases hx with
    | lstp _ _ _ b off cap vals h1 h2 h3 h4 h5=>
     refine ⟨rfl,.pointer (some ⟨b,off+xs.length *ac τ,none⟩),?_,.tptr τ xs.length k _ ?_⟩
     ·have c1:(0<=n/\n < ((xs.length+1:Nat):Int)):=⟨by omega,by omega⟩
      have c2:n.toNat=xs.length:=by omega
      have c3:n < (xs.length:Int)+1:=by omega
      simp [execOp,hop,hxe,hy1,Instr.indexAt,fm,aV hd1,c1,c2,dW i1,i2,←hw,Addr.add,c3]
     ·obtain ⟨m,base,cap',r1,r2,r3⟩:=h3 k rfl
      refine ⟨m,base,cap',r1,r2,fun e=>?_⟩
      have:=r3 e
      cases base with
      | none=>simp [eK] at this
      | some b'=>
       simp only [eK,Value.slice.injEq,Xs,Addr.mk.injEq,true_and,and_true] at this
       obtain ⟨⟨rfl,rfl⟩,_⟩:=this
       exact ⟨b,rfl,by simp⟩
   ·simp at he
  ·simp at he
 ·rename_i e m sz by' z ty id k n hr hopx hopy
  rw [hopx] at hx
  rw [hopy] at hy
  split at he
  ·rename_i re hre
   simp only [Xs] at he
   subst he
   obtain ⟨ho1,ho2⟩:=ho
   obtain ⟨d,hd1,hd2⟩:=aS hT hr rfl
   cases d <;> simp [aZ] at hd2
   obtain ⟨rfl,rfl⟩:=hd2
   obtain ⟨i,zz,i1,i2,i3,i4,i5⟩:=(hT _ _ hre).info
   obtain ⟨hy1,hy2⟩:=hy.int_inv
   generalize hxe:a.eval x=xv at hx
   cases hx with
   | ptr _ _ b o len he=>
    refine ⟨rfl,.pointer (some ⟨b,o+n.toNat *re.size,none⟩),?_,?_⟩
    ·have c1:(0<=n/\n < (m:Int)):=⟨ho1,ho2⟩
     simp [execOp,hop,hxe,hy1,Instr.indexAt,Instr.sureAddr,fm,aV hd1,c1,dW i1,i2,Addr.add]
    ·have:=V.aptr (Ω:=Ω) id n.toNat re.size 0 b o len he
     simpa using this
  ·simp at he
 ·simp at he
theorem CP (hT:bH P C.tbl) {t:Nat} {x y:Operand} (hop:o.op=.index t x y):cG P C o:=by
 refine cG.pure fun F s a Ω eff h he ho=>?_
 simp only [aG,hop] at he
 have hx:=bC h x
 have hy:=bC h y
 split at he
 ·rename_i sz by' z ty s' k n hr hopx hopy
  rw [hopx] at hx
  rw [hopy] at hy
  simp only [Xs] at he
  subst he
  obtain ⟨ho1,ho2⟩:=ho
  obtain ⟨d,hd1,hd2⟩:=aS hT hr rfl
  cases d <;> simp [aZ] at hd2
  obtain ⟨hy1,hy2⟩:=hy.int_inv
  obtain ⟨hx1,hx2⟩:=hx.str_inv
  have hlt:n.toNat < s'.length:=by omega
  have hb:(⟨s'.toArray⟩:ByteArray)[n.toNat]?=some s'[n.toNat]:=by
   have e:n.toNat < (⟨s'.toArray⟩:ByteArray).size:=by simpa [ByteArray.size] using hlt
   exact getElem?_pos (⟨s'.toArray⟩:ByteArray) n.toNat e
  refine ⟨rfl,.int .u8 (s'[n.toNat].toNat:Int),?_,?_⟩
  ·simp only [execOp,hop,hx1,hy1,Instr.index,fm,Sem.run_bind,Sem.run_pure,Result.andThen_ok,aV hd1]
   rw [if_pos ho1,hb]
   rfl
  ·have e:s'.getD n.toNat 0=s'[n.toNat]:=by simp [List.getD_eq_getElem?_getD,hlt]
   rw [e]
   refine .int .u8 _ ?_ ?_
   ·simp [IntKind.min,IntKind.signed]
   ·have:=s'[n.toNat].toNat_lt
    simp [IntKind.max,IntKind.signed,IntKind.bits]
    omega
 ·simp at he
theorem kw {F:Fr} {s:AS} {a:Act} {Ω:Om} (h:Holds F s a Ω) {x:Option Operand} {n:Option Int} (hb:bnd s.T x=some n) :
  x.map a.eval=n.map fun n=>.int .i64 n:=by
 cases x with
 | none=>simp [bnd] at hb;subst hb;rfl
 | some x=>
  simp only [bnd] at hb
  split at hb
  ·rename_i m hm
   simp at hb
   subst hb
   have:=bC h x
   rw [hm] at this
   simp [this.int_inv.1]
  ·simp at hb
theorem l7 {w:World} {n:Int} {y:Nat} {code:BoundsCode} (h0:0<=n) (h1:n<=(y:Int)):(Instr.sliceBound (.int .i64 n) y code).run P w=.ok n.toNat w:=by
 simp [Instr.sliceBound,fm,h0,h1]
theorem jD {w:World} {isSlice:Bool} {len cap:Nat} {l h:Option Int} (hl:0<=l.getD 0) (hlh:l.getD 0<=h.getD len) (hh:h.getD len<=len) (hc:len<=cap) :
  (Instr.sliceBounds isSlice len cap (l.map fun n=>.int .i64 n) (h.map fun n=>.int .i64 n) none).run P w=
   .ok ((l.getD 0).toNat,(h.getD len).toNat,cap) w:=by
 cases l <;> cases h <;> simp [Instr.sliceBounds] at *<;> (try simp [l7, *])
 ·rename_i h'
  have:(h':Int)<=cap:=by omega
  rw [l7 hlh this]
  simp
 ·rename_i l' h'
  have:(h':Int)<=cap:=by omega
  rw [l7 (by omega) this]
  simp
  rw [l7 hl (by omega)]
  simp
theorem CQ (hT:bH P C.tbl) {t:Nat} {x:Operand} {lo hi:Option Operand} (hop:o.op=.slice t x lo hi none):cG P C o:=by
 refine cG.pure fun F s a Ω eff h he ho=>?_
 simp only [aG,hop,CD] at he
 have hx:=bC h x
 split at he
 ·rename_i sz by' z ty s' l u hr hopx hlo hhi
  rw [hopx] at hx
  simp only [Xs] at he
  subst he
  obtain ⟨ho1,ho2,ho3⟩:=ho
  obtain ⟨d,hd1,hd2⟩:=aS hT hr rfl
  cases d <;> simp [aZ] at hd2
  obtain ⟨hx1,hx2⟩:=hx.str_inv
  have hb:=jD (P:=P) (w:=Ω.w) (isSlice:=false) (len:=s'.length) (cap:=s'.length) ho1 ho2 ho3 (Nat.le_refl _)
  have e:(⟨s'.toArray⟩:ByteArray).extract (l.getD 0).toNat (u.getD s'.length).toNat=⟨((s'.take (u.getD s'.length).toNat).drop (l.getD 0).toNat).toArray⟩:=by
   apply ByteArray.ext
   apply Array.ext'
   simp [List.extract_eq_take_drop,List.drop_take]
  refine ⟨rfl,.string ⟨((s'.take (u.getD s'.length).toNat).drop (l.getD 0).toNat).toArray⟩,?_,.str _ ?_⟩
  ·simp only [execOp,hop,hx1,Instr.sliceAt,Instr.slice,Sem.run_bind,aV hd1,Result.andThen_ok,kw h hlo,kw h hhi,Option.map_none]
   simp only [Option.isSome_none,Bool.false_eq_true,if_false,Sem.run_bind]
   have hsz:(⟨s'.toArray⟩:ByteArray).size=s'.length:=rfl
   rw [hsz,hb]
   simp [e]
  ·have:((s'.take (u.getD s'.length).toNat).drop (l.getD 0).toNat).length<=s'.length:=by simp;omega
   omega
 ·rename_i e sz by' z ty τ xs o' l u hr hopx hlo hhi
  rw [hopx] at hx
  split at he
  ·rename_i re hre
   split at he
   ·rename_i hty
    simp only [Xs] at he
    subst he
    obtain ⟨ho1,ho2,ho3⟩:=ho
    obtain ⟨d,hd1,hd2⟩:=aS hT hr rfl
    cases d <;> simp [aZ] at hd2
    subst hd2
    obtain ⟨i,zz,i1,i2,i3,i4,i5⟩:=(hT _ _ hre).info
    have hw:=((hT _ _ hre).ty τ hty).1
    rcases hx.lst_inv with ⟨h1,hv,_⟩ | ⟨h1,_,a0,hv⟩ | ⟨b,off,cap,vals,hv,h1,h2,h3,h4,h5⟩
    rotate_left
    ·subst h1
     simp only [List.length_nil] at ho2 ho3
     have el:(l.getD 0).toNat=0:=by simp at ho2 ho3;omega
     have eu:(u.getD ((0:Nat):Int)).toNat=0:=by simp at ho2 ho3 ⊢;omega
     have hb:=jD (P:=P) (w:=Ω.w) (isSlice:=true) (len:=0) (cap:=0) ho1 ho2 ho3 (Nat.le_refl _)
     refine ⟨rfl,.slice (some a0) 0 0,?_,?_⟩
     ·simp only [execOp,hop,hv,Instr.sliceAt,Instr.slice,Sem.run_bind,aV hd1,Result.andThen_ok,kw h hlo,kw h hhi,Option.map_none]
      rw [hb]
      simp only [el,eu,Result.andThen_ok,dW i1,Sem.run_pure]
      simp
     ·have e0:∀m n:Nat,(([]:List (den τ)).take m).drop n=[]:=by simp
      show V Ω (.lst τ _ none) _
      rw [e0]
      exact .lstVoid τ a0
    rotate_right
    ·subst h1
     simp only [List.length_nil] at ho2 ho3
     have el:(l.getD 0).toNat=0:=by simp at ho2 ho3;omega
     have eu:(u.getD ((0:Nat):Int)).toNat=0:=by simp at ho2 ho3 ⊢;omega
     have hb:=jD (P:=P) (w:=Ω.w) (isSlice:=true) (len:=0) (cap:=0) ho1 ho2 ho3 (Nat.le_refl _)
     refine ⟨rfl,.slice none 0 0,?_,?_⟩
     ·simp only [execOp,hop,hv,Instr.sliceAt,Instr.slice,Sem.run_bind,aV hd1,Result.andThen_ok,kw h hlo,kw h hhi,Option.map_none]
      rw [hb]
      simp only [el,eu,Result.andThen_ok,dW i1,Sem.run_pure]
      simp
     ·have e0:∀m n:Nat,(([]:List (den τ)).take m).drop n=[]:=by simp
      show V Ω (.lst τ _ none) _
      rw [e0]
      exact .lstNil τ none (fun id hid=>by simp at hid)
    ·have hb:=jD (P:=P) (w:=Ω.w) (isSlice:=true) (len:=xs.length) (cap:=cap) ho1 ho2 ho3 h1
     generalize hln:(l.getD 0).toNat=ln at *
     generalize hun:(u.getD (xs.length:Int)).toNat=un at *
     have hle:ln<=un:=by omega
     have hue:un<=xs.length:=by omega
     have hlen:((xs.take un).drop ln).length=un - ln:=by simp;omega
     have hsz:i.size=ac τ:=by rw [i2,←hw]
     have hget:∀(j:Nat) (y:den τ),((xs.take un).drop ln)[j]?=some y→xs[ln+j]?=some y:=by
      intro j y hj
      rw [List.getElem?_drop,List.getElem?_take] at hj
      split at hj
      ·exact hj
      ·simp at hj
     refine ⟨rfl,.slice (some (if cap=ln then ⟨b,off,none⟩ else ⟨b,off+ln *ac τ,none⟩)) (un - ln) (cap - ln),?_,?_⟩
     ·simp only [execOp,hop,hv,Instr.sliceAt,Instr.slice,Sem.run_bind,aV hd1,Result.andThen_ok,kw h hlo,kw h hhi,Option.map_none]
      rw [hb]
      simp [dW i1,hsz,Addr.add]
      split
      ·rfl
      ·simp
     ·by_cases hcl:cap=ln
      ·rw [if_pos hcl]
       have:un=ln:=by omega
       have hnil:(xs.take un).drop ln=[]:=List.eq_nil_of_length_eq_zero (by omega)
       rw [hnil]
       have:=V.lst (Ω:=Ω) τ [] none b off (cap - ln) (fun _ _=>undef) (by simp) (by omega) (fun id hid=>by simp at hid) (fun i x hx=>by simp at hx) (fun i x hx=>by simp at hx)
       simpa [show un - ln=0 from by omega] using this
      ·rw [if_neg hcl]
       rw [←hlen]
       refine .lst τ _ none b _ (cap - ln) (fun j=>vals (ln+j)) (by omega) (by omega) (fun id hid=>by simp at hid) (fun j y hj k c hc=>?_) (fun j y hj k c hc=>?_)
       ·have:=h4 _ y (hget j y hj) k c hc
        have e:off+ln *ac τ+(j *ac τ+k)=off+((ln+j) *ac τ+k):=by rw [Nat.add_mul];omega
        rw [e]
        exact this
       ·exact h5 _ y (hget j y hj) k c hc
   ·simp at he
  ·simp at he
 ·simp at he
theorem xq {x:Operand} {i:Nat} (hop:o.op=.extract x i):cG P C o:=by
 refine cG.pure fun F s a Ω eff h he ho=>?_
 simp only [aG,hop] at he
 have hx:=bC h x
 split at he
 ·rename_i cs hcs
  rw [hcs] at hx
  obtain ⟨vs,hv,hvl⟩:=hx.tup_inv
  simp only [Option.map_eq_some_iff] at he
  obtain ⟨c,hc,rfl⟩:=he
  rw [km] at hc
  have hi:i < vs.length:=by
   rw [←hvl.1]
   rcases Nat.lt_or_ge i cs.length with k | k
   ·exact k
   ·rw [List.getElem?_eq_none k] at hc;simp at hc
  refine ⟨rfl,vs[i],?_,hvl.2 i c _ hc (List.getElem?_eq_getElem hi)⟩
  simp [execOp,hop,hv,Instr.extract,hi]
 ·simp at he
theorem jE {n:Nat} (h:n<=ck):IntKind.i64.min<=(n:Int)/\(n:Int)<=IntKind.i64.max:=by
 unfold ck at h
 simp [IntKind.min,IntKind.max,IntKind.signed,IntKind.bits]
 omega
theorem Gt (hT:bH P C.tbl) {args:Array Operand} {ts:Array Nat} (hop:o.op=.call {callee:=.builtin .len,args:=args,argTypes:=ts}):cG P C o:=by
 refine cG.pure fun F s a Ω eff h he ho=>?_
 simp only [aG,hop,Gp] at he
 split at he
 ·rename_i x t hargs hts
  have ha:args=#[x]:=by apply Array.ext';simpa using hargs
  have ht:ts=#[t]:=by apply Array.ext';simpa using hts
  subst ha ht
  have hx:=bC h x
  split at he
  ·rename_i sz by' z ty s' hr hopx
   rw [hopx] at hx
   simp only [Xs] at he
   subst he
   obtain ⟨d,hd1,hd2⟩:=aS hT hr rfl
   cases d <;> simp [aZ] at hd2
   obtain ⟨hx1,hx2⟩:=hx.str_inv
   obtain ⟨b1,b2⟩:=jE hx2
   refine ⟨rfl,.int .i64 (s'.length:Int),?_,.int .i64 _ b1 b2⟩
   simp [execOp,hop,resolve,invoke,builtin,hx1,Builtin.len_,aV hd1,goInt]
   rfl
  ·rename_i e sz by' z ty τ xs o' hr hopx
   rw [hopx] at hx
   simp only [Xs] at he
   subst he
   obtain ⟨d,hd1,hd2⟩:=aS hT hr rfl
   cases d <;> simp [aZ] at hd2
   rcases hx.lst_inv with ⟨h1,hv,_⟩ | ⟨h1,_,a0,hv⟩ | ⟨b,off,cap,vals,hv,h1,h2,h3,h4,h5⟩
   rotate_left
   ·subst h1
    obtain ⟨b1,b2⟩:=jE (n:=0) (by unfold ck;omega)
    refine ⟨rfl,.int .i64 0,?_,.int .i64 _ b1 b2⟩
    simp [execOp,hop,resolve,invoke,builtin,hv,Builtin.len_,aV hd1,goInt]
   rotate_right
   ·subst h1
    obtain ⟨b1,b2⟩:=jE (n:=0) (by unfold ck;omega)
    refine ⟨rfl,.int .i64 0,?_,.int .i64 _ b1 b2⟩
    simp [execOp,hop,resolve,invoke,builtin,hv,Builtin.len_,aV hd1,goInt]
   ·obtain ⟨b1,b2⟩:=jE (n:=xs.length) (by omega)
    refine ⟨rfl,.int .i64 (xs.length:Int),?_,.int .i64 _ b1 b2⟩
    simp [execOp,hop,resolve,invoke,builtin,hv,Builtin.len_,aV hd1,goInt]
  ·rename_i e sz by' z ty hr hopx
   rw [hopx] at hx
   simp only [Xs] at he
   subst he
   obtain ⟨d,hd1,hd2⟩:=aS hT hr rfl
   cases d <;> simp [aZ] at hd2
   obtain ⟨b1,b2⟩:=jE (n:=0) (by unfold ck;omega)
   refine ⟨rfl,.int .i64 0,?_,.int .i64 _ b1 b2⟩
   simp [execOp,hop,resolve,invoke,builtin,hx.nils_inv,Builtin.len_,aV hd1,goInt]
  ·rename_i e sz by' z ty id n w hr hopx
   rw [hopx] at hx
   simp only [Xs] at he
   subst he
   obtain ⟨d,hd1,hd2⟩:=aS hT hr rfl
   cases d <;> simp [aZ] at hd2
   generalize hxe:a.eval x=xv at hx
   cases hx with
   | arr _ _ _ b len cap a' he hl hc1 hc2 hc3=>
    obtain ⟨b1,b2⟩:=jE (n:=n) (by omega)
    refine ⟨rfl,.int .i64 n,?_,.int .i64 _ b1 b2⟩
    simp [execOp,hop,resolve,invoke,builtin,hxe,Builtin.len_,aV hd1,goInt]
  ·rename_i e sz by' z ty id k' hr hopx
   rw [hopx] at hx
   split at he
   ·rename_i κ τ m hm
    simp only [Xs] at he
    subst he
    obtain ⟨d,hd1,hd2⟩:=aS hT hr rfl
    cases d <;> simp [aZ] at hd2
    generalize hxe:a.eval x=xv at hx
    cases hx with
    | map _ r he=>
     obtain ⟨r',e1,e2,es,clock,e3,e4⟩:=h.slots _ _ hm
     rw [he] at e1
     simp only [Xs,CObj.obj.injEq] at e1
     subst e1
     have hle:m.length<=ck:=ho
     obtain ⟨b1,b2⟩:=jE (n:=m.length) hle
     refine ⟨rfl,.int .i64 m.length,?_,.int .i64 _ b1 b2⟩
     simp [execOp,hop,resolve,invoke,builtin,hxe,Builtin.len_,aV hd1,goInt,getObj,Sem.run,e3,e4.size]
   ·simp at he
  ·simp at he
 ·simp at he
end
end Go.AL
end
section
namespace Go.AL
variable [Tabs]
section
variable {P:Program} {C:Cfg} {o:Oper}
theorem VL.take {Ω:Om} {cs:List AV} {vs:List Value} (h:VL Ω cs vs) (n:Nat):VL Ω (cs.take n) (vs.take n):=by
 refine ⟨by simp [h.1],fun j c v hc hv=>?_⟩
 rw [List.getElem?_take] at hc hv
 split at hc
 ·rename_i hj
  rw [if_pos hj] at hv
  exact h.2 j c v hc hv
 ·simp at hc
theorem VL.drop {Ω:Om} {cs:List AV} {vs:List Value} (h:VL Ω cs vs) (n:Nat):VL Ω (cs.drop n) (vs.drop n):=by
 refine ⟨by simp [h.1],fun j c v hc hv=>?_⟩
 rw [List.getElem?_drop] at hc hv
 exact h.2 _ c v hc hv
theorem pO:∀(cs vs ds:List AV),kh cs vs=some ds→vs.length<=cs.length/\ds=vs++cs.drop vs.length
 | cs,[],ds,h=>by
  cases cs <;> simp [kh] at h <;> simp [h]
 | [],_ ::_,ds,h=>by simp [kh] at h
 | c ::cs,v ::vs,ds,h=>by
  simp only [kh] at h
  split at h
  ·rename_i l hl
   obtain ⟨h1,h2⟩:=pO cs vs l hl
   simp at h
   exact ⟨by simp;omega,by simp [←h,h2]⟩
  ·simp at h
theorem fA:∀(cs:List AV) (off:Nat) (vs ds:List AV),splice cs off vs=some ds→
  off+vs.length<=cs.length/\ds=cs.take off++vs++cs.drop (off+vs.length)
 | cs,0,vs,ds,h=>by
  have h':kh cs vs=some ds:=by cases cs <;> simpa [splice] using h
  obtain ⟨h1,h2⟩:=pO _ _ _ h'
  exact ⟨by omega,by simp [h2]⟩
 | [],n+1,vs,ds,h=>by simp [splice] at h
 | c ::cs,n+1,vs,ds,h=>by
  simp only [splice] at h
  split at h
  ·rename_i l hl
   obtain ⟨h1,h2⟩:=fA cs n vs l hl
   simp at h
   refine ⟨by simp;omega,?_⟩
   rw [←h,h2,show n+1+vs.length=(n+vs.length)+1 from by omega]
   simp
  ·simp at h
theorem VL.splice {Ω:Om} {cs ds es:List AV} {us ws:List Value} {off:Nat} (h:VL Ω cs us) (k:VL Ω ds ws) (hs:splice cs off ds=some es) :
  VL Ω es (us.take off++ws++us.drop (off+ws.length)):=by
 obtain ⟨h1,h2⟩:=fA _ _ _ _ hs
 subst h2
 rw [←k.1]
 exact ((h.take off).append k).append (h.drop _)
theorem iv (B:Nat→Option SObj) (k:Nat) (x:SObj):updB B [(k,x)]=fun j=>if k=j then some x else B j:=rfl
theorem Holds.slot {F:Fr} {s:AS} {a:Act} {Ω:Om} {k:Nat} {c:CObj} {obj:SObj} {w':World} {pub':Nat→Nat→Prop} {dst:Option Nat} {val:AV} {v:Value}
  (h:Holds F s a Ω) (hx:Ext Ω ⟨fun i=>if k=i then some c else Ω.e i,w',pub'⟩)
  (hslot:bv ⟨fun i=>if k=i then some c else Ω.e i,w',pub'⟩ F.own k obj)
  (hold:∀i c',i≠k→Ω.e i=some c'→mL Ω ⟨fun i=>if k=i then some c else Ω.e i,w',pub'⟩ c')
  (hnew:∀i c' b o,i≠k→Ω.e i=some c'→occ c' b o→occ c b o→False)
  (hp:∀b o,pub' b o→∃v,w'.cell? ⟨b,o,none⟩=some v)
  (hf:FrameOK F ⟨fun i=>if k=i then some c else Ω.e i,w',pub'⟩)
  (hv:V ⟨fun i=>if k=i then some c else Ω.e i,w',pub'⟩ val v) (hd:∀d,dst=some d→d < F.n) :
  Holds F ⟨cE s.T dst val,updB s.B [(k,obj)]⟩ (a.put dst v) ⟨fun i=>if k=i then some c else Ω.e i,w',pub'⟩:=by
 refine h.step hx hv hd (fun id o ho=>?_) (fun id hid=>?_) (fun i j ci cj b o hi hj hbi hbj=>?_) hp hf
 ·simp only [iv] at ho
  by_cases hk:k=id
  ·subst hk
   simp at ho
   subst ho
   exact hslot
  ·rw [if_neg hk] at ho
   exact (h.slots id o ho).keep hx (by simp [hk]) (fun c' hc'=>hold id c' (fun e=>hk e.symm) hc')
 ·simp only [iv] at hid
  by_cases hk:k=id
  ·subst hk;simp at hid
  ·rw [if_neg hk] at hid
   simp only [if_neg hk]
   exact h.dom id hid
 ·by_cases hi':k=i <;> by_cases hj':k=j
  ·omega
  ·simp only [if_pos hi',if_neg hj',Xs] at hi hj
   subst hi
   exact (hnew j cj b o (fun e=>hj' e.symm) hj hbj hbi).elim
  ·simp only [if_neg hi',if_pos hj',Xs] at hi hj
   subst hj
   exact (hnew i ci b o (fun e=>hi' e.symm) hi hbi hbj).elim
  ·simp only [if_neg hi',if_neg hj'] at hi hj
   exact h.inj i j ci cj b o hi hj hbi hbj
theorem gy (w:World) (x:Obj) (b:Nat) (hb:b < w.heap.size):(w.alloc x).heap[b]?=w.heap[b]?:=by
 show (w.heap.push x)[b]?=_
 rw [Array.getElem?_push,if_neg (by omega)]
theorem cJ (w:World) (x:Obj):(w.alloc x).heap[w.heap.size]?=some x:=by
 show (w.heap.push x)[w.heap.size]?=_
 simp
theorem Holds.cell_lt {F:Fr} {s:AS} {a:Act} {Ω:Om} (h:Holds F s a Ω) {b o:Nat} (hp:Ω.pub b o):b < Ω.w.heap.size:=by
 obtain ⟨v,hv⟩:=h.pubok b o hp
 exact bd hv
theorem Holds.alloc {F:Fr} {s:AS} {a:Act} {Ω:Om} {d:Nat} {c:CObj} {obj:SObj} {x:Obj} {p:Nat→Prop} {dst:Option Nat} {val:AV} {v:Value}
  (h:Holds F s a Ω) (hn:Ω.e d=none∨∃c0,Ω.e d=some c0/\CLe c0 c) (hc:∀b o,occ c b o→b=Ω.w.heap.size)
  (hslot:Ext Ω ⟨fun i=>if d=i then some c else Ω.e i,Ω.w.alloc x,fun b o=>Ω.pub b o∨(b=Ω.w.heap.size/\p o)⟩→
   bv ⟨fun i=>if d=i then some c else Ω.e i,Ω.w.alloc x,fun b o=>Ω.pub b o∨(b=Ω.w.heap.size/\p o)⟩ F.own d obj)
  (hcell:∀o,p o→∃v,(Ω.w.alloc x).cell? ⟨Ω.w.heap.size,o,none⟩=some v)
  (hv:Ext Ω ⟨fun i=>if d=i then some c else Ω.e i,Ω.w.alloc x,fun b o=>Ω.pub b o∨(b=Ω.w.heap.size/\p o)⟩→
   V ⟨fun i=>if d=i then some c else Ω.e i,Ω.w.alloc x,fun b o=>Ω.pub b o∨(b=Ω.w.heap.size/\p o)⟩ val v) (hd:∀d,dst=some d→d < F.n) :
  Holds F ⟨cE s.T dst val,updB s.B [(d,obj)]⟩ (a.put dst v)
   ⟨fun i=>if d=i then some c else Ω.e i,Ω.w.alloc x,fun b o=>Ω.pub b o∨(b=Ω.w.heap.size/\p o)⟩:=by
 have hx:Ext Ω ⟨fun i=>if d=i then some c else Ω.e i,Ω.w.alloc x,fun b o=>Ω.pub b o∨(b=Ω.w.heap.size/\p o)⟩:=by
  refine ⟨fun id c' hc'=>?_,fun b o hp=>Or.inl hp,fun b o hp=>ay (gy _ _ _ (h.cell_lt hp)) o⟩
  by_cases hid:d=id
  ·subst hid
   rcases hn with hn | ⟨c0,hn,hl⟩
   ·rw [hn] at hc';cases hc'
   ·rw [hn] at hc'
    simp at hc'
    subst hc'
    exact ⟨c,by simp,hl⟩
  ·exact ⟨c',by simp [hid,hc'],CLe.refl _⟩
 refine h.slot hx (hslot hx) (fun i c' hi he=>mL.of_blocks fun b o hb=>?_) (fun i c' b o hi he hb hb'=>?_) (fun b o hp=>?_) ?_ (hv hx) hd
 ·have hlt:=h.blk he hb
  exact ⟨gy _ _ _ hlt,fun o ho=>ho.resolve_right (fun e=>by omega)⟩
 ·have hlt:=h.blk he hb
  have:=hc b o hb'
  omega
 ·rcases hp with hp | ⟨rfl,hp⟩
  ·obtain ⟨v,hv⟩:=h.pubok b o hp
   exact ⟨v,by rw [ay (gy _ _ _ (h.cell_lt hp)),hv]⟩
  ·exact hcell o hp
 ·have hsz:=h.frame.size
  refine ⟨h.frame.os,h.frame.tape,h.frame.output,by simp;omega,fun b hb hnb=>?_,fun b o hb hnb=>?_,fun b hb=>?_,fun b o hp=>?_,fun b o hp=>Or.inl (h.frame.old b o hp),fun b o hp=>(hx.cell b o (h.frame.old b o hp)).trans (h.frame.pcell b o hp)⟩
  ·show (Ω.w.alloc x).heap[b]?=_
   rw [gy _ _ _ (by omega)]
   exact h.frame.block b hb hnb
  ·exact (ay (gy Ω.w x b (by omega)) o).trans (h.frame.cell b o hb hnb)
  ·intro hnb
   obtain ⟨k1,k2⟩:=h.frame.kind b hb hnb
   exact ⟨(bA (gy Ω.w x b (by omega))).trans k1,fun o=>(ba (gy Ω.w x b (by omega)) o).trans (k2 o)⟩
  ·rcases hp with hp | ⟨rfl,hp⟩
   ·exact h.frame.pub b o hp
   ·exact Or.inr (Or.inl h.frame.size)
theorem Holds.newVar {F:Fr} {s:AS} {a:Act} {Ω:Om} {d:Nat} {c:AV} {vs:Array Value} {ty:Nat}
  (h:Holds F s a Ω) (hB:s.B d=none) (hv:VL Ω (aa c) vs.toList) (hd:d < F.n) :
  ∃Ω',Ω'.w=Ω.w.alloc (.cells vs ty)/\
   Holds F ⟨cE s.T (some d) (.ptr d 0),updB s.B [(d,.box c)]⟩ (a.put (some d) (.pointer (some ⟨Ω.w.heap.size,0,none⟩))) Ω':=by
 refine ⟨_,rfl,h.alloc (c:=.box Ω.w.heap.size 0 (aa c).length) (p:=fun _=>False) (Or.inl (h.dom d hB)) (fun b o hb=>hb.1) (fun hx=>?_) (fun _ hf=>hf.elim) (fun hx=>?_) (fun d' hd'=>by simp at hd';subst hd';exact hd)⟩
 ·refine ⟨Ω.w.heap.size,0,by simp,fun j c' hc=>?_⟩
  have hj:j < vs.size:=by
   have h1:(aa c).length=vs.toList.length:=hv.1
   have h2:vs.toList.length=vs.size:=Array.length_toList
   rcases Nat.lt_or_ge j (aa c).length with k | k
   ·rw [←h2,←h1];exact k
   ·rw [List.getElem?_eq_none k] at hc;cases hc
  have hcells:(Ω.w.alloc (.cells vs ty)).heap[Ω.w.heap.size]?=some (.cells vs ty (0,0)):=cJ _ _
  refine ⟨Or.inl h.frame.size,fun hp=>?_,eZ hcells _,vs[j],?_,(hv.2 j c' _ hc (by simp [hj])).ext hx⟩
  ·rcases hp with hp | ⟨_,hp⟩
   ·have:=h.cell_lt hp;omega
   ·exact hp
  ·simp only [Nat.zero_add]
   rw [aM hcells]
   simp [hj]
 ·have:=V.ptr (Ω:=⟨fun i=>if d=i then some (.box Ω.w.heap.size 0 (aa c).length) else Ω.e i,Ω.w.alloc (.cells vs ty),fun b o=>Ω.pub b o∨(b=Ω.w.heap.size/\False)⟩) d 0 Ω.w.heap.size 0 (aa c).length (by simp)
  simpa using this
theorem m8 {w:World} {t:Nat} {v:Value}:(newVar t v).run P w=.ok ⟨w.heap.size,0,none⟩ (w.alloc (.cells v.cells t)):=by
 simp [newVar,newRow]
theorem uO (v:Value):aa (ct v)=[ct v]:=by
 unfold ct
 split <;> (try split) <;> rfl
theorem tj {v:Value} (h:ct v=.nilp):v=.pointer none:=by
 unfold ct at h
 split at h <;> (try split at h) <;> first | rfl | cases h
theorem tl {v:Value} (h:ct v=.nils):v=.slice none 0 0:=by
 unfold ct at h
 split at h <;> (try split at h) <;> first | rfl | cases h
theorem pP:∀{l:List AV},F2 l=true→bg (.int .i64) (List.replicate l.length (0:Int))=l
 | [],_=>rfl
 | c ::r,h=>by
  unfold F2 at h
  split at h
  ·rename_i h1;cases h1
  ·rename_i r' h1
   simp only [List.cons.injEq] at h1
   obtain ⟨rfl,rfl⟩:=h1
   have ih:=pP h
   simp only [List.length_cons,List.replicate_succ,bg,List.flatMap_cons] at ih ⊢
   rw [ih]
   rfl
  ·cases h
theorem CR (hT:bH P C.tbl) {e:Nat} (hop:o.op=.alloc e):cG P C o:=by
 intro F s a Ω eff next Q h hd he ho hn
 simp only [aG,hop] at he
 split at he
 ·rename_i d r hdst hr
  split at he
  ·rename_i u hu
   split at he
   ·rename_i hB
    simp only [Xs] at he
    subst he
    obtain ⟨i,z,i1,i2,i3,i4,i5⟩:=(hT _ _ hr).info
    have hz0:r.zero=[.nilp,.nils]:=by
     unfold Ga at hu
     split at hu
     ·assumption
     ·cases hu
    rw [hz0] at i5
    have hz:z.cells=#[.pointer none,.slice none 0 0]:=by
     match hl:z.cells.toList,i5 with
     | [],i5=>cases i5
     | [_],i5=>simp at i5
     | _ ::_ ::_ ::_,i5=>simp at i5
     | [x,y],i5=>
      simp only [List.map_cons,List.map_nil,List.cons.injEq,and_true] at i5
      have hx:x=.pointer none:=tj i5.1
      have hy:y=.slice none 0 0:=tl i5.2
      subst hx hy
      exact Array.toList_inj.1 hl
    have hnew:(Ω.w.alloc (.cells #[.pointer none,.slice none 0 0] e)).heap[Ω.w.heap.size]?=some (.cells #[.pointer none,.slice none 0 0] e (0,0)):=cJ _ _
    have hh:=h.alloc (d:=d) (c:=.bld Ω.w.heap.size none) (obj:=.bld e u []) (x:=.cells #[.pointer none,.slice none 0 0] e) (p:=fun _=>False) (dst:=some d) (val:=.bptr d) (v:=.pointer (some ⟨Ω.w.heap.size,0,none⟩))
     (Or.inl (h.dom d hB)) (fun b o hb=>by rcases hb with hb | hb;exact hb;cases hb)
     (fun hx=>by
      refine ⟨Ω.w.heap.size,none,by simp,fun b' hb o=>?_,.pointer none,.slice none 0 0,hnew,.inl rfl,rfl,by simp,World.ownsRowF_nil _ _ _ _,fun _=>rfl⟩
      rcases hb with rfl | hb
      ·refine ⟨Or.inl h.frame.size,fun hp=>?_⟩
       rcases hp with hp | ⟨_,hp⟩
       ·have:=h.cell_lt hp;omega
       ·exact hp
      ·cases hb)
     (fun _ hf=>hf.elim) (fun hx=>.bptr d Ω.w.heap.size none (by simp)) (fun d' hd'=>by simp at hd';subst hd';exact hd d hdst)
    refine aH (v:=.pointer (some ⟨Ω.w.heap.size,0,none⟩)) (w':=Ω.w.alloc (.cells z.cells e)) ?_ ?_
    ·simp [execOp,hop,Instr.alloc,iu i1 i4,m8]
    ·rw [hz]
     rw [hdst] at hn ⊢
     exact hn _ _ hh
   ·simp at he
  split at he
  ·rename_i c hB hz
   simp only [Xs] at he
   subst he
   obtain ⟨i,z,i1,i2,i3,i4,i5⟩:=(hT _ _ hr).info
   have hc:aa c=r.zero:=by
    unfold zE at hz
    split at hz
    ·split at hz
     ·rename_i hzz
      simp only [Bool.and_eq_true] at hzz
      simp only [Xs] at hz
      subst hz
      rw [←cn _ _ hzz.2]
      exact pP hzz.1
     ·cases hz
    split at hz
    ·simp only [Xs] at hz
     subst hz
     rfl
    ·split at hz
     ·rename_i c1 hzz
      simp only [Xs] at hz
      subst hz
      rw [hzz] at i5
      match hl:z.cells.toList,i5 with
      | [u],i5=>
       simp only [List.map_cons,List.map_nil,List.cons.injEq,and_true] at i5
       rw [←i5,uO,i5,hzz]
     ·cases hz
   have hvl:VL Ω (aa c) z.cells.toList:=by rw [hc,←i5];exact pL Ω _
   obtain ⟨Ω',hw,hh⟩:=h.newVar (ty:=e) hB hvl (hd d hdst)
   refine aH (v:=.pointer (some ⟨Ω.w.heap.size,0,none⟩)) (w':=Ω.w.alloc (.cells z.cells e)) ?_ ?_
   ·simp [execOp,hop,Instr.alloc,iu i1 i4,m8]
   ·rw [←hw]
    rw [hdst] at hn ⊢
    exact hn _ _ hh
  ·simp at he
 ·simp at he
theorem Gu {e:Nat} {x:Operand} (hop:o.op=.box e x):cG P C o:=by
 intro F s a Ω eff next Q h hd he ho hn
 simp only [aG,hop] at he
 split at he
 ·rename_i d r hdst hr
  split at he
  ·rename_i hB
   split at he
   ·rename_i hl
    simp only [Xs] at he
    subst he
    simp only [Bool.and_eq_true] at hl
    have hvl:=(bC h x).parts hl.1
    obtain ⟨Ω',hw,hh⟩:=h.newVar (ty:=e) hB hvl (hd d hdst)
    refine aH (v:=.pointer (some ⟨Ω.w.heap.size,0,none⟩)) (w':=Ω.w.alloc (.cells (a.eval x).cells e)) ?_ ?_
    ·simp [execOp,hop,Instr.box,m8]
    ·rw [←hw]
     rw [hdst] at hn ⊢
     exact hn _ _ hh
   ·simp at he
  ·simp at he
 ·simp at he
theorem rZ (off:Nat):∀(vs:List Value) (i:Nat) (cs:Array Value),off+i+vs.length<=cs.size→
  (vs.zipIdx i).foldl (fun (cs:Array Value) (x:Value × Nat)=>cs.setIfInBounds (off+x.2) x.1) cs=
   (cs.toList.take (off+i)++vs++cs.toList.drop (off+i+vs.length)).toArray
 | [],i,cs,_=>by simp
 | v ::vs,i,cs,h=>by
  simp at h
  simp only [List.zipIdx_cons,List.foldl_cons]
  rw [rZ off vs (i+1) _ (by simp;omega)]
  apply Array.ext'
  have hi:off+i < cs.toList.length:=by simp;omega
  simp only [Array.toList_setIfInBounds,List.length_cons]
  rw [List.set_eq_take_append_cons_drop,if_pos hi]
  have e1:(List.take (off+i) cs.toList++v ::List.drop (off+i+1) cs.toList).take (off+(i+1))=List.take (off+i) cs.toList++[v]:=by
   rw [List.take_append,List.take_of_length_le (by simp;omega)]
   congr 1
   have:off+(i+1) - (List.take (off+i) cs.toList).length=1:=by simp;omega
   rw [this]
   rfl
  have e2:(List.take (off+i) cs.toList++v ::List.drop (off+i+1) cs.toList).drop (off+(i+1)+vs.length)=List.drop (off+i+(vs.length+1)) cs.toList:=by
   rw [List.drop_append,List.drop_of_length_le (by simp;omega),List.nil_append]
   have:off+(i+1)+vs.length - (List.take (off+i) cs.toList).length=vs.length+1:=by simp;omega
   rw [this,List.drop_succ_cons,List.drop_drop]
   congr 1
   omega
  rw [e1,e2]
  simp
theorem s7 {place:Nat→Option (Nat × Nat)} {cells:Array Value} {i:Nat} {v:Value} {rest:List (Nat × Value)} {off size:Nat}
  (hp:place i=some (off,size)) (hs:v.cells.size=size) (hl:off+v.cells.size<=cells.size) :
  Instr.fill place cells ((i,v) ::rest)=
   Instr.fill place (cells.toList.take off++v.cells.toList++cells.toList.drop (off+v.cells.size)).toArray rest:=by
 simp only [Instr.fill,hp]
 rw [if_neg (by simp;omega)]
 congr 1
 rw [←Array.foldl_toList]
 have:=rZ off v.cells.toList 0 cells (by simpa using hl)
 simp only [Nat.add_zero,Array.length_toList] at this
 rw [←this]
 simp [Array.toList_zipIdx]
theorem uP {Ω:Om} {x:AV} {v:Value} (h:V Ω x v) {n:Nat} (hl:gu (aa x) n=true) (hn:(aa x).all lF=true):v.cells.size=n:=by
 have:=(h.parts hn).1
 rw [cn _ _ hl] at this
 simpa using this.symm
theorem ot {Ω:Om} (fs:List (Nat × Nat)) (sz:Nat→Option Nat):∀(ps:List (Nat × AV)) (qs:List (Nat × Value)) (cs ds:List AV) (vs:List Value) (place:Nat→Option (Nat × Nat)),
  (∀i off t n,nth fs i=some (off,t)→sz t=some n→place i=some (off,n))→
  ps.map (·.1)=qs.map (·.1)→VL Ω (ps.map (·.2)) (qs.map (·.2))→VL Ω cs vs→uG fs sz cs ps=some ds→
  ∃ws,Instr.fill place vs.toArray qs=some ws/\VL Ω ds ws.toList
 | [],qs,cs,ds,vs,place,_,hq,_,hc,hf=>by
  cases qs with
  | cons _ _=>simp at hq
  | nil=>
   simp [uG] at hf
   subst hf
   exact ⟨vs.toArray,rfl,by simpa using hc⟩
 | (i,x) ::ps,[],cs,ds,vs,place,_,hq,_,_,_=>by simp at hq
 | (i,x) ::ps,(i',v) ::qs,cs,ds,vs,place,hp,hq,hv,hc,hf=>by
  simp only [List.map_cons,List.cons.injEq] at hq
  obtain ⟨rfl,hq⟩:=hq
  simp only [List.map_cons] at hv
  simp only [uG] at hf
  split at hf
  ·rename_i off t hft
   split at hf
   ·rename_i n hn
    split at hf
    ·rename_i hl
     simp only [Bool.and_eq_true] at hl
     split at hf
     ·rename_i es hes
      have hxv:=hv.head
      have hpl:=hp _ _ _ _ hft hn
      have hsz:=uP hxv hl.2 hl.1
      have hsp:=hc.splice (hxv.parts hl.1) hes
      obtain ⟨s1,s2⟩:=fA _ _ _ _ hes
      obtain ⟨ws,h1,h2⟩:=ot fs sz ps qs es ds _ place hp hq hv.tail hsp hf
      refine ⟨ws,?_,h2⟩
      rw [s7 hpl hsz (by
       have e1:=cn _ _ hl.2
       simp only [List.size_toArray,←hc.1]
       omega)]
      simpa using h1
     ·simp at hf
    ·simp at hf
   ·simp at hf
  ·simp at hf
theorem pQ {w:World} (hT:bH P C.tbl):∀(fields:List Field),(∀f∈fields,∃i,P.info? f.type=some i/\i.size≠0)→
  (fields.mapM fun f=>(do pure (f.offset,←sizeOf f.type):Sem (Nat × Nat))).run P w=.ok (fields.map fun f=>(f.offset,P.cellsOf f.type)) w
 | [],_=>rfl
 | f ::fs,h=>by
  obtain ⟨i,hi,_⟩:=h f (by simp)
  rw [List.mapM_cons]
  simp only [Sem.run_bind,dW hi,Result.andThen_ok,Sem.run_pure,pQ hT fs (fun f hf=>h f (by simp [hf])),List.map_cons,Program.cellsOf,hi,Option.map_some,Option.getD_some]
theorem CS (hT:bH P C.tbl) {t:Nat} {ps:Array (Nat × Operand)} (hop:o.op=.build t ps):cG P C o:=by
 refine cG.pure fun F s a Ω eff h he ho=>?_
 simp only [aG,hop] at he
 split at he
 ·rename_i fs sz by' z ty hr
  split at he
  ·rename_i cs hcs
   simp only [Xs] at he
   subst he
   obtain ⟨d,hd1,hd2⟩:=aS hT hr rfl
   cases d <;> simp [aZ] at hd2
   rename_i fields
   obtain ⟨hf1,hf2⟩:=hd2
   obtain ⟨i,zv,i1,i2,i3,i4,i5⟩:=(hT _ _ hr).info
   have i5':List.map ct zv.cells.toList=z:=i5
   have hz:VL Ω z zv.cells.toList:=by rw [←i5'];exact pL Ω _
   have hfi:∀f∈fields.toList,∃i,P.info? f.type=some i/\i.size≠0:=by
    intro f hf
    obtain ⟨j,hj,hje⟩:=Array.mem_iff_getElem.1 (Array.mem_toList_iff.1 hf)
    have:=hf2 j hj
    rw [hje] at this
    split at this
    ·rename_i i' hi'
     exact ⟨i',hi',fun h0=>by simp [h0] at this⟩
    ·simp at this
   have hpl:∀w,(fields.mapM fun f=>(do pure (f.offset,←sizeOf f.type):Sem (Nat × Nat))).run P w=.ok (fields.toList.map fun f=>(f.offset,P.cellsOf f.type)).toArray w:=by
    intro w
    rw [←Array.toArray_toList (xs:=fields),List.mapM_toArray]
    simp only [Sem.run_map,pQ hT fields.toList hfi,Result.andThen_ok]
   obtain ⟨ws,h1,h2⟩:=ot (Ω:=Ω) fs (fun t=>(aT C.tbl t).map (·.size)) (ps.toList.map fun (i,x)=>(i,opd s.T x)) (ps.toList.map fun (i,x)=>(i,a.eval x)) z cs zv.cells.toList
    (fun i=>((fields.toList.map fun f=>(f.offset,P.cellsOf f.type)).toArray)[i]?)
    (by
     intro j off t' n hn1 hn2
     rw [km,←hf1] at hn1
     simp only [List.getElem?_map,Option.map_eq_some_iff] at hn1 hn2
     obtain ⟨f,hf,e⟩:=hn1
     obtain ⟨r',hr',e'⟩:=hn2
     simp at e
     obtain ⟨i',z',j1,j2,j3,j4,j5⟩:=(hT _ _ hr').info
     simp only [List.getElem?_toArray,List.getElem?_map,hf,Option.map_some,Program.cellsOf,e.1,e.2,j1,Option.getD_some,j2,e'])
    (by simp [Function.comp_def])
    (by
     refine ⟨by simp,fun j c v hc hv=>?_⟩
     simp only [List.map_map,List.getElem?_map,Option.map_eq_some_iff] at hc hv
     obtain ⟨x,hx,e⟩:=hc
     obtain ⟨x',hx',e'⟩:=hv
     rw [hx] at hx'
     simp at hx'
     subst hx'
     simp at e e'
     rw [←e,←e']
     exact bC h x.2)
    hz hcs
   refine ⟨rfl,.agg ws,?_,?_⟩
   ·simp only [execOp,hop,Instr.build,Sem.run_bind,iu i1 i4,Result.andThen_ok,aV hd1,hpl,Sem.run_pure]
    have e:ps.map (fun x=>(x.1,a.eval x.2))=(ps.toList.map fun (i,x)=>(i,a.eval x)).toArray:=by apply Array.ext';simp
    have e2:(ps.map fun x=>match x with | (i,x)=>(i,a.eval x)).toList=ps.toList.map fun (i,x)=>(i,a.eval x):=by simp
    simp only [Array.toArray_toList] at h1
    rw [e2,h1]
    simp
   ·have:=V.of_agg h2
    show V Ω (.agg cs) _
    simpa using this
  ·simp at he
 ·simp at he
end
end Go.AL
end
