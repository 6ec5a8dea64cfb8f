/- The layer: Go code as conditions, and that they are sound. No condition. -/
import Derived.Test.YtdmbjejhifjhbaaGreatDoorT05
import Derived.Laws.BytesString
import Derived.Lib.ConvBytes
import Derived.MapKept
set_option linter.unusedVariables false
set_option linter.unusedSimpArgs false
set_option linter.unnecessarySimpa false
set_option linter.deprecated false
set_option linter.unusedSectionVars false
set_option maxRecDepth 100000
section
namespace Go.AL
variable [Tabs]
section
variable {K V:Type} [DecidableEq K]
theorem nF {k:K}:∀{m:List (K × V)},(∀x∈m,x.1≠k)→fy m k=none
 | [],_=>rfl
 | (a,v) ::r,h=>by
  have h1:¬k=a:=fun e=>h (a,v) (by simp) e.symm
  simp only [fy,h1,if_false]
  exact nF (fun x hx=>h x (by simp [hx]))
theorem tz {k:K} {v:V}:∀{m:List (K × V)} {j:Nat},(m.map (·.1)).Nodup→m[j]?=some (k,v)→fy m k=some v
 | [],j,_,h=>by simp at h
 | (a,u) ::r,0,_,h=>by simp at h;obtain ⟨rfl,rfl⟩:=h;simp [fy]
 | (a,u) ::r,j+1,hn,h=>by
  simp only [List.map_cons,List.nodup_cons] at hn
  have hm:(k,v)∈r:=List.mem_of_getElem? (by simpa using h)
  have h1:¬k=a:=fun e=>hn.1 (by rw [←e];exact List.mem_map.2 ⟨(k,v),hm,rfl⟩)
  simp only [fy,h1,if_false]
  exact tz hn.2 (by simpa using h)
theorem nG {k:K} {v:V}:∀{m:List (K × V)},(∀x∈m,x.1≠k)→lY m k v=m++[(k,v)]
 | [],_=>rfl
 | (a,u) ::r,h=>by
  have h1:¬k=a:=fun e=>h (a,u) (by simp) e.symm
  simp only [lY,h1,if_false,List.cons_append]
  rw [nG (fun x hx=>h x (by simp [hx]))]
theorem tA {k:K} {u v:V}:∀{m:List (K × V)} {j:Nat},(m.map (·.1)).Nodup→m[j]?=some (k,u)→lY m k v=m.set j (k,v)
 | [],j,_,h=>by simp at h
 | (a,w) ::r,0,_,h=>by simp at h;obtain ⟨rfl,rfl⟩:=h;simp [lY]
 | (a,w) ::r,j+1,hn,h=>by
  simp only [List.map_cons,List.nodup_cons] at hn
  have hm:(k,u)∈r:=List.mem_of_getElem? (by simpa using h)
  have h1:¬k=a:=fun e=>hn.1 (by rw [←e];exact List.mem_map.2 ⟨(k,u),hm,rfl⟩)
  simp only [lY,h1,if_false,List.set_cons_succ]
  rw [tA hn.2 (by simpa using h)]
end
def m9:(κ:Ty)→den κ→Value
 | .str,k=>.string ⟨(show Str from k).toArray⟩
 | .int j,n=>.int j n
 | _,_=>undef
theorem gz {ti:TI} {κ:Ty} (h:mJ ti κ=true):(ti=.str/\κ=.str)∨∃j,ti=.int j/\κ=.int j:=by
 unfold mJ at h
 split at h
 ·exact Or.inl ⟨rfl,rfl⟩
 ·simp at h;subst h;exact Or.inr ⟨_,rfl,rfl⟩
 ·cases h
theorem CU {ti:TI} {κ:Ty} (h:mJ ti κ=true) {a b:den κ} (e:m9 κ a=m9 κ b):a=b:=by
 rcases gz h with ⟨_,rfl⟩ | ⟨j,_,rfl⟩
 ·simpa [m9] using e
 ·simpa [m9] using e
theorem pV {ti:TI} {κ:Ty} (h:mJ ti κ=true) {Ω:Om} {k:den κ} {v:Value} (hv:V Ω (inj κ k) v):v=m9 κ k:=by
 rcases gz h with ⟨_,rfl⟩ | ⟨j,_,rfl⟩
 ·exact hv.str_inv.1
 ·exact hv.int_inv.1
theorem ix {ti:TI} {κ:Ty} (h:mJ ti κ=true) {P:Program} {d:TypeDesc} (hd:aZ P ti d=true) (k:den κ):MapKept.IsKey d (m9 κ k):=by
 rcases gz h with ⟨rfl,rfl⟩ | ⟨j,rfl,rfl⟩
 ·cases d <;> simp [aZ] at hd;trivial
 ·cases d <;> simp [aZ] at hd;subst hd;trivial
theorem MapOK.find {Ω:Om} {ti:TI} {κ τ:Ty} {m:List (den κ × den τ)} {es:Array MapEntry} {clock:Nat} (h:MapOK Ω κ τ m es clock) (hk:mJ ti κ=true)
  {P:Program} {d:TypeDesc} (hd:aZ P ti d=true) {k:AV} {g:Option (den τ)} (hg:nC κ τ m k=some g):∃k0:den κ,k=inj κ k0/\
  ((Instr.findNow d (m9 κ k0) es.toList 0=some none/\g=none/\(∀x∈m,x.1≠k0)/\∀v,kj κ τ m k v=some (m++[(k0,v)]))∨
   ∃j e v,Instr.findNow d (m9 κ k0) es.toList 0=some (some (j,e.val))/\es[j]?=some e/\m[j]?=some (k0,v)/\g=some v/\e.key=m9 κ k0/\
    ∀u,kj κ τ m k u=some (m.set j (k0,u))):=by
 have hkeys:∀x∈es.toList,MapKept.IsKey d x.key:=by
  intro x hx
  obtain ⟨j,hj,e⟩:=List.mem_iff_getElem.1 hx
  have hj':j < m.length:=by rw [←h.size];simpa using hj
  have hej:es[j]?=some x:=by
   rw [←Array.getElem?_toList,List.getElem?_eq_getElem hj,e]
  obtain ⟨h1,_⟩:=h.ent j x _ hej (List.getElem?_eq_getElem hj')
  rw [pV hk h1]
  exact ix hk hd _
 have main:∀(k0:den κ) (get:den κ→Option (den τ)) (set:den κ→den τ→List (den κ × den τ)),
   ((∀x∈m,x.1≠k0)→get k0=none/\∀v,set k0 v=m++[(k0,v)])→
   (∀j v,m[j]?=some (k0,v)→get k0=some v/\∀u,set k0 u=m.set j (k0,u))→
   ((Instr.findNow d (m9 κ k0) es.toList 0=some none/\get k0=none/\(∀x∈m,x.1≠k0)/\∀v,set k0 v=m++[(k0,v)])∨
    ∃j e v,Instr.findNow d (m9 κ k0) es.toList 0=some (some (j,e.val))/\es[j]?=some e/\m[j]?=some (k0,v)/\get k0=some v/\e.key=m9 κ k0/\
     ∀u,set k0 u=m.set j (k0,u)):=by
  intro k0 get set hn hs
  rcases MapKept.findNow_spec (ix hk hd k0) es.toList 0 hkeys with ⟨h1,h2⟩ | ⟨j,e,h1,h2,h3⟩
  ·have hne:∀x∈m,x.1≠k0:=by
    intro x hx e
    obtain ⟨j,hj,e2⟩:=List.mem_iff_getElem.1 hx
    have hj':j < es.size:=by rw [h.size];exact hj
    obtain ⟨q1,_⟩:=h.ent j es[j] x (Array.getElem?_eq_getElem hj') (by rw [List.getElem?_eq_getElem hj,e2])
    refine h2 es[j] (by simp) ?_
    rw [pV hk q1,e]
   exact Or.inl ⟨h1,(hn hne).1,hne,(hn hne).2⟩
  ·have hej:es[j]?=some e:=by rw [←Array.getElem?_toList];exact h2
   have hj:j < m.length:=by
    rw [←h.size]
    rcases Nat.lt_or_ge j es.size with k | k
    ·exact k
    ·rw [Array.getElem?_eq_none k] at hej;cases hej
   obtain ⟨q1,_⟩:=h.ent j e m[j] hej (List.getElem?_eq_getElem hj)
   have hk0:m[j].1=k0:=by
    have:=pV hk q1
    rw [h3] at this
    exact (CU hk this).symm
   have hmj:m[j]?=some (k0,m[j].2):=by rw [List.getElem?_eq_getElem hj,←hk0]
   obtain ⟨r1,r2⟩:=hs j _ hmj
   exact Or.inr ⟨j,e,_,by simpa using h1,hej,hmj,r1,h3,r2⟩
 rcases gz hk with ⟨_,rfl⟩ | ⟨i,_,rfl⟩
 ·cases k <;> simp only [nC,Xs,reduceCtorEq] at hg
  rename_i k0
  refine ⟨k0,rfl,?_⟩
  have:=main k0 (fun k=>fy (K:=Str) m k) (fun k v=>lY (K:=Str) m k v)
   (fun hn=>⟨nF hn,fun v=>nG hn⟩) (fun j v hj=>⟨tz h.keys hj,fun u=>tA h.keys hj⟩)
  rw [←hg]
  simpa [kj] using this
 ·cases k <;> simp only [nC,Xs,reduceCtorEq] at hg
  rename_i i' k0
  split at hg
  ·rename_i hii
   subst hii
   refine ⟨k0,rfl,?_⟩
   have:=main k0 (fun k=>fy (K:=Int) m k) (fun k v=>lY (K:=Int) m k v)
    (fun hn=>⟨nF hn,fun v=>nG hn⟩) (fun j v hj=>⟨tz h.keys hj,fun u=>tA h.keys hj⟩)
   simp only [Xs] at hg
   rw [←hg]
   simpa [kj] using this
  ·cases hg
section
variable {P:Program} {C:Cfg} {o:Oper}
theorem CV (hT:bH P C.tbl) {e:Nat} {re:TR} (hre:aT C.tbl e=some re) {τ:Ty} (hty:re.ty=some τ) {z:den τ} (hz:sS τ re.zero=some z) (Ω:Om) :
  ∃i v,P.info? e=some i/\i.zero=some v/\V Ω (inj τ z) v/\VL Ω (cells τ z) v.cells.toList:=by
 obtain ⟨i,v,i1,i2,i3,i4,i5⟩:=(hT _ _ hre).info
 have hag:=(hT _ _ hre).zagg i v i1 i4
 have hst:=((hT _ _ hre).ty τ hty).2
 have hvl:VL Ω (cells τ z) v.cells.toList:=by
  have:=pL Ω v.cells.toList
  rw [i5] at this
  exact this.rd (jF τ hz)
 refine ⟨i,v,i1,i4,?_,hvl⟩
 cases τ with
 | st n=>
  have:xo v=true:=by rw [hag,←hst];rfl
  cases v <;> simp [xo] at this
  rename_i cs
  have e:(Value.agg cs).cells.toList.toArray=cs:=by simp [Value.cells]
  have:=V.st (Ω:=Ω) n z (.agg (Value.agg cs).cells.toList.toArray) (V.of_agg hvl)
  rw [e] at this
  exact this
 | _=>
  have:xo v=false:=by rw [hag,←hst];rfl
  have hc:v.cells.toList=[v]:=by cases v <;> simp [xo] at this <;> rfl
  rw [hc] at hvl
  exact hvl.head
theorem AA (hT:bH P C.tbl) {t:Nat} {x k:Operand} {ok:Bool} (hop:o.op=.lookup t x k ok):cG P C o:=by
 refine cG.pure fun F s a Ω eff h he ho=>?_
 simp only [aG,hop,sW] at he
 have hx:=bC h x
 have hk:=bC h k
 split at he
 ·rename_i kt e sz by' z0 ty id hr hxe
  rw [hxe] at hx
  split at he
  ·rename_i rk re κ τ m hrk hre hm
   split at he
   ·rename_i z g hz hg
    split at he
    ·rename_i hc
     simp only [Bool.and_eq_true,decide_eq_true_eq] at hc
     obtain ⟨hko,hty⟩:=hc
     simp only [Xs] at he
     subst he
     obtain ⟨d,hd1,hd2⟩:=aS hT hr rfl
     cases d <;> simp [aZ] at hd2
     obtain ⟨rfl,rfl⟩:=hd2
     obtain ⟨dk,hk1,hk2⟩:=aS hT hrk rfl
     generalize hxv:a.eval x=xv at hx
     cases hx with
     | map _ r her=>
      obtain ⟨r',e1,e2,es,clock,e3,e4⟩:=h.slots _ _ hm
      rw [her] at e1
      simp only [Xs,CObj.obj.injEq] at e1
      subst e1
      obtain ⟨k0,hk0,hf⟩:=e4.find hko hk2 hg
      rw [hk0] at hk
      have hkv:=pV hko hk
      obtain ⟨i,zv,i1,i4,zV,_⟩:=CV hT hre hty hz Ω
      have hck:=fun em=>MapKept.run_checkKey (P:=P) (w:=Ω.w) hk1 (ix hko hk2 k0) em 9999
      have hgo:=MapKept.run_getObj_map (P:=P) e3
      rcases hf with ⟨h1,h2,h3,h4⟩ | ⟨j,en,v,h1,h2,h3,h4,h5,h6⟩
      ·have hfk:=MapKept.run_findKey (P:=P) (w:=Ω.w) hk1 h1
       subst h2
       cases ok with
       | true=>
        refine ⟨rfl,.tuple #[zv,.bool false],?_,?_⟩
        ·simp [execOp,hop,hxv,hkv,Instr.lookup,aV hd1,hgo,hck,hfk,iu i1 i4]
        ·exact V.of_tup (VL.cons zV (VL.cons (.bool false) .nil))
       | false=>
        refine ⟨rfl,zv,?_,zV⟩
        simp [execOp,hop,hxv,hkv,Instr.lookup,aV hd1,hgo,hck,hfk,iu i1 i4]
      ·have hfk:=MapKept.run_findKey (P:=P) (w:=Ω.w) hk1 h1
       subst h4
       have hv:=(e4.ent j en _ h2 h3).2
       cases ok with
       | true=>
        refine ⟨rfl,.tuple #[en.val,.bool true],?_,?_⟩
        ·simp [execOp,hop,hxv,hkv,Instr.lookup,aV hd1,hgo,hck,hfk]
        ·exact V.of_tup (VL.cons hv (VL.cons (.bool true) .nil))
       | false=>
        refine ⟨rfl,en.val,?_,hv⟩
        simp [execOp,hop,hxv,hkv,Instr.lookup,aV hd1,hgo,hck,hfk]
    ·simp at he
   ·simp at he
  ·simp at he
 ·simp at he
theorem v6 {f:Fn} {first caps:Array Operand} (hop:o.op=.makeFunc f first caps):cG P C o:=by
 refine cG.pure fun F s a Ω eff h he ho=>?_
 cases f with
 | func f=>
  simp only [aG,hop] at he
  split at he
  ·rename_i hem
   simp only [Xs] at he
   subst he
   have hf0:first=#[]:=by simpa using hem
   subst hf0
   refine ⟨rfl,.func (.func f) #[] (caps.map a.eval),by simp [execOp,hop,Instr.makeFunc],?_⟩
   have:(caps.map a.eval)=(caps.toList.map a.eval).toArray:=by apply Array.ext';simp
   rw [this]
   refine V.fn f _ _ (by simp) (fun j c v hc hv=>?_)
   simp only [List.getElem?_map,Option.map_eq_some_iff] at hc hv
   obtain ⟨y,hy,rfl⟩:=hc
   obtain ⟨y',hy',rfl⟩:=hv
   rw [hy] at hy'
   simp at hy'
   subst hy'
   exact bC h y
  ·simp at he
 | _=>simp [aG,hop] at he
theorem nH (hT:bH P C.tbl) {t:Nat} {x:Operand} (hop:o.op=.makeInterface t x):cG P C o:=by
 refine cG.pure fun F s a Ω eff h he ho=>?_
 simp only [aG,hop] at he
 split at he
 ·rename_i r hr
  split at he
  ·cases he
  ·rename_i hti
   simp only [Xs] at he
   subst he
   obtain ⟨d,hd1,hd2⟩:=aS hT hr rfl
   refine ⟨rfl,.iface t (a.eval x),?_,.iface t _ _ (bC h x)⟩
   have hn:∀ms,d≠.interface ms:=by
    intro ms e
    subst e
    generalize r.ti=ti at hti hd2
    cases ti <;> first | exact hti rfl | cases hd2
   simp only [execOp,hop,Instr.makeInterface,Sem.run_bind,aV hd1,Result.andThen_ok]
   cases d <;> first | exact absurd rfl (hn _) | rfl
 ·simp at he
theorem rC (hT:bH P C.tbl) {t t':Nat} {b:Bool} {x:Operand} (hop:o.op=.typeAssert x t' t b):cG P C o:=by
 refine cG.pure fun F s a Ω eff h he ho=>?_
 cases b with
 | false=>simp [aG,hop] at he
 | true=>
  simp only [aG,hop] at he
  split at he
  ·rename_i t1 c r hx0 hr
   have hx:=bC h x
   rw [hx0] at hx
   split at he
   ·cases he
   ·rename_i hti
    split at he
    ·rename_i et
     subst et
     simp only [Xs] at he
     subst he
     obtain ⟨d,hd1,hd2⟩:=aS hT hr rfl
     have hn:∀ms,d≠.interface ms:=by
      intro ms e
      subst e
      generalize r.ti=ti at hti hd2
      cases ti <;> first | exact hti rfl | cases hd2
     generalize hxv:a.eval x=xv at hx
     cases hx with
     | iface _ _ v hv=>
      refine ⟨rfl,.tuple #[v,.bool true],?_,?_⟩
      ·simp only [execOp,hop,hxv,Instr.typeAssert,Sem.run_bind,aV hd1,Result.andThen_ok]
       cases d <;> first | exact absurd rfl (hn _) | simp
      ·exact .tup [c,.bool true] [v,.bool true] rfl (VL.cons hv (VL.cons (.bool true) .nil)).2
    ·cases he
  ·simp at he
theorem CW {k:IntKind} {m n:Int} {w:World}:(Builtin.min2 (.int k m) (.int k n)).run P w=.ok (.int k (min m n)) w:=by
 simp only [Builtin.min2,Sem.run_pure]
 congr 2
 split <;> omega
theorem CX {k:IntKind} {m n:Int} {w:World}:(Builtin.max2 (.int k m) (.int k n)).run P w=.ok (.int k (max m n)) w:=by
 simp only [Builtin.max2,Sem.run_pure]
 congr 2
 split <;> omega
theorem Gv {args:Array Operand} {ts:Array Nat} (hop:o.op=.call {callee:=.builtin .max,args:=args,argTypes:=ts}):cG P C o:=by
 refine cG.pure fun F s a Ω eff h he ho=>?_
 simp only [aG,hop] at he
 split at he
 ·rename_i x y hargs
  have ha:args=#[x,y]:=by apply Array.ext';simpa using hargs
  subst ha
  have hx:=bC h x
  have hy:=bC h y
  split at he
  ·rename_i k m k' n hm hn
   rw [hm] at hx
   rw [hn] at hy
   split at he
   ·rename_i hk
    subst hk
    simp only [Xs] at he
    subst he
    obtain ⟨hx1,hx2,hx3⟩:=hx.int_inv
    obtain ⟨hy1,hy2,hy3⟩:=hy.int_inv
    refine ⟨rfl,.int k (max m n),?_,.int k _ (by omega) (by omega)⟩
    simp [execOp,hop,resolve,invoke,builtin,hx1,hy1,Builtin.max_,CX]
   ·cases he
  ·cases he
 ·cases he
theorem Gw {args:Array Operand} {ts:Array Nat} (hop:o.op=.call {callee:=.builtin .min,args:=args,argTypes:=ts}):cG P C o:=by
 refine cG.pure fun F s a Ω eff h he ho=>?_
 simp only [aG,hop] at he
 split at he
 ·rename_i x y hargs
  have ha:args=#[x,y]:=by apply Array.ext';simpa using hargs
  subst ha
  have hx:=bC h x
  have hy:=bC h y
  split at he
  ·rename_i k m k' n hm hn
   rw [hm] at hx
   rw [hn] at hy
   split at he
   ·rename_i hk
    subst hk
    simp only [Xs] at he
    subst he
    obtain ⟨hx1,hx2,hx3⟩:=hx.int_inv
    obtain ⟨hy1,hy2,hy3⟩:=hy.int_inv
    refine ⟨rfl,.int k (min m n),?_,.int k _ (by omega) (by omega)⟩
    simp [execOp,hop,resolve,invoke,builtin,hx1,hy1,Builtin.min_,CW]
   ·cases he
  ·cases he
 ·cases he
theorem tB {t:Nat} {w:World}:(Instr.makeMap t none).run P w=.ok (.map (some w.heap.size)) (w.alloc (.map #[] 0)):=rfl
theorem tC {t k e:Nat} (hu:P.underlying t=some (.map k e)) {i:IntKind} {n:Int} {w:World}:(Instr.makeMap t (some (.int i n))).run P w=.ok (.map (some w.heap.size)) (w.alloc (.map #[] 0)):=by
 unfold Instr.makeMap
 simp only [Sem.run_bind,aV hu,Result.andThen_ok]
 rfl
theorem xA (hT:bH P C.tbl) {t:Nat} {hint:Option Operand} (hop:o.op=.makeMap t hint):cG P C o:=by
 intro F s a Ω eff next Q h hd he ho hn
 simp only [aG,hop] at he
 split at he
 ·rename_i d k e sz by' z ty hdst hr
  split at he
  ·rename_i _ _ _ _ κ _ _ _ _ τ hrk hre hB
   obtain ⟨dd,hd1,hd2⟩:=aS hT hr rfl
   cases dd <;> simp [aZ] at hd2
   have hh:Holds F ⟨cE s.T o.dst (.map d),updB s.B [(d,.map κ τ [])]⟩ (a.put o.dst (.map (some Ω.w.heap.size)))
     ⟨fun i=>if d=i then some (.obj Ω.w.heap.size) else Ω.e i,Ω.w.alloc (.map #[] 0),fun b o=>Ω.pub b o∨(b=Ω.w.heap.size/\False)⟩:=by
    refine h.alloc (p:=fun _=>False) (Or.inl (h.dom d hB)) (fun b o hb=>hb) (fun hx=>?_) (fun _ hf=>hf.elim) (fun hx=>?_) hd
    ·refine ⟨Ω.w.heap.size,by simp,fun _=>Or.inl h.frame.size,#[],0,cJ _ _,⟨rfl,fun i e x he=>by simp at he,by simp,fun i e he=>by simp at he,fun i j e f he=>by simp at he⟩⟩
    ·exact .map d _ (by simp)
   split at he
   ·simp only [Xs] at he
    subst he
    rename_i hh'
    have hnone:hint=none:=by cases hint with | none=>rfl | some y=>simp at hh'
    subst hnone
    exact aH (v:=.map (some Ω.w.heap.size)) (w':=Ω.w.alloc (.map #[] 0)) (by simp [execOp,hop,tB]) (hn _ _ hh)
   ·simp only [Xs] at he
    subst he
    rename_i kk nn hh'
    cases hint with
    | none=>cases hh'
    | some y=>
     simp only [Option.map_some,Xs] at hh'
     have hy:=bC h y
     rw [hh'] at hy
     exact aH (v:=.map (some Ω.w.heap.size)) (w':=Ω.w.alloc (.map #[] 0)) (by simp [execOp,hop,hy.int_inv.1,tC hd1]) (hn _ _ hh)
   ·cases he
  ·cases he
 ·cases he
theorem pW (hT:bH P C.tbl) {t:Nat} {x k v:Operand} (hop:o.op=.mapUpdate t x k v∨o.op=.insert t x k v) {F:Fr} {s:AS} {a:Act} {Ω:Om} {eff:Eff} {next:Act→World→Prop} {Q:Exit→Act→World→Prop}
  (h:Holds F s a Ω) (hd:∀d,o.dst=some d→d < F.n) (he:aG C o s.T s.B=some eff)
  (hn:∀a' Ω',Holds F (s.put o.dst eff) a' Ω'→a'=a.put o.dst undef→(∀id,opd s.T x=.map id→∀r,Ω.e id=some (.obj r)→∀b,b≠r→Ω'.w.heap[b]?=Ω.w.heap[b]?)→(∀i,Ω'.e i=Ω.e i)→(∀b o,Ω'.pub b o↔Ω.pub b o)→next a' Ω'.w):o.wp P a Ω.w next Q:=by
 have he:jA C t (opd s.T x) (opd s.T k) (opd s.T v) s.B=some eff:=by
  rcases hop with hop | hop <;> simpa only [aG,hop] using he
 have hex:∀w,(execOp a.eval o).run P w=((Instr.mapUpdate t (a.eval x) (a.eval k) (a.eval v)).run P w).andThen fun _ w'=>.ok .skip w':=by
  intro w
  rcases hop with hop | hop <;> simp [execOp,hop]
 unfold jA at he
 have hx:=bC h x
 have hk:=bC h k
 have hv:=bC h v
 split at he
 ·rename_i kt e sz by' z0 ty id hr hxe
  rw [hxe] at hx
  split at he
  ·rename_i rk κ τ m hrk hm
   split at he
   ·rename_i u hu
    split at he
    ·rename_i m' hm'
     split at he
     ·rename_i hko
      simp only [Xs] at he
      subst he
      obtain ⟨d,hd1,hd2⟩:=aS hT hr rfl
      cases d <;> simp [aZ] at hd2
      obtain ⟨rfl,rfl⟩:=hd2
      obtain ⟨dk,hk1,hk2⟩:=aS hT hrk rfl
      have hvu:=Gd hv hu
      generalize hxv:a.eval x=xv at hx
      cases hx with
      | map _ r her=>
       obtain ⟨r',e1,e2,es,clock,e3,e4⟩:=h.slots _ _ hm
       rw [her] at e1
       simp only [Xs,CObj.obj.injEq] at e1
       subst e1
       obtain ⟨g,hg⟩:∃g,nC κ τ m (opd s.T k)=some g:=by
        rcases gz hko with ⟨_,rfl⟩ | ⟨i,_,rfl⟩
        ·cases hkk:opd s.T k <;> rw [hkk] at hm' <;> simp [kj] at hm'
         exact ⟨_,rfl⟩
        ·cases hkk:opd s.T k <;> rw [hkk] at hm' <;> simp [kj] at hm'
         exact ⟨_,by simp [nC,hm'.1];rfl⟩
       obtain ⟨k0,hk0,hf⟩:=e4.find hko hk2 hg
       have hkV:=hk
       rw [hk0] at hkV
       have hkv:=pV hko hkV
       have hck:=fun em=>MapKept.run_checkKey (P:=P) (w:=Ω.w) hk1 (ix hko hk2 k0) em 9999
       have hgo:=MapKept.run_getObj_map (P:=P) e3
       have fin:∀(es':Array MapEntry) (clock':Nat),MapOK Ω κ τ m' es' clock'→(Instr.mapUpdate t (a.eval x) (a.eval k) (a.eval v)).run P Ω.w=.ok () {Ω.w with heap:=Ω.w.heap.setIfInBounds r (.map es' clock')}→
         o.wp P a Ω.w next Q:=by
        intro es' clock' hmo hrun
        have hheap:=MapKept.heap_set (o':=.map es' clock') e3
        have hpne:∀b o,Ω.pub b o→b≠r:=by
         intro b o hp e
         subst e
         obtain ⟨v,hv⟩:=h.pubok b o hp
         simp [World.cell?,e3] at hv
        have hxx:Ext Ω ⟨fun i=>if id=i then some (.obj r) else Ω.e i,{Ω.w with heap:=Ω.w.heap.setIfInBounds r (.map es' clock')},Ω.pub⟩:=by
         refine ⟨fun i c hc=>?_,fun _ _ p=>p,fun b o hp=>ay (hheap.2 b (hpne b o hp)) o⟩
         by_cases hid:id=i
         ·subst hid;rw [her] at hc;simp at hc;subst hc;exact ⟨.obj r,by simp,CLe.refl _⟩
         ·exact ⟨c,by simp [hid,hc],CLe.refl _⟩
        have hsz:(Ω.w.heap.setIfInBounds r (.map es' clock')).size=Ω.w.heap.size:=by simp
        have hh:=h.slot (k:=id) (c:=.obj r) (obj:=.map κ τ m') (dst:=o.dst) (val:=.undef) (v:=undef) hxx
         ⟨r,by simp,e2,es',clock',hheap.1,hmo.ext hxx⟩
         (fun i c' hi hc=>mL.of_blocks fun b o hb=>⟨hheap.2 b (fun e=>by
          subst e
          exact hi (h.inj i id _ _ b o hc her hb rfl)),fun _ p=>p⟩)
         (fun i c' b o hi hc hb hb'=>absurd (h.inj i id _ _ b o hc her hb hb') hi)
         (fun b o hp=>by
          obtain ⟨v,hv⟩:=h.pubok b o hp
          exact ⟨v,by rw [ay (hheap.2 b (hpne b o hp)) o,hv]⟩)
         (by
          have hold:∀b,b < F.w0.heap.size→(¬∀o,F.br b o)→b≠r:=by
           intro b hb hnb e
           subst e
           refine hnb (fun o=>?_)
           rcases e2 o with k | k
           ·omega
           ·exact k
          exact ⟨h.frame.os,h.frame.tape,h.frame.output,by simpa using h.frame.size,
           fun b hb hnb=>(hheap.2 b (hold b hb (fun k=>hnb 0 (k 0)))).trans (h.frame.block b hb hnb),
           fun b o hb hnb=>(ay (hheap.2 b (hold b hb (fun k=>hnb (k o)))) o).trans (h.frame.cell b o hb hnb),
           fun b hb hnb=>⟨(bA (hheap.2 b (hold b hb hnb))).trans (h.frame.kind b hb hnb).1,fun o=>(ba (hheap.2 b (hold b hb hnb)) o).trans ((h.frame.kind b hb hnb).2 o)⟩,
           h.frame.pub,h.frame.old,fun b o hp=>(hxx.cell b o (h.frame.old b o hp)).trans (h.frame.pcell b o hp)⟩)
         (.undef undef) hd
        exact ko (w':={Ω.w with heap:=Ω.w.heap.setIfInBounds r (.map es' clock')}) (by rw [hex,hrun];rfl) (hn _ _ hh rfl (fun id' hid' r' hr' b hb=>by
         rw [hxe] at hid'
         cases hid'
         rw [her] at hr'
         cases hr'
         exact hheap.2 b hb) (fun i=>by
         show (if id=i then some (CObj.obj r) else Ω.e i)=Ω.e i
         by_cases hid:id=i
         ·subst hid;simp [her]
         ·simp [hid]) (fun b o=>Iff.rfl))
       rcases hf with ⟨h1,h2,h3,h4⟩ | ⟨j,en,v0,h1,h2,h3,h4,h5,h6⟩
       ·have hfk:=MapKept.run_findKey (P:=P) (w:=Ω.w) hk1 h1
        have hmm:m'=m++[(k0,u)]:=by
         have:=h4 u
         rw [hm'] at this
         exact Option.some.inj this
        subst hmm
        refine fin (es.push {key:=m9 κ k0,val:=a.eval v,born:=clock}) (clock+1) ⟨by simp [e4.size],fun i en x hen hx=>?_,?_,fun i en hen=>?_,fun i j en en' hen hen' hij=>?_⟩ ?_
        ·rw [Array.getElem?_push] at hen
         split at hen
         ·rename_i hi
          simp at hen
          subst hen
          rw [List.getElem?_append_right (by rw [←e4.size];omega),hi,e4.size] at hx
          simp at hx
          subst hx
          rw [←hkv]
          exact ⟨hkV,hvu⟩
         ·have hi:i < es.size:=by
           rcases Nat.lt_or_ge i es.size with k | k
           ·exact k
           ·rw [Array.getElem?_eq_none k] at hen;cases hen
          rw [List.getElem?_append_left (by rw [←e4.size];exact hi)] at hx
          exact e4.ent i en x hen hx
        ·rw [List.map_append]
         refine List.nodup_append.2 ⟨e4.keys,by simp,fun y hy z hz=>?_⟩
         obtain ⟨x,hx,rfl⟩:=List.mem_map.1 hy
         simp at hz
         subst hz
         exact h3 x hx
        ·rw [Array.getElem?_push] at hen
         split at hen
         ·simp at hen;subst hen;simp
         ·have:=e4.born i en hen;omega
        ·rw [Array.getElem?_push] at hen hen'
         split at hen'
         ·rename_i hj
          simp at hen'
          subst hen'
          split at hen
          ·omega
          ·exact e4.born i en hen
         ·split at hen
          ·rename_i hi
           have:j < es.size:=by
            rcases Nat.lt_or_ge j es.size with k | k
            ·exact k
            ·rw [Array.getElem?_eq_none k] at hen';cases hen'
           omega
          ·exact e4.rise i j en en' hen hen' hij
        ·rw [hxv,hkv]
         simp [Instr.mapUpdate,aV hd1,hgo,hck,hfk,MapKept.run_setObj_map _ e3]
       ·have hfk:=MapKept.run_findKey (P:=P) (w:=Ω.w) hk1 h1
        have hmm:m'=m.set j (k0,u):=by
         have:=h6 u
         rw [hm'] at this
         exact Option.some.inj this
        subst hmm
        have hjl:j < es.size:=by
         rcases Nat.lt_or_ge j es.size with k | k
         ·exact k
         ·rw [Array.getElem?_eq_none k] at h2;cases h2
        have hkk:((m.set j (k0,u)).map (·.1))=m.map (·.1):=by
         rw [List.map_set]
         apply List.ext_getElem?
         intro i
         rw [List.getElem?_set]
         by_cases hij:j=i
         ·subst hij
          simp only [List.length_map,List.getElem?_map,h3,Option.map_some,if_true]
          rw [if_pos (by rw [←e4.size];exact hjl)]
         ·simp [hij]
        refine fin (es.modify j fun e=>{e with key:=m9 κ k0,val:=a.eval v}) clock ⟨by simp [e4.size],fun i en' x hen hx=>?_,by rw [hkk];exact e4.keys,fun i en' hen=>?_,fun i i' en1 en2 hen hen' hij=>?_⟩ ?_
        ·rw [Array.getElem?_modify] at hen
         rw [List.getElem?_set] at hx
         by_cases hij:j=i
         ·subst hij
          simp [h2] at hen
          simp [←e4.size,hjl] at hx
          subst hen hx
          rw [←hkv]
          exact ⟨hkV,hvu⟩
         ·simp [hij] at hen hx
          exact e4.ent i en' x hen hx
        ·rw [Array.getElem?_modify] at hen
         by_cases hij:j=i
         ·subst hij
          simp [h2] at hen
          subst hen
          exact e4.born j en h2
         ·simp [hij] at hen
          exact e4.born i en' hen
        ·have hb:∀(i:Nat) (e1:MapEntry),(es.modify j fun e=>{e with key:=m9 κ k0,val:=a.eval v})[i]?=some e1→∃e2,es[i]?=some e2/\e2.born=e1.born:=by
          intro i e1 h1
          rw [Array.getElem?_modify] at h1
          by_cases hij:j=i
          ·subst hij
           simp [h2] at h1
           subst h1
           exact ⟨en,h2,rfl⟩
          ·simp [hij] at h1
           exact ⟨e1,h1,rfl⟩
         obtain ⟨f1,g1,g2⟩:=hb i en1 hen
         obtain ⟨f2,g3,g4⟩:=hb i' en2 hen'
         rw [←g2,←g4]
         exact e4.rise i i' f1 f2 g1 g3 hij
        ·rw [hxv,hkv]
         simp [Instr.mapUpdate,aV hd1,hgo,hck,hfk,h2,h5,MapKept.run_keyThatStays (ix hko hk2 k0),MapKept.run_setObj_map _ e3]
     ·cases he
    ·cases he
   ·cases he
  ·cases he
 ·cases he
theorem s9 (hT:bH P C.tbl) {t:Nat} {x k v:Operand} (hop:o.op=.mapUpdate t x k v∨o.op=.insert t x k v):cG P C o:=
 fun _ _ _ _ _ _ _ h hd he _ hn=>pW hT hop h hd he fun a' Ω' hh _ _ _ _=>hn a' Ω' hh
theorem v7 (τ:Ty):∀(xs:List (den τ)) (q:Nat) (c:AV),(bg τ xs)[q]?=some c→∃i x j,xs[i]?=some x/\(cells τ x)[j]?=some c/\q=i *ac τ+j/\j < ac τ
 | [],q,c,h=>by simp [bg] at h
 | x ::xs,q,c,h=>by
  simp only [bg,List.flatMap_cons] at h
  by_cases hq:q < (cells τ x).length
  ·rw [List.getElem?_append_left hq] at h
   exact ⟨0,x,q,rfl,h,by simp,by rw [←bn τ x];exact hq⟩
  ·rw [List.getElem?_append_right (by omega)] at h
   obtain ⟨i,y,j,h1,h2,h3,h4⟩:=v7 τ xs _ c h
   rw [bn] at h3 hq
   exact ⟨i+1,y,j,by simpa using h1,h2,by rw [Nat.add_mul];omega,h4⟩
theorem AB {k:IntKind} {n:Int} {w:World}:(Go.asInt (.int k n)).run P w=.ok n w:=by simp [Go.asInt,asIntOf]
theorem lK {t e:Nat} {i:TypeInfo} {z:Value} {a b:Int} {w:World} (hu:P.underlying t=some (.slice e)) (hi:P.info? e=some i) (hz:i.zero=some z)
  (h0:0<=a) (h1:a<=b) (h2:b *i.bytes<=140737488355328) (hb:0 < i.bytes) :
  ∃cs:Array Value,(Instr.makeSlice t (.int .i64 a) (.int .i64 b)).run P w=.ok (.slice (some ⟨w.heap.size,0,none⟩) a.toNat b.toNat) (w.alloc (.cells cs e))/\
   cs.size=b.toNat *i.size/\∀q,q < cs.size→cs[q]?=some (z.cells[q % z.cells.size]!):=by
 have hbb:b<=140737488355328:=by
  have:b *1<=b *i.bytes:=Int.mul_le_mul_of_nonneg_left (by omega) (by omega)
  omega
 have w1:IntKind.i64.wrap a=a:=iO _ _ (by simp [IntKind.min,IntKind.signed,IntKind.bits];omega) (by simp [IntKind.max,IntKind.signed,IntKind.bits];omega)
 have w2:IntKind.i64.wrap b=b:=iO _ _ (by simp [IntKind.min,IntKind.signed,IntKind.bits];omega) (by simp [IntKind.max,IntKind.signed,IntKind.bits];omega)
 have hmul:(i.bytes:Int) *b=b *i.bytes:=Int.mul_comm _ _
 have c1:¬(2 ^ 48 < (i.bytes:Int) *b):=by rw [hmul];omega
 have c2:¬(b < 0):=by omega
 have c3:¬(a < 0):=by omega
 have c4:¬(b < a):=by omega
 have hask:(askRoom (b.toNat *i.bytes)).run P w=.ok () w:=by
  have:¬(140737488355328 < b.toNat *i.bytes):=by
   have e:((b.toNat *i.bytes:Nat):Int)=b *i.bytes:=by
    rw [Int.natCast_mul,Int.toNat_of_nonneg (by omega)]
   omega
  simp [askRoom,roomBytes,this]
 refine ⟨(Array.range (b.toNat *i.size)).map fun q=>(if b.toNat *i.size=0 then #[] else z.cells)[q % (if b.toNat *i.size=0 then #[] else z.cells).size]!,?_,by simp,fun q hq=>?_⟩
 ·simp only [Instr.makeSlice,Sem.run_bind,aV hu,Result.andThen_ok,AB,pM hi,w1,w2]
  simp only [gt_iff_lt,c1,c2,c3,c4,decide_false,Bool.or_false,Bool.or_self,Bool.false_eq_true,if_false,hask,Result.andThen_ok,Sem.run_bind,Sem.run_pure,dW hi]
  by_cases hn:b.toNat *i.size=0
  ·simp only [hn,if_true,Sem.run_pure,Result.andThen_ok,newRow,Sem.run_bind]
   rfl
  ·simp only [hn,if_false,Sem.run_bind,iu hi hz,Sem.run_pure,Result.andThen_ok,newRow]
   rfl
 ·have hq':q < b.toNat *i.size:=by simpa using hq
  have hn:¬b.toNat *i.size=0:=by omega
  simp [hq',hn]
theorem tD (hT:bH P C.tbl) {t:Nat} {x y:Operand} (hop:o.op=.makeSlice t x y):cG P C o:=by
 intro F s a Ω eff next Q h hd he ho hn
 simp only [aG,hop] at he
 split at he
 ·rename_i d e sz by' z0 ty m n hdst hr hxe hye
  have hx:=bC h x
  have hy:=bC h y
  rw [hxe] at hx
  rw [hye] at hy
  obtain ⟨hx1,_⟩:=hx.int_inv
  obtain ⟨hy1,_⟩:=hy.int_inv
  split at he
  ·rename_i ti size bytes zero τ hre hB
   split at he
   ·rename_i z hz
    obtain ⟨dd,hd1,hd2⟩:=aS hT hr rfl
    cases dd <;> simp [aZ] at hd2
    subst hd2
    obtain ⟨i,zv,i1,i4,zV,zvl⟩:=CV hT hre rfl hz Ω
    obtain ⟨i',zv',j1,j2,j3,j4,_⟩:=(hT _ _ hre).info
    rw [i1] at j1
    simp at j1
    subst j1
    have hw:ac τ=size:=((hT _ _ hre).ty τ rfl).1
    have hpos:=(hT _ _ hre).pos rfl
    have hbpos:0 < i.bytes:=by rw [j3];exact (hT _ _ hre).bps rfl
    have hsz:i.size=ac τ:=by rw [j2,hw]
    have hzs:zv.cells.size=ac τ:=by
     have:=zvl.1
     rw [bn] at this
     simpa using this.symm
    have hmax:0<=n→n *bytes<=140737488355328→n.toNat<=ck:=by
     intro h0 h1
     have:n *1<=n *bytes:=Int.mul_le_mul_of_nonneg_left (by have:=(hT _ _ hre).bps rfl;simp at this;omega) h0
     unfold ck
     omega
    split at he
    ·rename_i kk
     simp only [Xs] at he
     subst he
     obtain ⟨h0,h1⟩:=ho
     have hm0:m=0:=by
      have:opd s.T (.const (.int kk (.ofNat 0)))=.int .i64 m:=hxe
      simp only [opd,mG,ct] at this
      split at this
      ·simp at this;exact this.2.symm
      ·cases this
     subst hm0
     obtain ⟨cs,r1,r2,r3⟩:=lK (P:=P) (w:=Ω.w) hd1 i1 i4 (Int.le_refl 0) h0 (by rw [j3];exact h1) hbpos
     have hh:Holds F ⟨cE s.T o.dst (.lst τ [] (some d)),updB s.B [(d,.tail τ 0)]⟩ (a.put o.dst (.slice (some ⟨Ω.w.heap.size,0,none⟩) 0 n.toNat))
       ⟨fun i=>if d=i then some (.tail 0 (some Ω.w.heap.size) n.toNat) else Ω.e i,Ω.w.alloc (.cells cs e),fun b o=>Ω.pub b o∨(b=Ω.w.heap.size/\False)⟩:=by
      refine h.alloc (p:=fun _=>False) (Or.inl (h.dom d hB)) (fun b o hb=>by simp [occ] at hb;exact hb.symm) (fun hx=>?_) (fun _ hf=>hf.elim) (fun hx=>?_) hd
      ·refine ⟨some Ω.w.heap.size,n.toNat,by simp,Nat.zero_le _,hmax h0 h1,by simp,fun b hb=>?_⟩
       simp at hb
       subst hb
       refine ⟨fun _=>Or.inl h.frame.size,cs,e,(0,0),cJ _ _,Nat.zero_le _,by rw [r2,hsz];exact Nat.le_refl _,fun o _ hp=>?_⟩
       rcases hp with hp | ⟨_,hp⟩
       ·have:=h.cell_lt hp;omega
       ·exact hp
      ·refine .lst τ [] (some d) _ 0 n.toNat (fun _ _=>undef) (Nat.zero_le _) (hmax h0 h1) ?_ (fun i x hx=>by simp at hx) (fun i x hx=>by simp at hx)
       intro id hid
       simp at hid
       subst hid
       exact ⟨0,some Ω.w.heap.size,n.toNat,by simp,Nat.le_refl _,fun _=>rfl⟩
     exact aH (by simp only [execOp,hop,hx1,hy1,Sem.run_bind,r1,Result.andThen_ok,Sem.run_pure];rfl) (hn _ _ hh)
    ·simp only [Xs] at he
     subst he
     obtain ⟨h0,h1,h2⟩:=ho
     obtain ⟨cs,r1,r2,r3⟩:=lK (P:=P) (w:=Ω.w) hd1 i1 i4 h0 h1 (by rw [j3];exact h2) hbpos
     have hmn:m.toNat<=n.toNat:=by omega
     have hmulle:m.toNat *ac τ<=n.toNat *ac τ:=Nat.mul_le_mul_right _ hmn
     have hh:Holds F ⟨cE s.T o.dst (.arr d m.toNat size),updB s.B [(d,.box (.row τ (List.replicate m.toNat z)))]⟩ (a.put o.dst (.slice (some ⟨Ω.w.heap.size,0,none⟩) m.toNat n.toNat))
       ⟨fun i=>if d=i then some (.box Ω.w.heap.size 0 (m.toNat *ac τ)) else Ω.e i,Ω.w.alloc (.cells cs e),fun b o=>Ω.pub b o∨(b=Ω.w.heap.size/\False)⟩:=by
      refine h.alloc (p:=fun _=>False) (Or.inl (h.dom d hB)) (fun b o hb=>hb.1) (fun hx=>?_) (fun _ hf=>hf.elim) (fun hx=>?_) hd
      ·refine ⟨Ω.w.heap.size,0,by simp [aa,bO],fun q c hc=>?_⟩
       obtain ⟨i2,x2,j,q1,q2,q3,q4⟩:=v7 τ _ q c hc
       have hxz:x2=z:=by
        have:=List.mem_of_getElem? q1
        exact (List.mem_replicate.1 this).2
       subst hxz
       have hi2:i2 < m.toNat:=by
        rcases Nat.lt_or_ge i2 m.toNat with k | k
        ·exact k
        ·rw [List.getElem?_eq_none (by simpa using k)] at q1;cases q1
       have hqlt:q < cs.size:=by
        have:(i2+1) *ac τ<=m.toNat *ac τ:=Nat.mul_le_mul_right _ hi2
        rw [Nat.add_mul] at this
        rw [r2,hsz,q3]
        omega
       have hmod:q % ac τ=j:=by rw [q3,Nat.mul_comm,Nat.mul_add_mod,Nat.mod_eq_of_lt q4]
       have hcells:(Ω.w.alloc (.cells cs e)).heap[Ω.w.heap.size]?=some (.cells cs e (0,0)):=cJ _ _
       refine ⟨Or.inl h.frame.size,fun hp=>?_,eZ hcells _,zv.cells[j]!,?_,?_⟩
       ·rcases hp with hp | ⟨_,hp⟩
        ·have:=h.cell_lt hp;omega
        ·exact hp
       ·rw [aM hcells,Nat.zero_add,r3 q hqlt,hzs,hmod]
       ·have hj:j < zv.cells.toList.length:=by simp [hzs,q4]
        refine V.ext hx (zvl.2 j c _ q2 ?_)
        rw [List.getElem?_eq_getElem hj]
        simp [hzs,q4]
      ·refine .arr d m.toNat size Ω.w.heap.size (m.toNat *ac τ) n.toNat _ (by simp) (Nat.le_of_eq (congrArg (m.toNat * ·) hw.symm)) hmn (hmax (by omega) h2) (.inl rfl)
     exact aH (by simp only [execOp,hop,hx1,hy1,Sem.run_bind,r1,Result.andThen_ok,Sem.run_pure]) (hn _ _ hh)
   ·cases he
  ·cases he
 ·cases he
theorem jf {w:World}:∀(xs:List Int) (b:List UInt8),xs.foldl (fun (r:ByteArray) n=>r.push (UInt8.ofNat n.toNat)) ⟨b.toArray⟩=⟨(b++jy xs).toArray⟩
 | [],b=>by simp [jy]
 | n ::r,b=>by
  rw [List.foldl_cons]
  have e:(⟨b.toArray⟩:ByteArray).push (UInt8.ofNat n.toNat)=⟨(b++[UInt8.ofNat n.toNat]).toArray⟩:=by simp [ByteArray.push]
  rw [e,jf (w:=w) r]
  simp [jy]
theorem Holds.row {F:Fr} {s:AS} {a:Act} {Ω:Om} {w':World} {p:Nat→Prop} {dst:Option Nat} {val:AV} {v:Value}
  (h:Holds F s a Ω) (os:w'.os=Ω.w.os) (tape:w'.tape=Ω.w.tape) (output:w'.output=Ω.w.output) (size:Ω.w.heap.size<=w'.heap.size) (old:∀b,b < Ω.w.heap.size→w'.heap[b]?=Ω.w.heap[b]?)
  (hcell:∀o,p o→∃v,w'.cell? ⟨Ω.w.heap.size,o,none⟩=some v)
  (hv:Ext Ω ⟨Ω.e,w',fun b o=>Ω.pub b o∨(b=Ω.w.heap.size/\p o)⟩→V ⟨Ω.e,w',fun b o=>Ω.pub b o∨(b=Ω.w.heap.size/\p o)⟩ val v) (hd:∀d,dst=some d→d < F.n) :
  Holds F ⟨cE s.T dst val,s.B⟩ (a.put dst v) ⟨Ω.e,w',fun b o=>Ω.pub b o∨(b=Ω.w.heap.size/\p o)⟩:=by
 have hx:Ext Ω ⟨Ω.e,w',fun b o=>Ω.pub b o∨(b=Ω.w.heap.size/\p o)⟩:=⟨fun _ c hc=>⟨c,hc,CLe.refl c⟩,fun _ _ p=>.inl p,fun b o hp=>ay (old b (h.cell_lt hp)) o⟩
 refine h.step hx (hv hx) hd (fun id o ho=>(h.slots id o ho).keep hx rfl (fun c hc=>mL.of_blocks fun b o hb=>?_)) h.dom h.inj (fun b o hp=>?_) ?_
 ·have hlt:=h.blk hc hb
  exact ⟨old b hlt,fun o ho=>ho.resolve_right (fun e=>by omega)⟩
 ·rcases hp with hp | ⟨rfl,hp⟩
  ·obtain ⟨v,hv⟩:=h.pubok b o hp
   exact ⟨v,by rw [ay (old b (h.cell_lt hp)),hv]⟩
  ·exact hcell o hp
 ·have hsz:=h.frame.size
  refine ⟨os.trans h.frame.os,tape.trans h.frame.tape,output.trans h.frame.output,Nat.le_trans hsz size,fun b hb hnb=>(old b (by omega)).trans (h.frame.block b hb hnb),fun b o hb hnb=>(ay (old b (by omega)) o).trans (h.frame.cell b o hb hnb),fun b hb=>?_,fun b o hp=>?_,fun b o hp=>Or.inl (h.frame.old b o hp),fun b o hp=>(hx.cell b o (h.frame.old b o hp)).trans (h.frame.pcell b o hp)⟩
  ·intro hnb
   obtain ⟨k1,k2⟩:=h.frame.kind b hb hnb
   exact ⟨(bA (old b (by omega))).trans k1,fun o=>(ba (old b (by omega)) o).trans (k2 o)⟩
  ·rcases hp with hp | ⟨rfl,hp⟩
   ·exact h.frame.pub b o hp
   ·exact Or.inr (Or.inl h.frame.size)
theorem xB (hT:bH P C.tbl) {t t':Nat} {x:Operand} (hop:o.op=.convert t t' x):cG P C o:=by
 intro F s a Ω eff next Q h hd he ho hn
 simp only [aG,hop] at he
 have hx:=bC h x
 split at he
 ·rename_i r k sz by' z ty k' n h1 h2 hn'
  rw [hn'] at hx
  simp only [Xs] at he
  subst he
  obtain ⟨d,hd1,hd2⟩:=aS hT h2 rfl
  cases d <;> simp [aZ] at hd2
  subst hd2
  obtain ⟨d',hd3,hd4⟩:=(hT _ _ h1).desc
  obtain ⟨h3,h4⟩:=ho
  refine aH (v:=.int k n) ?_ (hn _ _ (h.pure (.int k _ h3 h4) hd))
  simp [execOp,hop,hx.int_inv.1,convert,aV hd1,aV hd3,Conv.intToInt,iO k _ h3 h4]
 ·rename_i r sz by' z ty s' h1 h2 hn'
  rw [hn'] at hx
  simp only [Xs] at he
  subst he
  obtain ⟨d,hd1,hd2⟩:=aS hT h2 rfl
  cases d <;> simp [aZ] at hd2
  obtain ⟨d',hd3,hd4⟩:=(hT _ _ h1).desc
  refine aH ?_ (hn _ _ (h.pure hx hd))
  simp [execOp,hop,hx.str_inv.1,convert,aV hd1,aV hd3]
 ·unfold G9 at he
  split at he
  ·rename_i e sz1 by1 z1 ty1 sz2 by2 z2 ty2 xs o' h1 h2 hn'
   rw [hn'] at hx
   split at he
   ·rename_i sz3 by3 z3 h3
    simp only [Xs] at he
    subst he
    obtain ⟨d,hd1,hd2⟩:=aS hT h1 rfl
    cases d <;> simp [aZ] at hd2
    subst hd2
    obtain ⟨d',hd3,hd4⟩:=aS hT h2 rfl
    cases d' <;> simp [aZ] at hd4
    obtain ⟨d2,hd5,hd6⟩:=aS hT h3 rfl
    cases d2 <;> simp [aZ] at hd6
    subst hd6
    have hlen:xs.length<=ck:=by
     rcases hx.lst_inv with ⟨h1,hv,_⟩ | ⟨h1,_,a0,hv⟩ | ⟨b,off,cap,vals,hv,h1,h2,h3,h4,h5⟩
     ·rw [h1];exact Nat.zero_le _
     ·rw [h1];exact Nat.zero_le _
     ·omega
    have hval:V Ω (.str (jy xs)) (.string ⟨(jy xs).toArray⟩):=.str _ (by simpa [jy] using hlen)
    refine aH (v:=.string ⟨(jy xs).toArray⟩) ?_ (hn _ _ (h.pure hval hd))
    rcases hx.src with ⟨hxv,hx0⟩ | ⟨ya,yc,us,hxv,hxl,hxvl,hxc,hx1⟩
    ·simp only [execOp,hop,hxv,Sem.run_bind,run_convert_bytes_string Ω.w t t' e _ _ _ hd1 hd5 hd3]
     rw [hx0]
     simp [Conv.bytesToString,jy,Sem.run_pure]
     rfl
    ·have hus:us=xs.map (Value.int .u8):=by
      have e1:bg (.int .u8) xs=xs.map (AV.int .u8):=by
       unfold bg
       rw [List.map_eq_flatMap]
       rfl
      rw [e1] at hxvl
      obtain ⟨l1,l2⟩:=hxvl
      refine List.ext_getElem? fun j=>?_
      rcases Nat.lt_or_ge j xs.length with hj | hj
      ·have hj':j < us.length:=by rw [←l1];simpa using hj
       have:=l2 j (.int .u8 xs[j]) us[j] (by simp [hj]) (by simp [hj'])
       rw [List.getElem?_eq_getElem hj',this.int_inv.1]
       simp [hj]
      ·rw [List.getElem?_eq_none (by rw [←l1];simpa using hj),List.getElem?_eq_none (by simpa using hj)]
     have hld:(loadCells ya xs.length).run P Ω.w=.ok (xs.map (Value.int .u8)).toArray Ω.w:=by
      have:=run_loadCells_list (P:=P) Ω.w ya us hxc
      rw [hus] at this
      simpa using this
     have hr:=run_bytesToString (P:=P) Ω.w ya xs.length yc xs hld
     have e0:=jf (w:=Ω.w) xs []
     simp only [List.nil_append] at e0
     have e2:(ByteArray.empty:ByteArray)=⟨([]:List UInt8).toArray⟩:=rfl
     rw [e2,e0] at hr
     simp only [execOp,hop,hxv,Sem.run_bind,run_convert_bytes_string Ω.w t t' e _ _ _ hd1 hd5 hd3,hr,Result.andThen_ok,Sem.run_pure]
   ·cases he
  ·rename_i sz1 by1 z1 ty1 e sz2 by2 z2 ty2 s' h1 h2 hn'
   rw [hn'] at hx
   split at he
   ·rename_i sz3 by3 z3 h3
    simp only [Xs] at he
    subst he
    obtain ⟨d,hd1,hd2⟩:=aS hT h1 rfl
    cases d <;> simp [aZ] at hd2
    obtain ⟨d',hd3,hd4⟩:=aS hT h2 rfl
    cases d' <;> simp [aZ] at hd4
    subst hd4
    obtain ⟨d2,hd5,hd6⟩:=aS hT h3 rfl
    cases d2 <;> simp [aZ] at hd6
    subst hd6
    obtain ⟨hxv,hlen⟩:=hx.str_inv
    have hr:=Lib.run_convert_string_bytes (P:=P) Ω.w t t' e ⟨s'.toArray⟩ hd1 hd3 hd5
    have hcap:=gJ Ω.w (⟨s'.toArray⟩:ByteArray).size 0 e (by simpa [ByteArray.size] using hlen)
    have hsz:(⟨s'.toArray⟩:ByteArray).size=s'.length:=by simp [ByteArray.size]
    have hcellat:∀j,j < s'.length→(Lib.bytesWorld Ω.w e ⟨s'.toArray⟩).cell? ⟨Ω.w.heap.size,j,none⟩=some (.int .u8 (s'.getD j 0).toNat):=by
     intro j hj
     have:=Lib.bytesWorld_cell Ω.w e ⟨s'.toArray⟩ j (by rw [hsz];exact hj)
     simpa using this
    have hh:=h.row (w':=Lib.bytesWorld Ω.w e ⟨s'.toArray⟩) (p:=fun o=>o < s'.length) (dst:=o.dst) (val:=.lst (.int .u8) (aB s') none) (v:=.slice (some ⟨Ω.w.heap.size,0,none⟩) s'.length (grownCap Ω.w s'.length 0 e))
     rfl rfl rfl (by rw [Lib.bytesWorld_size];omega) (fun b hb=>Lib.bytesWorld_at_old Ω.w e _ b hb) (fun o ho=>⟨_,hcellat o ho⟩) (fun hx=>by
      have hb1:(aB s').length=s'.length:=by simp [aB]
      have:=ow (Ω:=⟨Ω.e,Lib.bytesWorld Ω.w e ⟨s'.toArray⟩,fun b o=>Ω.pub b o∨(b=Ω.w.heap.size/\o < s'.length)⟩) (τ:=.int .u8) (xs:=aB s') (o:=none) (cap:=grownCap Ω.w s'.length 0 e) (vs:=s'.map fun b=>Value.int .u8 b.toNat)
       (Lib.bytesWorld_at_new Ω.w e ⟨s'.toArray⟩)
       (by
        have e1:(aB s').length *ac (.int .u8)=s'.length:=by rw [hb1];exact Nat.mul_one _
        rw [e1]
        unfold Lib.bytesCells
        simp)
       (zJ _ s') (by rw [hb1];rw [hsz] at hcap;exact hcap.1) (by rw [hsz] at hcap;exact hcap.2) (fun i hi=>Or.inr ⟨rfl,by rw [hb1] at hi;simpa [ac] using hi⟩) (fun id hid=>by cases hid)
      rw [hb1] at this
      exact this) hd
    refine aH (v:=.slice (some ⟨Ω.w.heap.size,0,none⟩) s'.length (grownCap Ω.w s'.length 0 e)) (w':=Lib.bytesWorld Ω.w e ⟨s'.toArray⟩) ?_ (hn _ _ hh)
    rw [hsz] at hr
    simp only [execOp,hop,hxv,Sem.run_bind,hr,Result.andThen_ok,Sem.run_pure]
   ·cases he
  ·cases he
end
end Go.AL
end
section
namespace Go.AL
variable [Tabs]
section
variable {fp:Nat→Nat→Option (Nat × Nat)} {fi ft:Nat→Option Nat}
theorem jG:∀{cs ds:List AV},mapVs fp fi ft cs=some ds→cs.length=ds.length/\∀(j:Nat) (c d:AV),cs[j]?=some c→ds[j]?=some d→mapV fp fi ft c=some d
 | [],ds,h=>by simp [mapVs] at h;subst h;exact ⟨rfl,fun j c d hc=>by simp at hc⟩
 | a ::r,ds,h=>by
  simp only [mapVs] at h
  split at h
  ·rename_i a' r' ha hr
   simp at h
   subst h
   obtain ⟨h1,h2⟩:=jG hr
   refine ⟨by simp [h1],fun j c d hc hd=>?_⟩
   cases j with
   | zero=>simp at hc hd;subst hc hd;exact ha
   | succ j=>exact h2 j c d (by simpa using hc) (by simpa using hd)
  ·cases h
theorem jH (τ:Ty) (x:den τ):∀c∈cells τ x,mapV fp fi ft c=some c:=by
 cases τ with
 | st n=>cases n <;> simp [cells,dS,gX,fg,fS,fT,fU,du,fV,j6,gZ,hD,hU,j7,j8,io,hX,l4,fW,j9,l5,ja,jb,hZ,mapV]
 | _=>simp [cells,mapV]
theorem AC (τ:Ty) (xs:List (den τ)):∀c∈bg τ xs,mapV fp fi ft c=some c:=by
 intro c hc
 simp only [bg,List.mem_flatMap] at hc
 obtain ⟨x,_,hx⟩:=hc
 exact jH τ x c hx
theorem jI {c c':AV} (h:mapV fp fi ft c=some c'):(aa c).length=(aa c').length/\
  ∀(j:Nat) (a b:AV),(aa c)[j]?=some a→(aa c')[j]?=some b→mapV fp fi ft a=some b:=by
 have one:∀{a b:AV},aa a=[a]→aa b=[b]→mapV fp fi ft a=some b→(aa a).length=(aa b).length/\
   ∀(j:Nat) (x y:AV),(aa a)[j]?=some x→(aa b)[j]?=some y→mapV fp fi ft x=some y:=by
  intro a b ha hb h
  rw [ha,hb]
  refine ⟨rfl,fun j x y hx hy=>?_⟩
  cases j with
  | zero=>simp at hx hy;subst hx hy;exact h
  | succ j=>simp at hx
 cases c with
 | agg cs=>
  simp only [mapV] at h
  split at h
  ·rename_i ds hds
   simp at h
   subst h
   exact jG hds
  ·cases h
 | st n x=>
  simp only [mapV,Xs] at h
  subst h
  exact ⟨rfl,fun j a b ha hb=>by rw [ha] at hb;simp at hb;subst hb;exact jH (.st n) x a (List.mem_of_getElem? ha)⟩
 | row τ xs=>
  simp only [mapV,Xs] at h
  subst h
  exact ⟨rfl,fun j a b ha hb=>by rw [ha] at hb;simp at hb;subst hb;exact AC τ xs a (List.mem_of_getElem? ha)⟩
 | ptr i o=>
  have h0:=h
  simp only [mapV] at h
  split at h
  ·simp at h;subst h;exact one rfl rfl h0
  ·cases h
 | lst τ xs o=>
  have h0:=h
  simp only [mapV] at h
  split at h
  ·simp at h;subst h;exact one rfl rfl h0
  ·simp at h;subst h;exact one rfl rfl h0
 | cptr c=>
  have h0:=h
  simp only [mapV] at h
  split at h
  ·simp at h;subst h;exact one rfl rfl h0
  ·cases h
 | tup cs=>
  have h0:=h
  simp only [mapV] at h
  split at h
  ·simp at h;subst h;exact one rfl rfl h0
  ·cases h
 | fn f cs=>
  have h0:=h
  simp only [mapV] at h
  split at h
  ·simp at h;subst h;exact one rfl rfl h0
  ·cases h
 | arr i n w=>
  have h0:=h
  simp only [mapV] at h
  split at h
  ·simp at h;subst h;exact one rfl rfl h0
  ·cases h
 | aptr i n w o=>
  have h0:=h
  simp only [mapV] at h
  split at h
  ·simp at h;subst h;exact one rfl rfl h0
  ·cases h
 | map i=>
  have h0:=h
  simp only [mapV] at h
  split at h
  ·simp at h;subst h;exact one rfl rfl h0
  ·cases h
 | bptr i=>
  have h0:=h
  simp only [mapV] at h
  split at h
  ·simp at h;subst h;exact one rfl rfl h0
  ·cases h
 | iface t a=>
  have h0:=h
  simp only [mapV] at h
  split at h
  ·simp at h;subst h;exact one rfl rfl h0
  ·cases h
 | lstp τ xs k=>simp [mapV] at h
 | tptr τ n k=>simp [mapV] at h
 | _=>simp only [mapV,Xs] at h;subst h;exact one rfl rfl (by simp [mapV])
structure Names (fp:Nat→Nat→Option (Nat × Nat)) (fi ft:Nat→Option Nat) (e e':Nat→Option CObj):Prop where
 p:∀i o i' o',fp i o=some (i',o')→∀b p l,e i=some (.box b p l)→∃p' l',e' i'=some (.box b p' l')/\p+o=p'+o'
 i:∀i i',fi i=some i'→∀c,e i=some c→e' i'=some c
 t:∀i i',ft i=some i'→∀c,e i=some c→e' i'=some c
theorem V.mapV {Ω:Om} {e':Nat→Option CObj} (hn:Names fp fi ft Ω.e e') {a:AV} {v:Value} (h:V Ω a v):∀{a':AV},AL.mapV fp fi ft a=some a'→V ⟨e',Ω.w,Ω.pub⟩ a' v:=by
 have tok:∀{o:Option Nat} {n:Nat} {v:Value},gx Ω o n v→gx ⟨e',Ω.w,Ω.pub⟩ (o.bind ft) n v:=by
  intro o n v ht id hid
  cases o with
  | none=>simp at hid
  | some k=>
   obtain ⟨m,base,cap,h1,h2,h3⟩:=ht k rfl
   exact ⟨m,base,cap,hn.t k id hid _ h1,h2,h3⟩
 have many:∀{cs ds:List AV} {vs:List Value},cs.length=vs.length→(∀(j:Nat) (c:AV) (v:Value),cs[j]?=some c→vs[j]?=some v→∀{a':AV},AL.mapV fp fi ft c=some a'→V ⟨e',Ω.w,Ω.pub⟩ a' v)→
   mapVs fp fi ft cs=some ds→ds.length=vs.length/\∀(j:Nat) (c:AV) (v:Value),ds[j]?=some c→vs[j]?=some v→V ⟨e',Ω.w,Ω.pub⟩ c v:=by
  intro cs ds vs hl ih hm
  obtain ⟨m1,m2⟩:=jG hm
  refine ⟨by omega,fun j d v hd hv=>?_⟩
  have hj:j < cs.length:=by
   rw [m1]
   rcases Nat.lt_or_ge j ds.length with k | k
   ·exact k
   ·rw [List.getElem?_eq_none k] at hd;cases hd
  exact ih j _ v (List.getElem?_eq_getElem hj) hv (m2 j _ d (List.getElem?_eq_getElem hj) hd)
 induction h with
 | undef v=>intro a' h;simp [AL.mapV] at h;subst h;exact .undef v
 | int k n h1 h2=>intro a' h;simp [AL.mapV] at h;subst h;exact .int k n h1 h2
 | bool b=>intro a' h;simp [AL.mapV] at h;subst h;exact .bool b
 | str s h1=>intro a' h;simp [AL.mapV] at h;subst h;exact .str s h1
 | lstNil τ o ht=>
  intro a' h
  cases o with
  | none=>simp [AL.mapV] at h;subst h;exact .lstNil τ none (fun id hid=>by simp at hid)
  | some k=>simp [AL.mapV] at h;subst h;exact .lstNil τ _ (tok ht)
 | lstVoid τ a=>intro a' h;simp [AL.mapV] at h;subst h;exact .lstVoid τ a
 | lst τ xs o b off cap vals h1 h2 h3 h4 h5 ih=>
  intro a' h
  have hc:∀(i:Nat) (x:den τ),xs[i]?=some x→∀(j:Nat) (c:AV),(cells τ x)[j]?=some c→V ⟨e',Ω.w,Ω.pub⟩ c (vals i j):=
   fun i x hx j c hcj=>ih i x hx j c hcj (jH τ x c (List.mem_of_getElem? hcj))
  cases o with
  | none=>simp [AL.mapV] at h;subst h;exact .lst τ xs none b off cap vals h1 h2 (fun id hid=>by simp at hid) h4 hc
  | some k=>simp [AL.mapV] at h;subst h;exact .lst τ xs _ b off cap vals h1 h2 (tok h3) h4 hc
 | nils=>intro a' h;simp [AL.mapV] at h;subst h;exact .nils
 | ptr id off b o len he=>
  intro a' h
  simp only [AL.mapV] at h
  split at h
  ·rename_i j p hj
   simp at h
   subst h
   obtain ⟨p',l',q1,q2⟩:=hn.p _ _ _ _ hj _ _ _ he
   rw [q2]
   exact .ptr j p b p' l' q1
  ·cases h
 | cptr c b off vals h1 h2 ih=>
  intro a' h
  simp only [AL.mapV] at h
  split at h
  ·rename_i d hd
   simp at h
   subst h
   obtain ⟨m1,m2⟩:=jI hd
   have hj:∀(j:Nat) (d':AV),(aa d)[j]?=some d'→∃c',(aa c)[j]?=some c':=by
    intro j d' hd'
    have:j < (aa c).length:=by
     rw [m1]
     rcases Nat.lt_or_ge j (aa d).length with k | k
     ·exact k
     ·rw [List.getElem?_eq_none k] at hd';cases hd'
    exact ⟨_,List.getElem?_eq_getElem this⟩
   refine .cptr d b off vals (fun j d' hd'=>?_) (fun j d' hd'=>?_)
   ·obtain ⟨c',hc'⟩:=hj j d' hd'
    exact h1 j c' hc'
   ·obtain ⟨c',hc'⟩:=hj j d' hd'
    exact ih j c' hc' (m2 j c' d' hc' hd')
  ·cases h
 | nilp=>intro a' h;simp [AL.mapV] at h;subst h;exact .nilp
 | ptNone n=>intro a' h;simp [AL.mapV] at h;subst h;exact .ptNone n
 | ptSome n x v _ ih=>intro a' h;simp [AL.mapV] at h;subst h;exact .ptSome n x v (ih (by simp [AL.mapV]))
 | arr id n w b len cap a he h1 h2 h3 h4=>
  intro a' h
  simp only [AL.mapV] at h
  split at h
  ·rename_i j hj
   simp at h
   subst h
   exact .arr j n w b len cap a (hn.i _ _ hj _ he) h1 h2 h3 h4
  ·cases h
 | aptr id i w off b o len he=>
  intro a' h
  simp only [AL.mapV] at h
  split at h
  ·rename_i j hj
   simp at h
   subst h
   exact .aptr j i w off b o len (hn.i _ _ hj _ he)
  ·cases h
 | map id r he=>
  intro a' h
  simp only [AL.mapV] at h
  split at h
  ·rename_i j hj
   simp at h
   subst h
   exact .map j r (hn.i _ _ hj _ he)
  ·cases h
 | bptr id b g he=>
  intro a' h
  simp only [AL.mapV] at h
  split at h
  ·rename_i j hj
   simp at h
   subst h
   exact .bptr j b g (hn.i _ _ hj _ he)
  ·cases h
 | lstp τ xs k b off cap vals h1 h2 h3 h4 h5 _=>intro a' h;simp [AL.mapV] at h
 | tptr τ n k p hp=>intro a' h;simp [AL.mapV] at h
 | iface t a v _ ih=>
  intro a' h
  simp only [AL.mapV] at h
  split at h
  ·rename_i d hd
   simp at h
   subst h
   exact .iface t d v (ih hd)
  ·cases h
 | nilif=>intro a' h;simp [AL.mapV] at h;subst h;exact .nilif
 | st n x v _ ih=>
  intro a' h
  simp only [AL.mapV,Xs] at h
  subst h
  refine .st n x v (ih ?_)
  have:∀cs:List AV,(∀c∈cs,AL.mapV fp fi ft c=some c)→mapVs fp fi ft cs=some cs:=by
   intro cs
   induction cs with
   | nil=>intro _;rfl
   | cons c r ih=>intro hc;simp only [mapVs,hc c (by simp),ih (fun d hd=>hc d (by simp [hd]))]
  simp only [AL.mapV,this _ (jH (.st n) x)]
 | agg cs vs hl _ ih=>
  intro a' h
  simp only [AL.mapV] at h
  split at h
  ·rename_i ds hds
   simp at h
   subst h
   obtain ⟨q1,q2⟩:=many hl ih hds
   exact .agg ds vs q1 q2
  ·cases h
 | tup cs vs hl _ ih=>
  intro a' h
  simp only [AL.mapV] at h
  split at h
  ·rename_i ds hds
   simp at h
   subst h
   obtain ⟨q1,q2⟩:=many hl ih hds
   exact .tup ds vs q1 q2
  ·cases h
 | fn f cs vs hl _ ih=>
  intro a' h
  simp only [AL.mapV] at h
  split at h
  ·rename_i ds hds
   simp at h
   subst h
   obtain ⟨q1,q2⟩:=many hl ih hds
   exact .fn f ds vs q1 q2
  ·cases h
theorem VL.mapVs {Ω:Om} {e':Nat→Option CObj} (hn:Names fp fi ft Ω.e e') {cs ds:List AV} {vs:List Value} (h:VL Ω cs vs) (hm:AL.mapVs fp fi ft cs=some ds):VL ⟨e',Ω.w,Ω.pub⟩ ds vs:=by
 obtain ⟨m1,m2⟩:=jG hm
 refine ⟨by rw [←m1,h.1],fun j d v hd hv=>?_⟩
 have hj:j < cs.length:=by
  rw [m1]
  rcases Nat.lt_or_ge j ds.length with k | k
  ·exact k
  ·rw [List.getElem?_eq_none k] at hd;cases hd
 exact (h.2 j _ v (List.getElem?_eq_getElem hj) hv).mapV hn (m2 j _ d (List.getElem?_eq_getElem hj) hd)
end
theorem V.data {Ω:Om} {e':Nat→Option CObj} {τ:Ty} {x:den τ} {v:Value} (h:V Ω (inj τ x) v):V ⟨e',Ω.w,Ω.pub⟩ (inj τ x) v:=by
 have hn:Names (fun _ _=>none) (fun _=>none) (fun _=>none) Ω.e e':=⟨fun _ _ _ _ h=>by simp at h,fun _ _ h=>by simp at h,fun _ _ h=>by simp at h⟩
 refine h.mapV hn ?_
 cases τ <;> simp [inj,AL.mapV]
theorem MapOK.data {Ω:Om} {e':Nat→Option CObj} {κ τ:Ty} {m:List (den κ × den τ)} {es:Array MapEntry} {clock:Nat} (h:MapOK Ω κ τ m es clock):MapOK ⟨e',Ω.w,Ω.pub⟩ κ τ m es clock:=
 ⟨h.size,fun i e x he hx=>⟨(h.ent i e x he hx).1.data,(h.ent i e x he hx).2.data⟩,h.keys,h.born,h.rise⟩
def lL (w:World) (pub:Nat→Nat→Prop):Prop:=∀b o,pub b o→∃v,w.cell? ⟨b,o,none⟩=some v
def Inj (e:Nat→Option CObj):Prop:=∀i j c d b o,e i=some c→e j=some d→occ c b o→occ d b o→i=j
structure After (w:World) (pub:Nat→Nat→Prop) (e:Nat→Option CObj) (B:Nat→Option SObj) (w':World) (pub':Nat→Nat→Prop) (e':Nat→Option CObj):Prop where
 os:w'.os=w.os
 tape:w'.tape=w.tape
 output:w'.output=w.output
 size:w.heap.size<=w'.heap.size
 block:∀b,b < w.heap.size→(∀o,¬lZ e b o)→w'.heap[b]?=w.heap[b]?
 cell:∀b o,b < w.heap.size→¬lZ e b o→w'.cell? ⟨b,o,none⟩=w.cell? ⟨b,o,none⟩
 kind:∀b,b < w.heap.size→¬(∀o,lZ e b o)→w'.shape? b=w.shape? b/\∀o,w'.frozen? ⟨b,o,none⟩=w.frozen? ⟨b,o,none⟩
 ext:Ext ⟨e,w,pub⟩ ⟨e',w',pub'⟩
 fresh:∀b o,pub' b o→pub b o∨w.heap.size<=b∨lZ e b o
 ok:lL w' pub'
 slots:∀id o,B id=some o→bv ⟨e',w',pub'⟩ (fun b o=>w.heap.size<=b∨lZ e b o) id o
 dom:∀id,B id=none→e' id=none
 inj:Inj e'
def ar (P:Program) (f:Nat) (args:List AV) (S:List (Nat × SObj)) (A:Ans):Prop:=
 ∀w pub e vs,lL w pub→iY w pub→VL ⟨e,w,pub⟩ args vs→(∀id o,ax S id=some o→bv ⟨e,w,pub⟩ (fun _ _=>True) id o)→(∀id,ax S id=none→e id=none)→Inj e→
  Calls P f vs.toArray w fun en w'=>∃pub' e',match en with
   | .returned v=>(∀b pv u,A.pan=some (b,pv,u)→b=false)/\V ⟨e',w',pub'⟩ A.val v/\After w pub e (ax (putB S A.upd)) w' pub' e'
   | .panicked ch=>∃pv u v,A.pan=some (true,pv,u)/\ch=[{v,recovered:=false}]/\V ⟨e',w',pub'⟩ pv v/\After w pub e (ax (putB S u)) w' pub' e'
   | .outgrown=>False
def au (P:Program) (f:Nat):Prop:=∃fn,P.funcs[f]?=some fn/\fn.body.isNone=false/\(fn.name == "runtime.NumGoroutine")=false
def dG (P:Program) (spec:Nat→List AV→List (Nat × SObj)→Option Ans):Prop:=
 ∀f args S A,spec f args S=some A→(∀q,A.ob=some q→q)→(am S).all cD=true→au P f/\ar P f args S A
end Go.AL
end
