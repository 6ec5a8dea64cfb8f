/- The layer: Go code as conditions, and that they are sound. No condition. -/
import Derived.Test.YtdmbjejhifjhbaaGreatDoorT03
set_option linter.unusedVariables false
set_option linter.unusedSimpArgs false
set_option linter.unnecessarySimpa false
set_option linter.deprecated false
set_option linter.unusedSectionVars false
set_option maxRecDepth 100000
section
namespace Go.AL
variable [Tabs]
def Rd (a b:AV):Prop:=∀Ω v,V Ω a v→V Ω b v
theorem Rd.refl (a:AV):Rd a a:=fun _ _ h=>h
theorem Rd.lst (τ:Ty) (xs:List (den τ)) (o:Option Nat):Rd (.lst τ xs o) (.lst τ xs none):=by
 intro Ω v hv
 cases hv with
 | lstNil _ _ _=>exact .lstNil τ none (fun id hid=>by simp at hid)
 | lstVoid _ a=>exact .lstVoid τ a
 | lst _ _ _ b off cap vals h1 h2 h3 h4 h5=>exact .lst τ xs none b off cap vals h1 h2 (fun id hid=>by simp at hid) h4 h5
theorem Rd.nils (τ:Ty):Rd .nils (.lst τ [] none):=by
 intro Ω v hv
 cases hv
 exact .lstNil τ none (fun id hid=>by simp at hid)
def RdL (cs ds:List AV):Prop:=cs.length=ds.length/\∀(j:Nat) (c d:AV),cs[j]?=some c→ds[j]?=some d→Rd c d
theorem RdL.nil:RdL [] []:=⟨rfl,fun _ _ _ h=>by simp at h⟩
theorem RdL.cons {a b:AV} {cs ds:List AV} (h:Rd a b) (k:RdL cs ds):RdL (a ::cs) (b ::ds):=by
 refine ⟨by simp [k.1],fun j c d hc hd=>?_⟩
 cases j with
 | zero=>simp at hc hd;subst hc hd;exact h
 | succ j=>exact k.2 j c d (by simpa using hc) (by simpa using hd)
theorem VL.rd {Ω:Om} {cs ds:List AV} {vs:List Value} (h:VL Ω cs vs) (r:RdL cs ds):VL Ω ds vs:=by
 refine ⟨by rw [←r.1,h.1],fun j d v hd hv=>?_⟩
 have hj:j < cs.length:=by
  rw [r.1]
  rcases Nat.lt_or_ge j ds.length with k | k
  ·exact k
  ·rw [List.getElem?_eq_none k] at hd;cases hd
 have hc:cs[j]?=some cs[j]:=List.getElem?_eq_getElem hj
 exact r.2 j _ d hc hd _ _ (h.2 j _ v hc hv)
theorem b5 {k:IntKind} {a:AV} {n:Int} (h:asInt k a=some n):Rd a (.int k n):=by
 cases a <;> simp [asInt] at h
 obtain ⟨rfl,rfl⟩:=h
 exact Rd.refl _
theorem s8 {a:AV} {n:Bool} (h:oZ a=some n):Rd a (.bool n):=by
 cases a <;> simp [oZ] at h
 subst h
 exact Rd.refl _
theorem bR {a:AV} {n:Str} (h:dR a=some n):Rd a (.str n):=by
 cases a <;> simp [dR] at h
 subst h
 exact Rd.refl _
theorem ca {τ:Ty} {a:AV} {xs:List (den τ)} (h:ew τ a=some xs):Rd a (.lst τ xs none):=by
 cases a <;> simp [ew] at h
 ·rename_i σ ys o
  obtain ⟨e,rfl⟩:=jd h
  subst e
  exact Rd.lst σ ys o
 ·subst h
  exact Rd.nils τ
theorem pR {n m:SN} {x:Option (SD n)} {y:Option (SD m)} (h:rW n m x=some y):∃e:n=m,e ▸ x=y:=by
 unfold rW at h
 split at h
 ·rename_i e;simp at h;exact ⟨e,h⟩
 ·simp at h
theorem Fd {n:SN} {a:AV} {x:Option (SD n)} (h:Gn n a=some x):Rd a (.pt n x):=by
 unfold Gn at h
 split at h
 ·obtain ⟨e,h⟩:=pR h
  subst e
  subst h
  exact Rd.refl _
 ·simp at h
  subst h
  intro Ω v hv
  cases hv
  exact .ptNone n
 ·obtain ⟨e,h⟩:=pR h
  subst e
  subst h
  exact fun Ω v hv=>.ptSome _ _ v hv
 ·cases h
theorem RdL.app {as bs cs ds:List AV} (h:RdL as bs) (k:RdL cs ds):RdL (as++cs) (bs++ds):=by
 refine ⟨by simp [h.1,k.1],fun j c d hc hd=>?_⟩
 by_cases hj:j < as.length
 ·rw [List.getElem?_append_left hj] at hc
  rw [List.getElem?_append_left (by rw [←h.1];exact hj)] at hd
  exact h.2 j c d hc hd
 ·rw [List.getElem?_append_right (by omega)] at hc
  rw [List.getElem?_append_right (by rw [←h.1];omega),←h.1] at hd
  exact k.2 _ c d hc hd
theorem gR {cs:List AV} {x:Shape} (h:i7 cs=some x):RdL cs (dS x):=by
 unfold i7 at h
 split at h
 ·split at h
  ·rename_i h0 h1 h2 h3 h4
   simp only [Xs] at h
   subst h
   exact (.cons (b5 h0) (.cons (bR h1) (.cons (bR h2) (.cons (ca h3) (.cons (ca h4) .nil)))))
  ·cases h
 ·cases h
theorem uQ {cs:List AV} {x:Item} (h:pw cs=some x):RdL cs (gX x):=by
 unfold pw at h
 split at h
 ·split at h
  ·rename_i h0 h1 h2
   simp only [Xs] at h
   subst h
   exact (.cons (b5 h0) (.cons (bR h1) (RdL.app (gR h2) .nil)))
  ·cases h
 ·cases h
theorem rA {cs:List AV} {x:Change} (h:lX cs=some x):RdL cs (fg x):=by
 unfold lX at h
 split at h
 ·split at h
  ·rename_i h0 h1
   simp only [Xs] at h
   subst h
   exact (.cons (b5 h0) (.cons (bR h1) .nil))
  ·cases h
 ·cases h
theorem tp {cs:List AV} {x:Tokn} (h:nw cs=some x):RdL cs (fS x):=by
 unfold nw at h
 split at h
 ·split at h
  ·rename_i h0 h1 h2
   simp only [Xs] at h
   subst h
   exact (.cons (b5 h0) (.cons (bR h1) (.cons (b5 h2) .nil)))
  ·cases h
 ·cases h
theorem tq {cs:List AV} {x:Flt} (h:ny cs=some x):RdL cs (fT x):=by
 unfold ny at h
 split at h
 ·split at h
  ·rename_i h0 h1
   simp only [Xs] at h
   subst h
   exact (.cons (b5 h0) (.cons (b5 h1) .nil))
  ·cases h
 ·cases h
theorem ou {cs:List AV} {x:Trm} (h:mE cs=some x):RdL cs (fU x):=by
 unfold mE at h
 split at h
 ·split at h
  ·rename_i h0 h1 h2 h3 h4 h5 h6 h7 h8
   simp only [Xs] at h
   subst h
   exact (.cons (b5 h0) (.cons (bR h1) (.cons (bR h2) (.cons (b5 h3) (.cons (ca h4) (.cons (ca h5) (.cons (ca h6) (.cons (ca h7) (.cons (b5 h8) .nil)))))))))
  ·cases h
 ·cases h
theorem iw {cs:List AV} {x:Vers} (h:gr cs=some x):RdL cs (du x):=by
 unfold gr at h
 split at h
 ·split at h
  ·rename_i h0 h1 h2 h3
   simp only [Xs] at h
   subst h
   exact (.cons (b5 h0) (.cons (b5 h1) (.cons (b5 h2) (.cons (bR h3) .nil))))
  ·cases h
 ·cases h
theorem tt {cs:List AV} {x:Bnd} (h:nz cs=some x):RdL cs (fV x):=by
 unfold nz at h
 split at h
 ·split at h
  ·rename_i h0 h1
   simp only [Xs] at h
   subst h
   exact (.cons (b5 h0) (RdL.app (iw h1) .nil))
  ·cases h
 ·cases h
theorem xr {cs:List AV} {x:Impt} (h:sL cs=some x):RdL cs (j6 x):=by
 unfold sL at h
 split at h
 ·split at h
  ·rename_i h0 h1 h5 h6
   simp only [Xs] at h
   subst h
   exact (.cons (bR h0) (RdL.app (iw h1) (.cons (ca h5) (.cons (b5 h6) .nil))))
  ·cases h
 ·cases h
theorem uR {cs:List AV} {x:Dcl} (h:px cs=some x):RdL cs (gZ x):=by
 unfold px at h
 split at h
 ·split at h
  ·rename_i h0 h1 h2 h7 h16
   simp only [Xs] at h
   subst h
   exact (.cons (b5 h0) (.cons (bR h1) (RdL.app (gR h2) (RdL.app (ou h7) (.cons (b5 h16) .nil)))))
  ·cases h
 ·cases h
theorem uS {cs:List AV} {x:Modu} (h:py cs=some x):RdL cs (hD x):=by
 unfold py at h
 split at h
 ·split at h
  ·rename_i h0 h1 h2 h3 h4
   simp only [Xs] at h
   subst h
   exact (.cons (bR h0) (.cons (ca h1) (.cons (ca h2) (.cons (ca h3) (.cons (b5 h4) .nil)))))
  ·cases h
 ·cases h
theorem uT {cs:List AV} {x:Bndg} (h:pz cs=some x):RdL cs (hU x):=by
 unfold pz at h
 split at h
 ·split at h
  ·rename_i h0 h1 h2
   simp only [Xs] at h
   subst h
   exact (.cons (bR h0) (.cons (bR h1) (RdL.app (gR h2) .nil)))
  ·cases h
 ·cases h
theorem xt {cs:List AV} {x:Envt} (h:sM cs=some x):RdL cs (j7 x):=by
 unfold sM at h
 split at h
 ·split at h
  ·rename_i h0 h1 h2 h3
   simp only [Xs] at h
   subst h
   exact (.cons (bR h0) (.cons (ca h1) (.cons (ca h2) (.cons (ca h3) .nil))))
  ·cases h
 ·cases h
theorem xu {cs:List AV} {x:Depd} (h:sO cs=some x):RdL cs (j8 x):=by
 unfold sO at h
 split at h
 ·split at h
  ·rename_i h0 h1
   simp only [Xs] at h
   subst h
   exact (.cons (bR h0) (.cons (ca h1) .nil))
  ·cases h
 ·cases h
theorem pS {cs:List AV} {x:Vlu} (h:p7 cs=some x):RdL cs (io x):=by
 unfold p7 at h
 split at h
 ·split at h
  ·rename_i h0 h1 h2 h3 h4 h5
   simp only [Xs] at h
   subst h
   exact (.cons (b5 h0) (.cons (b5 h1) (.cons (bR h2) (.cons (bR h3) (.cons (ca h4) (.cons (ca h5) .nil))))))
  ·cases h
 ·cases h
theorem uU {cs:List AV} {x:Cel} (h:pA cs=some x):RdL cs (hX x):=by
 unfold pA at h
 split at h
 ·split at h
  ·rename_i h0 h1
   simp only [Xs] at h
   subst h
   exact (.cons (bR h0) (RdL.app (pS h1) .nil))
  ·cases h
 ·cases h
theorem Aw {cs:List AV} {x:Opn} (h:xb cs=some x):RdL cs (l4 x):=by
 unfold xb at h
 split at h
 ·split at h
  ·rename_i h0 h1 h2 h3 h4 h5
   simp only [Xs] at h
   subst h
   exact (.cons (b5 h0) (.cons (b5 h1) (.cons (bR h2) (.cons (ca h3) (.cons (ca h4) (.cons (b5 h5) .nil))))))
  ·cases h
 ·cases h
theorem tu {cs:List AV} {x:Chnk} (h:nA cs=some x):RdL cs (fW x):=by
 unfold nA at h
 split at h
 ·split at h
  ·rename_i h0 h1
   simp only [Xs] at h
   subst h
   exact (.cons (b5 h0) (.cons (ca h1) .nil))
  ·cases h
 ·cases h
theorem xw {cs:List AV} {x:Usg} (h:sP cs=some x):RdL cs (j9 x):=by
 unfold sP at h
 split at h
 ·split at h
  ·rename_i h0 h1
   simp only [Xs] at h
   subst h
   exact (.cons (bR h0) (.cons (bR h1) .nil))
  ·cases h
 ·cases h
theorem Ax {cs:List AV} {x:Nam} (h:xc cs=some x):RdL cs (l5 x):=by
 unfold xc at h
 split at h
 ·split at h
  ·rename_i h0 h1
   simp only [Xs] at h
   subst h
   exact (.cons (bR h0) (.cons (bR h1) .nil))
  ·cases h
 ·cases h
theorem xx {cs:List AV} {x:Stt} (h:sQ cs=some x):RdL cs (ja x):=by
 unfold sQ at h
 split at h
 ·split at h
  ·rename_i h0 h1
   simp only [Xs] at h
   subst h
   exact (.cons (b5 h0) (.cons (b5 h1) .nil))
  ·cases h
 ·cases h
theorem xy {cs:List AV} {x:Par} (h:sR cs=some x):RdL cs (jb x):=by
 unfold sR at h
 split at h
 ·split at h
  ·rename_i h0 h1 h2 h3
   simp only [Xs] at h
   subst h
   exact (.cons (ca h0) (.cons (b5 h1) (.cons (b5 h2) (.cons (b5 h3) .nil))))
  ·cases h
 ·cases h
theorem uV {cs:List AV} {x:Rstt} (h:pB cs=some x):RdL cs (hZ x):=by
 unfold pB at h
 split at h
 ·split at h
  ·rename_i h0 h1 h2
   simp only [Xs] at h
   subst h
   exact (.cons (s8 h0) (.cons (b5 h1) (.cons (b5 h2) .nil)))
  ·cases h
 ·cases h
theorem jF (τ:Ty) {cs:List AV} {x:den τ} (h:sS τ cs=some x):RdL cs (cells τ x):=by
 unfold sS at h
 split at h
 ·exact .cons (b5 h) .nil
 ·exact .cons (s8 h) .nil
 ·exact .cons (bR h) .nil
 ·exact .cons (ca h) .nil
 ·exact .cons (Fd h) .nil
 ·exact gR h
 ·exact uQ h
 ·exact rA h
 ·exact tp h
 ·exact tq h
 ·exact ou h
 ·exact iw h
 ·exact tt h
 ·exact xr h
 ·exact uR h
 ·exact uS h
 ·exact uT h
 ·exact xt h
 ·exact xu h
 ·exact pS h
 ·exact uU h
 ·exact Aw h
 ·exact tu h
 ·exact xw h
 ·exact Ax h
 ·exact xx h
 ·exact xy h
 ·exact uV h
 ·simp at h
theorem RdL.refl:∀cs,RdL cs cs
 | []=>.nil
 | c ::cs=>.cons (Rd.refl c) (RdL.refl cs)
theorem kx {n m:SN} {x:SD n} {y:SD m} (h:mD n m x=some y):∃e:n=m,e ▸ x=y:=by
 unfold mD at h
 split at h
 ·rename_i e;simp at h;exact ⟨e,h⟩
 ·simp at h
theorem eT {τ:Ty} (hs:EY τ=false) {a:AV} {x:den τ} (h:sS τ [a]=some x):aa a=[a]:=by
 cases τ with
 | st n=>cases hs
 | int k=>cases a <;> first | rfl | cases h
 | bool=>cases a <;> first | rfl | cases h
 | str=>cases a <;> first | rfl | cases h
 | lst t=>cases a <;> first | rfl | cases h
 | pt n=>cases a <;> first | rfl | cases h
theorem dg (τ:Ty) {a:AV} {x:den τ} (h:arg τ a=some x):RdL (aa a) (cells τ x):=by
 cases τ with
 | st m=>
  cases a with
  | st n y=>
   obtain ⟨e,h⟩:=kx h
   subst e
   subst h
   exact RdL.refl _
  | agg cs=>exact jF (.st m) h
  | _=>cases h
 | int k=>rw [eT rfl (τ:=.int k) (x:=x) h];exact jF (.int k) h
 | bool=>rw [eT rfl (τ:=.bool) (x:=x) h];exact jF .bool h
 | str=>rw [eT rfl (τ:=.str) (x:=x) h];exact jF .str h
 | lst t=>rw [eT rfl (τ:=.lst t) (x:=x) h];exact jF (.lst t) h
 | pt n=>rw [eT rfl (τ:=.pt n) (x:=x) h];exact jF (.pt n) h
theorem V.rd {Ω:Om} {a b:AV} {v:Value} (h:V Ω a v) (r:Rd a b):V Ω b v:=r _ _ h
theorem Gd {Ω:Om} {τ:Ty} {a:AV} {x:den τ} {v:Value} (h:V Ω a v) (ha:arg τ a=some x):V Ω (inj τ x) v:=by
 have hr:=dg τ ha
 cases τ with
 | st m=>
  cases a with
  | st n y=>
   obtain ⟨e,ha⟩:=kx ha
   subst e
   subst ha
   exact h
  | agg cs=>
   obtain ⟨vs,rfl,hv⟩:=h.agg_inv
   exact .st m x _ (V.of_agg (hv.rd hr))
  | _=>cases ha
 | int k=>rw [eT rfl (τ:=.int k) (x:=x) ha] at hr;exact h.rd (hr.2 0 a _ rfl rfl)
 | bool=>rw [eT rfl (τ:=.bool) (x:=x) ha] at hr;exact h.rd (hr.2 0 a _ rfl rfl)
 | str=>rw [eT rfl (τ:=.str) (x:=x) ha] at hr;exact h.rd (hr.2 0 a _ rfl rfl)
 | lst t=>rw [eT rfl (τ:=.lst t) (x:=x) ha] at hr;exact h.rd (hr.2 0 a _ rfl rfl)
 | pt n=>rw [eT rfl (τ:=.pt n) (x:=x) ha] at hr;exact h.rd (hr.2 0 a _ rfl rfl)
section
variable {P:Program} {C:Cfg} {o:Oper}
theorem ow {Ω:Om} {τ:Ty} {xs:List (den τ)} {o:Option Nat} {b cap:Nat} {vs:List Value} {ws:Array Value} {ty:Nat} {fz:Nat × Nat}
  (hb:Ω.w.heap[b]?=some (.cells ws ty fz)) (hp:ws.toList.take (xs.length *ac τ)=vs) (hv:VL Ω (bg τ xs) vs)
  (hc1:xs.length<=cap) (hc2:cap<=ck) (hpub:∀i,i < xs.length *ac τ→Ω.pub b i)
  (ht:gx Ω o xs.length (.slice (some ⟨b,0,none⟩) xs.length cap)):V Ω (.lst τ xs o) (.slice (some ⟨b,0,none⟩) xs.length cap):=by
 have key:∀(i:Nat) (x:den τ),xs[i]?=some x→∀(j:Nat) (c:AV),(cells τ x)[j]?=some c→
   i *ac τ+j < xs.length *ac τ/\∃v,vs[i *ac τ+j]?=some v/\ws[i *ac τ+j]?=some v/\V Ω c v:=by
  intro i x hx j c hc
  have hf:=ir τ xs i x j c hx hc
  have hlt:i *ac τ+j < (bg τ xs).length:=by
   rcases Nat.lt_or_ge (i *ac τ+j) (bg τ xs).length with k | k
   ·exact k
   ·rw [List.getElem?_eq_none k] at hf;cases hf
  have hlt':i *ac τ+j < vs.length:=by rw [←hv.1];exact hlt
  rw [bO] at hlt
  obtain ⟨v,hvj⟩:∃v,vs[i *ac τ+j]?=some v:=⟨_,List.getElem?_eq_getElem hlt'⟩
  refine ⟨hlt,v,hvj,?_,hv.2 _ c _ hf hvj⟩
  rw [←hp,List.getElem?_take,if_pos hlt,Array.getElem?_toList] at hvj
  exact hvj
 refine .lst τ xs o b 0 cap (fun i j=>(vs[i *ac τ+j]?).getD undef) hc1 hc2 ht (fun i x hx j c hc=>?_) (fun i x hx j c hc=>?_)
 ·obtain ⟨h1,v,h2,h3,h4⟩:=key i x hx j c hc
  simp only [Nat.zero_add]
  refine ⟨hpub _ h1,?_⟩
  rw [aM hb,h3,h2]
  rfl
 ·obtain ⟨h1,v,h2,h3,h4⟩:=key i x hx j c hc
  simp only [h2]
  exact h4
theorem V.row_cells {Ω:Om} {τ:Ty} {xs:List (den τ)} {b off:Nat} {vals:Nat→Nat→Value}
  (h4:∀(i:Nat) (x:den τ),xs[i]?=some x→∀(j:Nat) (c:AV),(cells τ x)[j]?=some c→
    Ω.pub b (off+(i *ac τ+j))/\Ω.w.cell? ⟨b,off+(i *ac τ+j),none⟩=some (vals i j))
  (h5:∀(i:Nat) (x:den τ),xs[i]?=some x→∀(j:Nat) (c:AV),(cells τ x)[j]?=some c→V Ω c (vals i j)) :
  ∃us:List Value,us.length=xs.length *ac τ/\VL Ω (bg τ xs) us/\∀j u,us[j]?=some u→Ω.w.cell? ⟨b,off+j,none⟩=some u:=by
 induction xs generalizing off vals with
 | nil=>exact ⟨[],by simp,VL.nil,fun j u h=>by simp at h⟩
 | cons x xs ih=>
  obtain ⟨us,u1,u2,u3⟩:=ih (off:=off+ac τ) (vals:=fun i=>vals (i+1))
   (fun i y hy j c hc=>by
    have:=h4 (i+1) y (by simpa using hy) j c hc
    rw [show off+ac τ+(i *ac τ+j)=off+((i+1) *ac τ+j) from by rw [Nat.add_mul];omega]
    exact this)
   (fun i y hy j c hc=>h5 (i+1) y (by simpa using hy) j c hc)
  have hx:=V.elem (Ω:=Ω) (xs:=x ::xs) (b:=b) (off:=off) (vals:=vals) 0 (by simp) h4 h5 (dfl τ)
  refine ⟨(List.ofFn fun j:Fin (ac τ)=>vals 0 j)++us,by simp [u1,Nat.add_mul];omega,?_,fun j u hj=>?_⟩
  ·refine VL.append ⟨by simp [bn],fun j c v hc hv=>?_⟩ u2
   rw [List.getElem?_ofFn] at hv
   split at hv
   ·simp at hv
    subst hv
    exact h5 0 x rfl j c hc
   ·simp at hv
  ·by_cases hlt:j < ac τ
   ·rw [List.getElem?_append_left (by simpa using hlt),List.getElem?_ofFn] at hj
    rw [dif_pos hlt] at hj
    simp at hj
    subst hj
    have hc:(cells τ x)[j]?=some ((cells τ x)[j]'(by rw [bn];exact hlt)):=List.getElem?_eq_getElem _
    have:=(h4 0 x rfl j _ hc).2
    simpa using this
   ·rw [List.getElem?_append_right (by simp;omega)] at hj
    simp only [List.length_ofFn] at hj
    have:=u3 _ u hj
    rw [show off+ac τ+(j - ac τ)=off+j from by omega] at this
    exact this
theorem mP {Ω:Om} {τ:Ty}:∀(ps:List (Nat × AV)) (qs:List (Nat × Value)) (i:Nat) (l:List (den τ)) (cur:Array Value),
  ps.map (·.1)=qs.map (·.1)→VL Ω (ps.map (·.2)) (qs.map (·.2))→pD τ i ps=some l→(∀p∈ps,(aa p.2).all lF=true)→
  (i+l.length) *ac τ<=cur.size→
  ∃us:List Value,VL Ω (bg τ l) us/\Instr.fill (fun i=>some (i *ac τ,ac τ)) cur qs=some (cur.toList.take (i *ac τ)++us++cur.toList.drop ((i+l.length) *ac τ)).toArray
 | [],qs,i,l,cur,hq,_,hf,_,_=>by
  cases qs with
  | cons _ _=>simp at hq
  | nil=>
   simp [pD] at hf
   subst hf
   exact ⟨[],VL.nil,by simp [Instr.fill]⟩
 | (j,x) ::ps,[],i,l,cur,hq,_,_,_,_=>by simp at hq
 | (j,x) ::ps,(j',v) ::qs,i,l,cur,hq,hv,hf,hlf,hl=>by
  simp only [List.map_cons,List.cons.injEq] at hq
  obtain ⟨rfl,hq⟩:=hq
  simp only [List.map_cons] at hv
  simp only [pD] at hf
  split at hf
  ·rename_i hji
   simp at hji
   subst hji
   split at hf
   ·rename_i y l' hy hl'
    simp at hf
    subst hf
    have hxl:=hlf (j,x) (by simp)
    have hxv:=hv.head
    have hp:=(hxv.parts hxl).rd (dg τ hy)
    have hvs:v.cells.size=ac τ:=by have:=hp.1;rw [bn] at this;simpa using this.symm
    have hle:j *ac τ+v.cells.size<=cur.size:=by
     rw [hvs]
     simp only [List.length_cons] at hl
     have:(j+1) *ac τ<=(j+(l'.length+1)) *ac τ:=Nat.mul_le_mul_right _ (by omega)
     rw [Nat.add_mul] at this
     omega
    rw [s7 (place:=fun i=>some (i *ac τ,ac τ)) rfl hvs hle]
    have hsz:(cur.toList.take (j *ac τ)++v.cells.toList++cur.toList.drop (j *ac τ+v.cells.size)).toArray.size=cur.size:=by simp;omega
    obtain ⟨us,u1,u2⟩:=mP ps qs (j+1) l' _ hq hv.tail hl' (fun p hp=>hlf p (by simp [hp])) (by
     rw [hsz]
     simp only [List.length_cons] at hl
     rw [show j+1+l'.length=j+(l'.length+1) from by omega]
     exact hl)
    refine ⟨v.cells.toList++us,?_,?_⟩
    ·have:bg τ (y ::l')=cells τ y++bg τ l':=by simp [bg]
     rw [this]
     exact hp.append u1
    ·rw [u2]
     congr 1
     apply Array.ext'
     have e1:(j+1) *ac τ=j *ac τ+ac τ:=by rw [Nat.add_mul];omega
     have t1:(cur.toList.take (j *ac τ)++v.cells.toList++cur.toList.drop (j *ac τ+v.cells.size)).take ((j+1) *ac τ)=cur.toList.take (j *ac τ)++v.cells.toList:=by
      rw [List.take_left' (by simp;omega)]
     have t2:(cur.toList.take (j *ac τ)++v.cells.toList++cur.toList.drop (j *ac τ+v.cells.size)).drop ((j+1+l'.length) *ac τ)=cur.toList.drop ((j+(l'.length+1)) *ac τ):=by
      rw [List.drop_append,List.drop_of_length_le (by
       simp
       have:(j+1) *ac τ<=(j+1+l'.length) *ac τ:=Nat.mul_le_mul_right _ (by omega)
       omega),List.nil_append,List.drop_drop]
      congr 1
      simp
      have e2:(j+1+l'.length) *ac τ=j *ac τ+ac τ+l'.length *ac τ:=by rw [Nat.add_mul,Nat.add_mul];omega
      have e3:(j+(l'.length+1)) *ac τ=j *ac τ+(l'.length *ac τ+ac τ):=by rw [Nat.add_mul,Nat.add_mul];omega
      omega
     simp only [List.length_cons]
     rw [t1,t2]
     simp
   ·simp at hf
  ·simp at hf
theorem rB (hT:bH P C.tbl) {t len:Nat} {ps:Array (Nat × Operand)} (hop:o.op=.buildSlice t len ps):cG P C o:=by
 intro F s a Ω eff next Q h hd he ho hn
 simp only [aG,hop] at he
 split at he
 ·rename_i d e sz by' z ty hdst hr
  split at he
  ·rename_i ti size by2 z2 τ hre
   split at he
   ·rename_i l hl hB
    split at he
    ·rename_i hck
     simp only [Bool.and_eq_true] at hck
     obtain ⟨⟨hlen,hbig⟩,hlf⟩:=hck
     have hlen':=cn _ _ hlen
     subst hlen'
     obtain ⟨dd,hd1,hd2⟩:=aS hT hr rfl
     cases dd <;> simp [aZ] at hd2
     subst hd2
     obtain ⟨i,zz,i1,i2,i3,i4,i5⟩:=(hT _ _ hre).info
     have hw:ac τ=size:=((hT _ _ hre).ty τ rfl).1
     have i2':i.size=ac τ:=by rw [hw];exact i2
     have hbig':l.length *size<=1000000:=by simpa using hbig
     have hzl:zz.cells.size=ac τ:=by
      have p1:=(hT _ _ hre).zlen
      have:(List.map ct zz.cells.toList).length=size:=by rw [i5];exact p1
      rw [hw]
      simpa using this
     let cur:Array Value:=(Array.range (l.length *ac τ)).map fun k=>zz.cells[k % zz.cells.size]!
     have hcs:cur.size=l.length *ac τ:=by simp [cur]
     obtain ⟨us,u1,u2⟩:=mP (Ω:=Ω) (ps.toList.map fun (i,x)=>(i,opd s.T x)) (ps.toList.map fun (i,x)=>(i,a.eval x)) 0 l cur
      (by simp [Function.comp_def])
      (by
       refine ⟨by simp,fun j c v hc hv=>?_⟩
       simp only [List.map_map,List.getElem?_map,Option.map_eq_some_iff] at hc hv
       obtain ⟨x,hx,e⟩:=hc
       obtain ⟨x',hx',e'⟩:=hv
       rw [hx] at hx'
       simp at hx'
       subst hx'
       simp at e e'
       rw [←e,←e']
       exact bC h x.2)
      hl
      (by
       intro p hp
       exact List.all_eq_true.1 hlf p hp)
      (by rw [hcs];simp)
     have hul:us.length=l.length *ac τ:=by rw [←u1.1,bO]
     have hfin:(cur.toList.take (0 *ac τ)++us++cur.toList.drop ((0+l.length) *ac τ)).toArray=us.toArray:=by
      apply Array.ext'
      simp
      rw [hcs]
      omega
     rw [hfin] at u2
     have hrun:(execOp a.eval o).run P Ω.w=.ok (.value (.slice (some ⟨Ω.w.heap.size,0,none⟩) l.length l.length)) (Ω.w.alloc (.cells us.toArray e)):=by
      have hps:(ps.map fun x=>match x with | (i,x)=>(i,a.eval x)).toList=ps.toList.map fun (i,x)=>(i,a.eval x):=by simp
      simp only [execOp,hop,Instr.buildSlice,Sem.run_bind,aV hd1,Result.andThen_ok,dW i1,i2']
      rw [if_neg (by rw [hw];omega)]
      split
      ·rename_i h0
       have hcur:((Array.range (l.length *ac τ)).map fun x=>(#[]:Array Value)[x % (#[]:Array Value).size]!)=cur:=by simp [cur,h0]
       simp only [Sem.run_bind,Sem.run_pure,Result.andThen_ok]
       rw [hcur,hps,u2]
       simp [newRow]
      ·rename_i h0
       simp only [Sem.run_bind,iu i1 i4,Sem.run_pure,Result.andThen_ok]
       rw [hps]
       have u2':Instr.fill (fun i=>some (i *ac τ,ac τ)) ((Array.range (l.length *ac τ)).map fun x=>zz.cells[x % zz.cells.size]!) (ps.toList.map fun (i,x)=>(i,a.eval x))=some us.toArray:=u2
       rw [u2']
       simp [newRow]
     have hlm:l.length<=ck:=by
      have:l.length *1<=l.length *size:=Nat.mul_le_mul_left _ (by have:=(hT _ _ hre).pos rfl;exact this)
      unfold ck
      omega
     split at he
     rotate_left
     ·simp only [Xs] at he
      subst he
      have hh:=h.alloc (d:=d) (c:=.box Ω.w.heap.size 0 (bg τ l).length) (obj:=.box (.row τ l)) (x:=.cells us.toArray e) (p:=fun _=>False)
       (dst:=some d) (val:=.arr d l.length size) (v:=.slice (some ⟨Ω.w.heap.size,0,none⟩) l.length l.length)
       (Or.inl (h.dom d hB)) (fun b o hb=>hb.1)
       (fun hx=>by
        refine ⟨Ω.w.heap.size,0,by simp [aa],fun j c' hc=>?_⟩
        have hj:j < us.length:=by
         rw [←u1.1]
         rcases Nat.lt_or_ge j (bg τ l).length with k | k
         ·exact k
         ·rw [show aa (.row τ l)=bg τ l from rfl,List.getElem?_eq_none k] at hc;cases hc
        have hcells:(Ω.w.alloc (.cells us.toArray e)).heap[Ω.w.heap.size]?=some (.cells us.toArray e (0,0)):=cJ _ _
        refine ⟨Or.inl h.frame.size,fun hp=>?_,eZ hcells _,us[j],?_,(u1.2 j c' _ hc (by simp [hj])).ext hx⟩
        ·rcases hp with hp | ⟨_,hp⟩
         ·have:=h.cell_lt hp;omega
         ·exact hp
        ·simp only [Nat.zero_add]
         rw [aM hcells]
         simp [hj])
       (fun _ hf=>hf.elim)
       (fun hx=>.arr d l.length size Ω.w.heap.size (bg τ l).length l.length _ (by simp) (by rw [bO,hw];exact Nat.le_refl _) (Nat.le_refl _) hlm (.inl rfl))
       (fun d' hd'=>by simp at hd';subst hd';exact hd d hdst)
      refine aH hrun ?_
      rw [hdst] at hn ⊢
      exact hn _ _ hh
     simp only [Xs] at he
     subst he
     have hh:=h.alloc (d:=d) (c:=.tail l.length (some Ω.w.heap.size) l.length) (obj:=.tail τ l.length) (x:=.cells us.toArray e) (p:=fun o=>o < l.length *ac τ)
      (dst:=some d) (val:=.lst τ l (some d)) (v:=.slice (some ⟨Ω.w.heap.size,0,none⟩) l.length l.length)
      (Or.inl (h.dom d hB)) (fun b o hb=>by simpa [occ] using hb.symm)
      (fun hx=>by
       refine ⟨some Ω.w.heap.size,l.length,by simp,Nat.le_refl _,?_,by simp,fun b hb=>?_⟩
       ·have:l.length *1<=l.length *size:=Nat.mul_le_mul_left _ (by have:=(hT _ _ hre).pos rfl;exact this)
        unfold ck
        omega
       ·simp at hb
        subst hb
        refine ⟨fun _=>Or.inl h.frame.size,us.toArray,e,(0,0),cJ _ _,Nat.zero_le _,by simp [hul],fun o ho hp=>?_⟩
        rcases hp with hp | ⟨_,hp⟩
        ·have:=h.cell_lt hp;omega
        ·omega)
      (fun o ho=>by
       rw [aM (cJ _ _)]
       exact ⟨us[o]'(by omega),by simp [hul,ho]⟩)
      (fun hx=>by
       refine ow (vs:=us) (cJ _ _) (by rw [←hul];simp) (u1.ext hx) (Nat.le_refl _) ?_ (fun i hi=>Or.inr ⟨rfl,hi⟩) ?_
       ·have:l.length *1<=l.length *size:=Nat.mul_le_mul_left _ (by have:=(hT _ _ hre).pos rfl;exact this)
        unfold ck
        omega
       ·intro id hid
        simp at hid
        subst hid
        exact ⟨l.length,some Ω.w.heap.size,l.length,by simp,Nat.le_refl _,fun _=>rfl⟩)
      (fun d' hd'=>by simp at hd';subst hd';exact hd d hdst)
     refine aH hrun ?_
     rw [hdst] at hn ⊢
     exact hn _ _ hh
    ·simp at he
   ·simp at he
  ·simp at he
 ·simp at he
end
end Go.AL
end
