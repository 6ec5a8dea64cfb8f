/- The layer: Go code as conditions, and that they are sound. No condition. -/
import Derived.Test.YtdmbjejhifjhbaaGreatDoorT01
import Derived.Laws.AppendOwn
import Derived.Laws.CopyRow
import Derived.Lib.FrozenHead
set_option linter.unusedVariables false
set_option linter.unusedSimpArgs false
set_option linter.unnecessarySimpa false
set_option linter.deprecated false
set_option linter.unusedSectionVars false
set_option maxRecDepth 100000
section
namespace Go.AL
inductive CObj where
 | box (b off len:Nat)
 | tail (n:Nat) (base:Option Nat) (cap:Nat)
 | obj (r:Nat)
 | bld (b:Nat) (g:Option Nat)
structure Om where
 e:Nat→Option CObj
 w:World
 pub:Nat→Nat→Prop
def eK:Option Nat→Option Addr
 | none=>none
 | some b=>some ⟨b,0,none⟩
def ck:Nat:=9223372036854775807
def gx (Ω:Om) (o:Option Nat) (n:Nat) (v:Value):Prop:=
 ∀id,o=some id→∃m base cap,Ω.e id=some (.tail m base cap)/\n<=m/\(n=m→v=.slice (eK base) n cap)
def pd (Ω:Om) (τ:Ty) (n k:Nat) (p:Option Addr):Prop:=
 ∃m base cap,Ω.e k=some (.tail m base cap)/\n+1<=m/\(n+1=m→∃b,base=some b/\p=some ⟨b,n *ac τ,none⟩)
inductive V (Ω:Om):AV→Value→Prop
 | undef (v:Value):V Ω .undef v
 | int (k:IntKind) (n:Int):k.min<=n→n<=k.max→V Ω (.int k n) (.int k n)
 | bool (b:Bool):V Ω (.bool b) (.bool b)
 | str (s:Str):s.length<=ck→V Ω (.str s) (.string ⟨s.toArray⟩)
 | lstNil (τ:Ty) (o:Option Nat):gx Ω o 0 (.slice none 0 0)→V Ω (.lst τ [] o) (.slice none 0 0)
 | lst (τ:Ty) (xs:List (den τ)) (o:Option Nat) (b off cap:Nat) (vals:Nat→Nat→Value) :
   xs.length<=cap→cap<=ck→gx Ω o xs.length (.slice (some ⟨b,off,none⟩) xs.length cap)→
   (∀(i:Nat) (x:den τ),xs[i]?=some x→∀(j:Nat) (c:AV),(cells τ x)[j]?=some c→
    Ω.pub b (off+(i *ac τ+j))/\Ω.w.cell? ⟨b,off+(i *ac τ+j),none⟩=some (vals i j))→
   (∀(i:Nat) (x:den τ),xs[i]?=some x→∀(j:Nat) (c:AV),(cells τ x)[j]?=some c→V Ω c (vals i j))→
   V Ω (.lst τ xs o) (.slice (some ⟨b,off,none⟩) xs.length cap)
 | lstVoid (τ:Ty) (a:Addr):V Ω (.lst τ [] none) (.slice (some a) 0 0)
 | nils:V Ω .nils (.slice none 0 0)
 | ptr (id off b o len:Nat):Ω.e id=some (.box b o len)→V Ω (.ptr id off) (.pointer (some ⟨b,o+off,none⟩))
 | cptr (c:AV) (b off:Nat) (vals:Nat→Value) :
   (∀(j:Nat) (c':AV),(aa c)[j]?=some c'→Ω.pub b (off+j)/\Ω.w.cell? ⟨b,off+j,none⟩=some (vals j))→
   (∀(j:Nat) (c':AV),(aa c)[j]?=some c'→V Ω c' (vals j))→
   V Ω (.cptr c) (.pointer (some ⟨b,off,none⟩))
 | nilp:V Ω .nilp (.pointer none)
 | ptNone (n:SN):V Ω (.pt n none) (.pointer none)
 | ptSome (n:SN) (x:SD n) (v:Value):V Ω (.cptr (.st n x)) v→V Ω (.pt n (some x)) v
 | arr (id n w b len cap:Nat) (a:Option Addr):Ω.e id=some (.box b 0 len)→n *w<=len→n<=cap→cap<=ck→(a=some ⟨b,0,none⟩∨a=none/\n=0/\cap=0)→
   V Ω (.arr id n w) (.slice a n cap)
 | aptr (id i w off b o len:Nat):Ω.e id=some (.box b o len)→V Ω (.aptr id i w off) (.pointer (some ⟨b,o+(i *w+off),none⟩))
 | map (id r:Nat):Ω.e id=some (.obj r)→V Ω (.map id) (.map (some r))
 | bptr (id b:Nat) (g:Option Nat):Ω.e id=some (.bld b g)→V Ω (.bptr id) (.pointer (some ⟨b,0,none⟩))
 | iface (t:Nat) (a:AV) (v:Value):V Ω a v→V Ω (.iface t a) (.iface t v)
 | nilif:V Ω .nilif .nilIface
 | lstp (τ:Ty) (xs:List (den τ)) (k b off cap:Nat) (vals:Nat→Nat→Value) :
   xs.length+1<=cap→cap<=ck→gx Ω (some k) (xs.length+1) (.slice (some ⟨b,off,none⟩) (xs.length+1) cap)→
   (∀(i:Nat) (x:den τ),xs[i]?=some x→∀(j:Nat) (c:AV),(cells τ x)[j]?=some c→
    Ω.pub b (off+(i *ac τ+j))/\Ω.w.cell? ⟨b,off+(i *ac τ+j),none⟩=some (vals i j))→
   (∀(i:Nat) (x:den τ),xs[i]?=some x→∀(j:Nat) (c:AV),(cells τ x)[j]?=some c→V Ω c (vals i j))→
   V Ω (.lstp τ xs k) (.slice (some ⟨b,off,none⟩) (xs.length+1) cap)
 | tptr (τ:Ty) (n k:Nat) (p:Option Addr):pd Ω τ n k p→V Ω (.tptr τ n k) (.pointer p)
 | st (n:SN) (x:SD n) (v:Value):V Ω (.agg (cells (.st n) x)) v→V Ω (.st n x) v
 | agg (cs:List AV) (vs:List Value):cs.length=vs.length→(∀(j:Nat) (c:AV) (v:Value),cs[j]?=some c→vs[j]?=some v→V Ω c v)→
   V Ω (.agg cs) (.agg vs.toArray)
 | tup (cs:List AV) (vs:List Value):cs.length=vs.length→(∀(j:Nat) (c:AV) (v:Value),cs[j]?=some c→vs[j]?=some v→V Ω c v)→
   V Ω (.tup cs) (.tuple vs.toArray)
 | fn (f:Nat) (cs:List AV) (vs:List Value):cs.length=vs.length→(∀(j:Nat) (c:AV) (v:Value),cs[j]?=some c→vs[j]?=some v→V Ω c v)→
   V Ω (.fn f cs) (.func (.func f) #[] vs.toArray)
def VL (Ω:Om) (cs:List AV) (vs:List Value):Prop:=cs.length=vs.length/\∀(j:Nat) (c:AV) (v:Value),cs[j]?=some c→vs[j]?=some v→V Ω c v
def CLe:CObj→CObj→Prop
 | .box b o l,.box b' o' l'=>b=b'/\o=o'/\l=l'
 | .tail n base cap,.tail n' base' cap'=>n<=n'/\(n=n'→base=base'/\cap=cap')
 | .obj r,.obj r'=>r=r'
 | .bld b _,.bld b' _=>b=b'
 | _,_=>False
theorem CLe.refl (c:CObj):CLe c c:=by cases c <;> simp [CLe]
theorem CLe.box {b o l:Nat} {c:CObj} (h:CLe (.box b o l) c):c=.box b o l:=by
 cases c <;> simp [CLe] at h
 obtain ⟨rfl,rfl,rfl⟩:=h
 rfl
theorem CLe.obj {r:Nat} {c:CObj} (h:CLe (.obj r) c):c=.obj r:=by
 cases c <;> simp [CLe] at h
 subst h
 rfl
theorem CLe.bld {b:Nat} {g:Option Nat} {c:CObj} (h:CLe (.bld b g) c):∃g',c=.bld b g':=by
 cases c <;> simp [CLe] at h
 subst h
 exact ⟨_,rfl⟩
theorem CLe.trans {a b c:CObj} (h:CLe a b) (k:CLe b c):CLe a c:=by
 cases a <;> cases b <;> cases c <;> simp_all [CLe]
 rename_i n1 b1 c1 n2 b2 c2 n3 b3 c3
 obtain ⟨h1,h2⟩:=h
 obtain ⟨k1,k2⟩:=k
 refine ⟨by omega,fun e=>?_⟩
 have e1:n1=n2:=by omega
 have e2:n2=n3:=by omega
 obtain ⟨h3,h4⟩:=h2 e1
 obtain ⟨k3,k4⟩:=k2 e2
 exact ⟨h3.trans k3,h4.trans k4⟩
structure Ext (Ω Ω':Om):Prop where
 e:∀id c,Ω.e id=some c→∃c',Ω'.e id=some c'/\CLe c c'
 pub:∀b o,Ω.pub b o→Ω'.pub b o
 cell:∀b o,Ω.pub b o→Ω'.w.cell? ⟨b,o,none⟩=Ω.w.cell? ⟨b,o,none⟩
theorem Ext.refl (Ω:Om):Ext Ω Ω:=⟨fun _ c h=>⟨c,h,CLe.refl c⟩,fun _ _ h=>h,fun _ _ _=>rfl⟩
theorem gx.ext {Ω Ω':Om} (h:Ext Ω Ω') {o:Option Nat} {n:Nat} {v:Value} (t:gx Ω o n v):gx Ω' o n v:=by
 intro id hid
 obtain ⟨m,base,cap,he,hle,hv⟩:=t id hid
 obtain ⟨c',hc',hl⟩:=h.e id _ he
 cases c' with
 | box b o l=>simp [CLe] at hl
 | obj r=>simp [CLe] at hl
 | bld b g=>simp [CLe] at hl
 | tail m' base' cap'=>
  obtain ⟨h1,h2⟩:=hl
  refine ⟨m',base',cap',hc',by omega,fun e=>?_⟩
  obtain ⟨e1,e2⟩:=h2 (by omega)
  rw [hv (by omega),e1,e2]
theorem pd.ext {Ω Ω':Om} (h:Ext Ω Ω') {τ:Ty} {n k:Nat} {p:Option Addr} (t:pd Ω τ n k p):pd Ω' τ n k p:=by
 obtain ⟨m,base,cap,he,hle,hv⟩:=t
 obtain ⟨c',hc',hl⟩:=h.e k _ he
 cases c' with
 | box b o l=>simp [CLe] at hl
 | obj r=>simp [CLe] at hl
 | bld b g=>simp [CLe] at hl
 | tail m' base' cap'=>
  obtain ⟨h1,h2⟩:=hl
  refine ⟨m',base',cap',hc',by omega,fun e=>?_⟩
  obtain ⟨e1,e2⟩:=h2 (by omega)
  rw [←e1]
  exact hv (by omega)
theorem V.ext {Ω Ω':Om} (h:Ext Ω Ω') {a:AV} {v:Value} (hv:V Ω a v):V Ω' a v:=by
 induction hv with
 | undef v=>exact .undef v
 | int k n h1 h2=>exact .int k n h1 h2
 | bool b=>exact .bool b
 | str s hs=>exact .str s hs
 | lstNil τ o ht=>exact .lstNil τ o (ht.ext h)
 | lstVoid τ a=>exact .lstVoid τ a
 | lst τ xs o b off cap vals h1 h2 h3 h4 h5 ih=>
  exact .lst τ xs o b off cap vals h1 h2 (h3.ext h)
   (fun i x hx j c hc=>⟨h.pub _ _ (h4 i x hx j c hc).1,(h.cell _ _ (h4 i x hx j c hc).1).trans (h4 i x hx j c hc).2⟩) ih
 | nils=>exact .nils
 | ptr id off b o len he=>
  obtain ⟨c',hc',hl⟩:=h.e id _ he
  exact .ptr id off b o len (by rw [hc',hl.box])
 | ptNone n=>exact .ptNone n
 | ptSome n x v _ ih=>exact .ptSome n x v ih
 | arr id n w b len cap a he h1 h2 h3 h4=>
  obtain ⟨c',hc',hl⟩:=h.e id _ he
  exact .arr id n w b len cap a (by rw [hc',hl.box]) h1 h2 h3 h4
 | aptr id i w off b o len he=>
  obtain ⟨c',hc',hl⟩:=h.e id _ he
  exact .aptr id i w off b o len (by rw [hc',hl.box])
 | map id r he=>
  obtain ⟨c',hc',hl⟩:=h.e id _ he
  exact .map id r (by rw [hc',hl.obj])
 | bptr id b g he=>
  obtain ⟨c',hc',hl⟩:=h.e id _ he
  obtain ⟨g',rfl⟩:=hl.bld
  exact .bptr id b g' hc'
 | iface t a v _ ih=>exact .iface t a v ih
 | nilif=>exact .nilif
 | lstp τ xs k b off cap vals h1 h2 h3 h4 h5 ih=>
  exact .lstp τ xs k b off cap vals h1 h2 (h3.ext h)
   (fun i x hx j c hc=>⟨h.pub _ _ (h4 i x hx j c hc).1,(h.cell _ _ (h4 i x hx j c hc).1).trans (h4 i x hx j c hc).2⟩) ih
 | tptr τ n k p hp=>exact .tptr τ n k p (hp.ext h)
 | st n x v _ ih=>exact .st n x v ih
 | cptr cs b off vals h1 h2 ih=>
  exact .cptr cs b off vals (fun j c hc=>⟨h.pub _ _ (h1 j c hc).1,(h.cell _ _ (h1 j c hc).1).trans (h1 j c hc).2⟩) ih
 | nilp=>exact .nilp
 | agg cs vs hl _ ih=>exact .agg cs vs hl ih
 | tup cs vs hl _ ih=>exact .tup cs vs hl ih
 | fn f cs vs hl _ ih=>exact .fn f cs vs hl ih
theorem VL.ext {Ω Ω':Om} (h:Ext Ω Ω') {cs:List AV} {vs:List Value} (hv:VL Ω cs vs):VL Ω' cs vs:=
 ⟨hv.1,fun j c v hc hw=>(hv.2 j c v hc hw).ext h⟩
theorem VL.nil {Ω:Om}:VL Ω [] []:=⟨rfl,fun _ _ _ h=>by simp at h⟩
theorem VL.cons {Ω:Om} {c:AV} {cs:List AV} {v:Value} {vs:List Value} (h:V Ω c v) (hs:VL Ω cs vs):VL Ω (c ::cs) (v ::vs):=by
 refine ⟨by simp [hs.1],fun j d u hd hu=>?_⟩
 cases j with
 | zero=>simp at hd hu;subst hd hu;exact h
 | succ j=>simp at hd hu;exact hs.2 j d u hd hu
theorem VL.head {Ω:Om} {c:AV} {cs:List AV} {v:Value} {vs:List Value} (h:VL Ω (c ::cs) (v ::vs)):V Ω c v:=h.2 0 c v rfl rfl
theorem VL.tail {Ω:Om} {c:AV} {cs:List AV} {v:Value} {vs:List Value} (h:VL Ω (c ::cs) (v ::vs)):VL Ω cs vs:=
 ⟨by have:=h.1;simp at this;exact this,fun j d u hd hu=>h.2 (j+1) d u (by simpa using hd) (by simpa using hu)⟩
theorem VL.cases {Ω:Om} {cs:List AV} {vs:List Value} (h:VL Ω cs vs) :
  (cs=[]/\vs=[])∨∃c cs' v vs',cs=c ::cs'/\vs=v ::vs'/\V Ω c v/\VL Ω cs' vs':=by
 cases cs with
 | nil=>left;exact ⟨rfl,List.eq_nil_of_length_eq_zero (by rw [←h.1];rfl)⟩
 | cons c cs=>
  cases vs with
  | nil=>exact absurd h.1 (by simp)
  | cons v vs=>exact Or.inr ⟨c,cs,v,vs,rfl,rfl,h.head,h.tail⟩
theorem VL.append {Ω:Om} {cs ds:List AV} {vs us:List Value} (h:VL Ω cs vs) (k:VL Ω ds us):VL Ω (cs++ds) (vs++us):=by
 refine ⟨by simp [h.1,k.1],fun j c v hc hv=>?_⟩
 by_cases hj:j < cs.length
 ·rw [List.getElem?_append_left hj] at hc
  rw [List.getElem?_append_left (by rw [←h.1];exact hj)] at hv
  exact h.2 j c v hc hv
 ·rw [List.getElem?_append_right (by omega)] at hc
  rw [List.getElem?_append_right (by rw [←h.1];omega),←h.1] at hv
  exact k.2 _ c v hc hv
theorem V.agg_inv {Ω:Om} {cs:List AV} {v:Value} (h:V Ω (.agg cs) v):∃vs,v=.agg vs.toArray/\VL Ω cs vs:=by
 cases h with
 | agg _ vs h1 h2=>exact ⟨vs,rfl,h1,h2⟩
theorem V.tup_inv {Ω:Om} {cs:List AV} {v:Value} (h:V Ω (.tup cs) v):∃vs,v=.tuple vs.toArray/\VL Ω cs vs:=by
 cases h with
 | tup _ vs h1 h2=>exact ⟨vs,rfl,h1,h2⟩
theorem V.of_agg {Ω:Om} {cs:List AV} {vs:List Value} (h:VL Ω cs vs):V Ω (.agg cs) (.agg vs.toArray):=.agg cs vs h.1 h.2
theorem V.of_tup {Ω:Om} {cs:List AV} {vs:List Value} (h:VL Ω cs vs):V Ω (.tup cs) (.tuple vs.toArray):=.tup cs vs h.1 h.2
theorem bn (τ:Ty) (x:den τ):(cells τ x).length=ac τ:=by
 cases τ with
 | st n=>cases n <;> rfl
 | _=>rfl
theorem pJ (τ:Ty) (x:den τ):(cells τ x).all lF=true:=by
 cases τ with
 | st n=>cases n <;> rfl
 | _=>rfl
theorem bO (τ:Ty):∀xs:List (den τ),(bg τ xs).length=xs.length *ac τ
 | []=>by simp [bg]
 | x ::xs=>by
  have:=bO τ xs
  simp only [bg,List.flatMap_cons,List.length_append,bn,List.length_cons] at this ⊢
  rw [this,Nat.add_mul]
  omega
theorem jc (τ:Ty):0 < ac τ:=by
 cases τ with
 | st n=>cases n <;> simp [ac]
 | _=>simp [ac]
theorem ir (τ:Ty):∀(xs:List (den τ)) (i:Nat) (x:den τ) (j:Nat) (c:AV),xs[i]?=some x→(cells τ x)[j]?=some c→(bg τ xs)[i *ac τ+j]?=some c
 | [],i,x,j,c,h,_=>by simp at h
 | y ::ys,0,x,j,c,h,hc=>by
  simp at h
  subst h
  have hj:j < (cells τ y).length:=by
   rcases Nat.lt_or_ge j (cells τ y).length with k | k
   ·exact k
   ·rw [List.getElem?_eq_none k] at hc;cases hc
  simp only [bg,List.flatMap_cons,Nat.zero_mul,Nat.zero_add]
  rw [List.getElem?_append_left hj]
  exact hc
 | y ::ys,i+1,x,j,c,h,hc=>by
  simp at h
  have:=ir τ ys i x j c h hc
  simp only [bg,List.flatMap_cons] at this ⊢
  rw [List.getElem?_append_right (by rw [bn,Nat.add_mul];omega),bn]
  rw [show (i+1) *ac τ+j - ac τ=i *ac τ+j from by rw [Nat.add_mul];omega]
  exact this
theorem fh (τ:Ty) (xs ys:List (den τ)):bg τ (xs++ys)=bg τ xs++bg τ ys:=by simp [bg]
theorem Aq (τ:Ty) (xs:List (den τ)):(bg τ xs).all lF=true:=by
 simp only [bg,List.all_flatMap]
 exact List.all_eq_true.2 fun x _=>pJ τ x
theorem V.parts {Ω:Om} {a:AV} {v:Value} (h:V Ω a v) (hl:(aa a).all lF=true):VL Ω (aa a) v.cells.toList:=by
 cases h with
 | agg cs vs h1 h2=>exact ⟨h1,h2⟩
 | undef v=>simp [aa,lF] at hl
 | tup cs vs h1 h2=>simp [aa,lF] at hl
 | int k n h1 h2=>exact VL.cons (.int k n h1 h2) .nil
 | bool b=>exact VL.cons (.bool b) .nil
 | str s hs=>exact VL.cons (.str s hs) .nil
 | lstNil τ o ht=>exact VL.cons (.lstNil τ o ht) .nil
 | lstVoid τ a=>exact VL.cons (.lstVoid τ a) .nil
 | lst τ xs o b off cap vals h1 h2 h3 h4 h5=>exact VL.cons (.lst τ xs o b off cap vals h1 h2 h3 h4 h5) .nil
 | nils=>exact VL.cons .nils .nil
 | ptr id off b o len hb=>exact VL.cons (.ptr id off b o len hb) .nil
 | ptNone n=>exact VL.cons (.ptNone n) .nil
 | ptSome n x v hv=>
  have hv':=hv
  cases hv with
  | cptr _ b off vals h1 h2=>exact VL.cons (.ptSome n x _ hv') .nil
 | arr id n w b len cap a h1 h2 h3 h4 h5=>exact VL.cons (.arr id n w b len cap a h1 h2 h3 h4 h5) .nil
 | aptr id i w off b o len h1=>exact VL.cons (.aptr id i w off b o len h1) .nil
 | map id r h1=>exact VL.cons (.map id r h1) .nil
 | bptr id b g h1=>exact VL.cons (.bptr id b g h1) .nil
 | iface t a v hv=>exact VL.cons (.iface t a v hv) .nil
 | nilif=>exact VL.cons .nilif .nil
 | lstp τ xs k b off cap vals h1 h2 h3 h4 h5=>exact VL.cons (.lstp τ xs k b off cap vals h1 h2 h3 h4 h5) .nil
 | tptr τ n k p hp=>exact VL.cons (.tptr τ n k p hp) .nil
 | cptr cs b off vals h1 h2=>exact VL.cons (.cptr cs b off vals h1 h2) .nil
 | st n x v h1=>
  obtain ⟨vs,rfl,hv⟩:=h1.agg_inv
  exact hv
 | nilp=>exact VL.cons .nilp .nil
 | fn f cs vs h1 h2=>exact VL.cons (.fn f cs vs h1 h2) .nil
theorem V.leaf_one {Ω:Om} {a:AV} {v:Value} (h:V Ω a v) (hl:lF a=true):v.oneCell'=true:=by
 cases h with
 | ptSome n x v hv=>cases hv;rfl
 | undef v=>cases hl
 | agg cs vs h1 h2=>cases hl
 | tup cs vs h1 h2=>cases hl
 | st n x v h1=>cases hl
 | _=>rfl
theorem VL.leaf_one {Ω:Om} {cs:List AV} {vs:List Value} (h:VL Ω cs vs) (hl:cs.all lF=true):∀v∈vs,v.oneCell'=true:=by
 intro v hv
 obtain ⟨j,hj,e⟩:=List.mem_iff_getElem.1 hv
 have hj':j < cs.length:=by rw [h.1];exact hj
 have hc:cs[j]?=some cs[j]:=List.getElem?_eq_getElem hj'
 have hw:vs[j]?=some v:=by rw [List.getElem?_eq_getElem hj,e]
 exact (h.2 j _ _ hc hw).leaf_one (List.all_eq_true.1 hl _ (List.getElem_mem hj'))
end Go.AL
end
section
namespace Go.AL
structure AS where
 T:Nat→AV
 B:Nat→Option SObj
def St.abs (s:St):AS:=⟨bD s.t,ax s.b⟩
def occ:CObj→Nat→Nat→Prop
 | .box b off len,b',o=>b'=b/\off<=o/\o < off+len
 | .tail _ base _,b',_=>base=some b'
 | .obj r,b',_=>b'=r
 | .bld b g,b',_=>b'=b∨g=some b'
class Tabs where
 tab:Nat→Nat→Value→Prop
abbrev tc:Tabs:=⟨fun _ _ _=>False⟩
variable [Tabs]
def iY (w:World) (pub:Nat→Nat→Prop):Prop:=∀b o v,Tabs.tab b o v→pub b o/\w.cell? ⟨b,o,none⟩=some v
structure Fr where
 w0:World
 pub0:Nat→Nat→Prop
 n:Nat
 e0:Nat→Option CObj
 dom0:∀id c,e0 id=some c→cD id=true
 ds:List Deferred
 tab0:iY w0 pub0
def lZ (e:Nat→Option CObj) (b o:Nat):Prop:=∃id c,e id=some c/\occ c b o
def Fr.br (F:Fr) (b o:Nat):Prop:=lZ F.e0 b o
def Fr.own (F:Fr) (b o:Nat):Prop:=F.w0.heap.size<=b∨F.br b o
structure MapOK (Ω:Om) (κ τ:Ty) (m:List (den κ × den τ)) (es:Array MapEntry) (clock:Nat):Prop where
 size:es.size=m.length
 ent:∀(i:Nat) (e:MapEntry) (x:den κ × den τ),es[i]?=some e→m[i]?=some x→V Ω (inj κ x.1) e.key/\V Ω (inj τ x.2) e.val
 keys:(m.map (·.1)).Nodup
 born:∀(i:Nat) (e:MapEntry),es[i]?=some e→e.born < clock
 rise:∀(i j:Nat) (e f:MapEntry),es[i]?=some e→es[j]?=some f→i < j→e.born < f.born
def rY (w:World) (t u b:Nat) (g:Option Nat) (l:Str):Prop:=
 ∃p v,w.heap[b]?=some (.cells #[p,v] t (0,0))/\(p=.pointer none∨p=.pointer (some ⟨b,0,none⟩))/\v.ownBlock=g/\g≠some b/\w.ownsRowF 0 u 1 v l.length (Lib.byteCells l)/\(l=[]→v=.slice none 0 0)
theorem rY.congr {w w':World} {t u b:Nat} {g:Option Nat} {l:Str} (h:rY w t u b g l) (hb:∀b',(b'=b∨g=some b')→w'.heap[b']?=w.heap[b']?):rY w' t u b g l:=by
 obtain ⟨p,v,h1,h2,h3,h4,⟨h5,h6⟩,h7⟩:=h
 refine ⟨p,v,by rw [hb b (.inl rfl),h1],h2,h3,h4,⟨h5,?_⟩,h7⟩
 rcases h6 with h6 | ⟨g',cap,cur,fz,rfl,k1,k2,k3⟩
 ·exact .inl h6
 ·refine .inr ⟨g',cap,cur,fz,rfl,k1,?_,k3⟩
  rw [hb g' (.inr (by rw [←h3];rfl)),k2]
theorem rY.lt {w:World} {t u b:Nat} {g:Option Nat} {l:Str} (h:rY w t u b g l) {b':Nat} (hb:b'=b∨g=some b'):b' < w.heap.size:=by
 obtain ⟨p,v,h1,h2,h3,h4,h5,_⟩:=h
 rcases hb with rfl | hb
 ·exact (Array.getElem?_eq_some_iff.1 h1).1
 ·exact (h5.lt b' (by rw [h3,hb])).2
def bv (Ω:Om) (own:Nat→Nat→Prop) (id:Nat):SObj→Prop
 | .box c=>∃b off,Ω.e id=some (.box b off (aa c).length)/\∀(j:Nat) (c':AV),(aa c)[j]?=some c'→
   own b (off+j)/\¬Ω.pub b (off+j)/\Ω.w.frozen? ⟨b,off+j,none⟩=false/\∃v,Ω.w.cell? ⟨b,off+j,none⟩=some v/\V Ω c' v
 | .tail τ n=>∃base cap,Ω.e id=some (.tail n base cap)/\n<=cap/\cap<=ck/\
   (base=none→cap=0)/\
   ∀b,base=some b→(∀o,own b o)/\∃vs ty fz,Ω.w.heap[b]?=some (.cells vs ty fz)/\fz.2<=n *ac τ/\cap *ac τ<=vs.size/\∀o,n *ac τ<=o→¬Ω.pub b o
 | .map κ τ m=>∃r,Ω.e id=some (.obj r)/\(∀o,own r o)/\∃es clock,Ω.w.heap[r]?=some (.map es clock)/\MapOK Ω κ τ m es clock
 | .tailp τ n x=>∃b cap,Ω.e id=some (.tail (n+1) (some b) cap)/\n+1<=cap/\cap<=ck/\(∀o,own b o)/\
   (∃vs ty fz,Ω.w.heap[b]?=some (.cells vs ty fz)/\fz.2<=n *ac τ/\cap *ac τ<=vs.size)/\(∀o,n *ac τ<=o→¬Ω.pub b o)/\
   ∀(j:Nat) (c:AV),(cells τ x)[j]?=some c→∃v,Ω.w.cell? ⟨b,n *ac τ+j,none⟩=some v/\V Ω c v
 | .bld t u l=>∃b g,Ω.e id=some (.bld b g)/\(∀b',(b'=b∨g=some b')→∀o,own b' o/\¬Ω.pub b' o)/\rY Ω.w t u b g l
structure FrameOK (F:Fr) (Ω:Om):Prop where
 os:Ω.w.os=F.w0.os
 tape:Ω.w.tape=F.w0.tape
 output:Ω.w.output=F.w0.output
 size:F.w0.heap.size<=Ω.w.heap.size
 block:∀b,b < F.w0.heap.size→(∀o,¬F.br b o)→Ω.w.heap[b]?=F.w0.heap[b]?
 cell:∀b o,b < F.w0.heap.size→¬F.br b o→Ω.w.cell? ⟨b,o,none⟩=F.w0.cell? ⟨b,o,none⟩
 kind:∀b,b < F.w0.heap.size→¬(∀o,F.br b o)→Ω.w.shape? b=F.w0.shape? b/\∀o,Ω.w.frozen? ⟨b,o,none⟩=F.w0.frozen? ⟨b,o,none⟩
 pub:∀b o,Ω.pub b o→F.pub0 b o∨F.own b o
 old:∀b o,F.pub0 b o→Ω.pub b o
 pcell:∀b o,F.pub0 b o→Ω.w.cell? ⟨b,o,none⟩=F.w0.cell? ⟨b,o,none⟩
structure Holds (F:Fr) (s:AS) (a:Act) (Ω:Om):Prop where
 tmps:∀i,V Ω (s.T i) (a.tmps.getD i undef)
 size:a.tmps.size=F.n
 defers:a.defers=F.ds
 slots:∀id o,s.B id=some o→bv Ω F.own id o
 dom:∀id,s.B id=none→Ω.e id=none
 inj:∀i j c d b o,Ω.e i=some c→Ω.e j=some d→occ c b o→occ d b o→i=j
 pubok:∀b o,Ω.pub b o→∃v,Ω.w.cell? ⟨b,o,none⟩=some v
 keep:∀id c,F.e0 id=some c→∃c',Ω.e id=some c'/\CLe c c'
 frame:FrameOK F Ω
def cE (T:Nat→AV) (d:Option Nat) (v:AV):Nat→AV:=
 match d with
 | some d=>fun i=>if d=i then v else T i
 | none=>T
theorem Holds.tabs {F:Fr} {s:AS} {a:Act} {Ω:Om} (h:Holds F s a Ω):iY Ω.w Ω.pub:=
 fun b o v ht=>⟨h.frame.old _ _ (F.tab0 b o v ht).1,(h.frame.pcell _ _ (F.tab0 b o v ht).1).trans (F.tab0 b o v ht).2⟩
theorem Holds.step {F:Fr} {s:AS} {a:Act} {Ω Ω':Om} {B':Nat→Option SObj} {dst:Option Nat} {val:AV} {v:Value}
  (h:Holds F s a Ω) (hx:Ext Ω Ω') (hv:V Ω' val v) (hd:∀d,dst=some d→d < F.n)
  (hs:∀id o,B' id=some o→bv Ω' F.own id o) (hdom:∀id,B' id=none→Ω'.e id=none)
  (hinj:∀i j c d b o,Ω'.e i=some c→Ω'.e j=some d→occ c b o→occ d b o→i=j)
  (hp:∀b o,Ω'.pub b o→∃v,Ω'.w.cell? ⟨b,o,none⟩=some v) (hf:FrameOK F Ω') :
  Holds F ⟨cE s.T dst val,B'⟩ (a.put dst v) Ω':=by
 refine ⟨fun i=>?_,?_,?_,hs,hdom,hinj,hp,fun id c hc=>let ⟨c1,h1,l1⟩:=h.keep id c hc;let ⟨c2,h2,l2⟩:=hx.e id c1 h1;⟨c2,h2,l1.trans l2⟩,hf⟩
 ·cases dst with
  | none=>exact (h.tmps i).ext hx
  | some d=>
   simp only [cE,Act.put]
   have hdn:=hd d rfl
   by_cases hi:d=i
   ·subst hi
    rw [if_pos rfl]
    have:(a.tmps.setIfInBounds d v).getD d undef=v:=by
     simp [Array.getD_eq_getD_getElem?,h.size,hdn]
    rw [this]
    exact hv
   ·rw [if_neg hi]
    have:(a.tmps.setIfInBounds d v).getD i undef=a.tmps.getD i undef:=by
     simp [Array.getD_eq_getD_getElem?,hi]
    rw [this]
    exact (h.tmps i).ext hx
 ·cases dst <;> simp [Act.put,h.size]
 ·cases dst <;> simp [Act.put,h.defers]
theorem Holds.pure {F:Fr} {s:AS} {a:Act} {Ω:Om} {dst:Option Nat} {val:AV} {v:Value}
  (h:Holds F s a Ω) (hv:V Ω val v) (hd:∀d,dst=some d→d < F.n):Holds F ⟨cE s.T dst val,s.B⟩ (a.put dst v) Ω:=
 h.step (Ext.refl Ω) hv hd h.slots h.dom h.inj h.pubok h.frame
theorem de {w:World} {b:Nat} {o:Obj} (h:w.heap[b]?=some o):b < w.heap.size:=by
 rcases Nat.lt_or_ge b w.heap.size with k | k
 ·exact k
 ·rw [Array.getElem?_eq_none k] at h;cases h
theorem bd {w:World} {b o:Nat} {v:Value} (h:w.cell? ⟨b,o,none⟩=some v):b < w.heap.size:=World.block_lt_of_cell? w ⟨b,o,none⟩ h
theorem ay {w w':World} {b:Nat} (h:w'.heap[b]?=w.heap[b]?) (o:Nat):w'.cell? ⟨b,o,none⟩=w.cell? ⟨b,o,none⟩:=by
 simp [World.cell?,h]
theorem ba {w w':World} {b:Nat} (h:w'.heap[b]?=w.heap[b]?) (o:Nat):w'.frozen? ⟨b,o,none⟩=w.frozen? ⟨b,o,none⟩:=by
 simp [World.frozen?,h]
theorem bA {w w':World} {b:Nat} (h:w'.heap[b]?=w.heap[b]?):w'.shape? b=w.shape? b:=by
 simp [World.shape?,h]
theorem aM {w:World} {b:Nat} {vs:Array Value} {ty:Nat} {fz:Nat × Nat} (h:w.heap[b]?=some (.cells vs ty fz)) (o:Nat) :
  w.cell? ⟨b,o,none⟩=vs[o]?:=by
 simp [World.cell?,h]
theorem eZ {w:World} {b:Nat} {vs:Array Value} {ty:Nat} (h:w.heap[b]?=some (.cells vs ty (0,0))) (o:Nat) :
  w.frozen? ⟨b,o,none⟩=false:=by
 simp [World.frozen?,h]
theorem Holds.blk {F:Fr} {s:AS} {a:Act} {Ω:Om} (h:Holds F s a Ω) {id b o:Nat} {c:CObj} (hc:Ω.e id=some c) (hb:occ c b o):b < Ω.w.heap.size:=by
 cases hB:s.B id with
 | none=>rw [h.dom id hB] at hc;cases hc
 | some ob=>
  have hs:=h.slots id ob hB
  cases ob with
  | box x=>
   obtain ⟨b',off,he,hh⟩:=hs
   rw [he] at hc
   simp only [Xs] at hc
   subst hc
   obtain ⟨rfl,h1,h2⟩:=hb
   have hj:o - off < (aa x).length:=by omega
   obtain ⟨_,_,_,v,hv,_⟩:=hh (o - off) _ (List.getElem?_eq_getElem hj)
   exact bd hv
  | tail τ n=>
   obtain ⟨base,cap,he,_,_,_,hb'⟩:=hs
   rw [he] at hc
   simp only [Xs] at hc
   subst hc
   obtain ⟨_,vs,ty,fz,hh,_⟩:=hb' b hb
   exact de hh
  | map κ τ m=>
   obtain ⟨r,he,_,es,clock,hh,_⟩:=hs
   rw [he] at hc
   simp only [Xs] at hc
   subst hc
   have:b=r:=hb
   subst this
   exact de hh
  | bld t u l=>
   obtain ⟨b0,g,he,_,hh⟩:=hs
   rw [he] at hc
   simp only [Xs] at hc
   subst hc
   exact hh.lt hb
  | tailp τ n x=>
   obtain ⟨b0,cap,he,_,_,_,⟨vs,ty,fz,hh,_⟩,_⟩:=hs
   rw [he] at hc
   simp only [Xs] at hc
   subst hc
   have:b0=b:=by simpa [occ] using hb
   subst this
   exact de hh
def mL (Ω Ω':Om):CObj→Prop
 | .box b off len=>∀o,off<=o→o < off+len→Ω'.w.cell? ⟨b,o,none⟩=Ω.w.cell? ⟨b,o,none⟩/\Ω'.w.frozen? ⟨b,o,none⟩=Ω.w.frozen? ⟨b,o,none⟩/\(Ω'.pub b o→Ω.pub b o)
 | .tail _ base _=>∀b,base=some b→Ω'.w.heap[b]?=Ω.w.heap[b]?/\∀o,Ω'.pub b o→Ω.pub b o
 | .obj r=>Ω'.w.heap[r]?=Ω.w.heap[r]?
 | .bld b g=>∀b',(b'=b∨g=some b')→Ω'.w.heap[b']?=Ω.w.heap[b']?/\∀o,Ω'.pub b' o→Ω.pub b' o
theorem mL.of_blocks {Ω Ω':Om} {c:CObj} (h:∀b o,occ c b o→Ω'.w.heap[b]?=Ω.w.heap[b]?/\∀o,Ω'.pub b o→Ω.pub b o):mL Ω Ω' c:=by
 cases c with
 | box b off len=>
  intro o h1 h2
  obtain ⟨k1,k2⟩:=h b o ⟨rfl,h1,h2⟩
  exact ⟨ay k1 o,ba k1 o,k2 o⟩
 | tail n base cap=>exact fun b hb=>h b 0 hb
 | obj r=>exact (h r 0 rfl).1
 | bld b g=>exact fun b' hb=>h b' 0 hb
theorem MapOK.ext {Ω Ω':Om} (hx:Ext Ω Ω') {κ τ:Ty} {m:List (den κ × den τ)} {es:Array MapEntry} {clock:Nat} (h:MapOK Ω κ τ m es clock):MapOK Ω' κ τ m es clock:=
 ⟨h.size,fun i e x he hx'=>⟨(h.ent i e x he hx').1.ext hx,(h.ent i e x he hx').2.ext hx⟩,h.keys,h.born,h.rise⟩
theorem bv.keep {Ω Ω':Om} {own:Nat→Nat→Prop} {id:Nat} {o:SObj} (h:bv Ω own id o) (hx:Ext Ω Ω') (he:Ω'.e id=Ω.e id)
  (hk:∀c,Ω.e id=some c→mL Ω Ω' c):bv Ω' own id o:=by
 cases o with
 | box c=>
  obtain ⟨b,off,h1,h2⟩:=h
  refine ⟨b,off,by rw [he,h1],fun j c' hc=>?_⟩
  obtain ⟨q1,q2,q3,v,q4,q5⟩:=h2 j c' hc
  have hj:j < (aa c).length:=by
   rcases Nat.lt_or_ge j (aa c).length with k | k
   ·exact k
   ·rw [List.getElem?_eq_none k] at hc;cases hc
  obtain ⟨k1,k2,k3⟩:=hk _ h1 (off+j) (by omega) (by omega)
  exact ⟨q1,fun hp=>q2 (k3 hp),by rw [k2,q3],v,by rw [k1,q4],q5.ext hx⟩
 | tail τ n=>
  obtain ⟨base,cap,h1,h2,h3,h4,h5⟩:=h
  refine ⟨base,cap,by rw [he,h1],h2,h3,h4,fun b hbb=>?_⟩
  obtain ⟨o1,vs,ty,fz,o2,of,o3,o4⟩:=h5 b hbb
  obtain ⟨k1,k2⟩:=hk _ h1 b hbb
  exact ⟨o1,vs,ty,fz,by rw [k1,o2],of,o3,fun o ho hp=>o4 o ho (k2 o hp)⟩
 | map κ τ m=>
  obtain ⟨r,h1,h2,es,clock,h3,h4⟩:=h
  have k1:Ω'.w.heap[r]?=Ω.w.heap[r]?:=hk _ h1
  exact ⟨r,by rw [he,h1],h2,es,clock,by rw [k1,h3],h4.ext hx⟩
 | bld t u l=>
  obtain ⟨b,g,h1,h2,h3⟩:=h
  exact ⟨b,g,by rw [he,h1],fun b' hb o=>⟨(h2 b' hb o).1,fun hp=>(h2 b' hb o).2 ((hk _ h1 b' hb).2 o hp)⟩,h3.congr fun b' hb=>(hk _ h1 b' hb).1⟩
 | tailp τ n x=>
  obtain ⟨b,cap,h1,h2,h3,h4,⟨vs,ty,fz,o2,of,o3⟩,h6,h7⟩:=h
  obtain ⟨k1,k2⟩:=hk _ h1 b rfl
  refine ⟨b,cap,by rw [he,h1],h2,h3,h4,⟨vs,ty,fz,by rw [k1,o2],of,o3⟩,fun o ho hp=>h6 o ho (k2 o hp),fun j c hc=>?_⟩
  obtain ⟨v,g1,g2⟩:=h7 j c hc
  exact ⟨v,by rw [ay k1,g1],g2.ext hx⟩
theorem Holds.drew {F:Fr} {s:AS} {a:Act} {Ω:Om} (h:Holds F s a Ω):Holds F s a ⟨Ω.e,Ω.w.drew,Ω.pub⟩:=by
 have hx:Ext Ω ⟨Ω.e,Ω.w.drew,Ω.pub⟩:=⟨fun _ c hc=>⟨c,hc,CLe.refl c⟩,fun _ _ p=>p,fun _ _ _=>rfl⟩
 exact ⟨fun i=>(h.tmps i).ext hx,h.size,h.defers,fun id o ho=>(h.slots id o ho).keep hx rfl (fun _ _=>mL.of_blocks fun _ _ _=>⟨rfl,fun _ p=>p⟩),h.dom,h.inj,h.pubok,h.keep,
  ⟨h.frame.os,h.frame.tape,h.frame.output,h.frame.size,h.frame.block,h.frame.cell,h.frame.kind,h.frame.pub,h.frame.old,h.frame.pcell⟩⟩
def aZ (P:Program):TI→TypeDesc→Bool
 | .int k,.int k'=>decide (k=k')
 | .bool,.bool=>true
 | .str,.string=>true
 | .slice e,.slice e'=>Nat.beq e e'
 | .ptr e,.pointer e'=>Nat.beq e e'
 | .map k e,.map k' e'=>Nat.beq k k' && Nat.beq e e'
 | .strct _ fs,.struct fields=>
  (decide ((fields.toList.map fun f=>(f.offset,f.type))=fs)) && fields.toList.all fun f=>(match P.info? f.type with | some i=>!Nat.beq i.size 0 | none=>false) && !(f.name == "_")
 | .iface,.interface _=>true
 | .arr e n,.array n' e'=>Nat.beq e e' && Nat.beq n n'
 | .other,d=>match d with | .struct _ | .array .. | .interface _=>false | _=>true
 | _,_=>false
def xo:Value→Bool
 | .agg _=>true
 | _=>false
structure TRok (P:Program) (t:Nat) (r:TR):Prop where
 info:∃i z,P.info? t=some i/\i.size=r.size/\i.bytes=r.bytes/\i.zero=some z/\z.cells.toList.map ct=r.zero
 zlen:r.zero.length=r.size
 bpos:0 < r.size→0 < r.bytes
 desc:∃d,P.underlying t=some d/\aZ P r.ti d=true
 ty:∀τ,r.ty=some τ→ac τ=r.size/\EY τ=r.isAgg
 zagg:∀i z,P.info? t=some i→i.zero=some z→xo z=r.isAgg
 eqs:∀fs,r.ti=.strct true fs→P.stoodInHeld t=false/\P.eqGuardType P.depth t=false
theorem TRok.pos {P:Program} {t:Nat} {r:TR} (h:TRok P t r) {τ:Ty} (hτ:r.ty=some τ):0 < r.size:=by rw [←(h.ty τ hτ).1];exact jc τ
theorem TRok.bps {P:Program} {t:Nat} {r:TR} (h:TRok P t r) {τ:Ty} (hτ:r.ty=some τ):0 < r.bytes:=h.bpos (h.pos hτ)
def bH (P:Program) (tbl:List (Nat × TR)):Prop:=∀t r,aT tbl t=some r→TRok P t r
theorem Ar (k:IntKind) (n:Int) (h:okC k n=true):k.min<=n/\n<=k.max:=by
 cases n with
 | ofNat m=>
  simp only [okC,Nat.ble_eq] at h
  cases k <;> simp only [EZ,IntKind.min,IntKind.max,IntKind.signed,IntKind.bits] at h ⊢ <;> constructor <;> simp <;> omega
 | negSucc m=>
  cases k <;> simp only [okC,zA,Nat.ble_eq,if_true,if_false,Bool.false_eq_true,EZ,IntKind.min,IntKind.max,IntKind.signed,IntKind.bits] at h ⊢ <;> (try exact h.elim) <;> constructor <;> simp <;> omega
theorem fj {α:Type}:∀(l:List α) (n:Nat),mF l n=true→l.length<=n
 | [],_,_=>by simp
 | _ ::r,0,h=>by simp [mF] at h
 | _ ::r,n+1,h=>by simp only [mF] at h;have:=fj r n h;simp;omega
theorem cn {α:Type}:∀(l:List α) (n:Nat),gu l n=true→l.length=n
 | [],0,_=>rfl
 | [],n+1,h=>by simp [gu] at h
 | _ ::r,0,h=>by simp [gu] at h
 | _ ::r,n+1,h=>by simp only [gu] at h;simp [cn r n h]
theorem km {α:Type}:∀(l:List α) (n:Nat),nth l n=l[n]?
 | [],n=>by simp [nth]
 | a ::r,0=>rfl
 | a ::r,n+1=>by simp [nth,km r n]
theorem pK (Ω:Om) (v:Value):V Ω (ct v) v:=by
 unfold ct
 split
 ·split
  ·rename_i k n h
   obtain ⟨h1,h2⟩:=Ar k n h
   exact .int k n h1 h2
  ·exact .undef _
 ·exact .bool _
 ·split
  ·rename_i s h
   have hl:=fj _ _ h
   have:=V.str (Ω:=Ω) s.data.toList (by unfold ck;omega)
   simpa using this
  ·exact .undef _
 ·exact .nils
 ·exact .nilp
 ·exact .nilif
 ·exact .undef _
theorem F4 (Ω:Om) (v:Value):V Ω (mG v) v:=by
 unfold mG
 split
 ·rename_i cs
  refine V.of_agg (vs:=cs.toList) ⟨by simp,fun j c u hc hu=>?_⟩
  rw [List.getElem?_map,hu] at hc
  simp only [Option.map_some,Xs] at hc
  subst hc
  exact pK Ω u
 ·exact pK Ω v
theorem pL (Ω:Om) (vs:List Value):VL Ω (vs.map ct) vs:=by
 refine ⟨by simp,fun j c v hc hv=>?_⟩
 rw [List.getElem?_map,hv] at hc
 simp only [Option.map_some,Xs] at hc
 subst hc
 exact pK Ω v
theorem bC {F:Fr} {s:AS} {a:Act} {Ω:Om} (h:Holds F s a Ω) (x:Operand):V Ω (opd s.T x) (a.eval x):=by
 cases x with
 | tmp t=>exact h.tmps t
 | const v=>exact F4 Ω v
 | global g=>exact .undef _
 | func f=>exact .fn f [] [] rfl (fun j c v hc=>by simp at hc)
end Go.AL
end
section
namespace Go.AL
variable [Tabs]
def updB:(Nat→Option SObj)→List (Nat × SObj)→(Nat→Option SObj)
 | B,[]=>B
 | B,(i,o) ::r=>updB (fun j=>if i=j then some o else B j) r
def AS.put (s:AS) (d:Option Nat) (e:Eff):AS:=⟨cE s.T d e.val,updB s.B e.upd⟩
theorem aH {P:Program} {o:Oper} {a:Act} {w w':World} {next:Act→World→Prop} {Q:Exit→Act→World→Prop} {v:Value}
  (h:(execOp a.eval o).run P w=.ok (.value v) w') (hn:next (a.put o.dst v) w'):o.wp P a w next Q:=by
 unfold Oper.wp
 rw [h]
 exact hn
theorem ko {P:Program} {o:Oper} {a:Act} {w w':World} {next:Act→World→Prop} {Q:Exit→Act→World→Prop}
  (h:(execOp a.eval o).run P w=.ok .skip w') (hn:next (a.put o.dst undef) w'):o.wp P a w next Q:=by
 unfold Oper.wp
 rw [h]
 exact hn
theorem aV {P:Program} {w:World} {t:Nat} {d:TypeDesc} (h:P.underlying t=some d):(underlying t).run P w=.ok d w:=by
 simp [underlying,program,Sem.run,h]
theorem pM {P:Program} {w:World} {t:Nat} {i:TypeInfo} (h:P.info? t=some i):(typeInfo t).run P w=.ok i w:=by
 simp [typeInfo,program,Sem.run,h]
theorem dW {P:Program} {w:World} {t:Nat} {i:TypeInfo} (h:P.info? t=some i):(sizeOf t).run P w=.ok i.size w:=by
 simp [sizeOf,pM h]
theorem iu {P:Program} {w:World} {t:Nat} {i:TypeInfo} {z:Value} (h:P.info? t=some i) (hz:i.zero=some z) :
  (zeroValue t).run P w=.ok z w:=by
 simp [zeroValue,pM h,hz]
structure TF (P:Program) (t:Nat) (r:TR) where
 size:∀w,(sizeOf t).run P w=.ok r.size w
 agg:∀w,(isAgg t).run P w=.ok r.isAgg w
theorem TRok.tf {P:Program} {t:Nat} {r:TR} (h:TRok P t r):TF P t r:=by
 obtain ⟨i,z,h1,h2,h3,h4,h5⟩:=h.info
 obtain ⟨d,h6,h7⟩:=h.desc
 refine ⟨fun w=>by rw [dW h1,h2],fun w=>?_⟩
 simp only [isAgg,Sem.run_bind,aV h6,Result.andThen_ok]
 cases hti:r.ti <;> rw [hti] at h7 <;> cases d <;> simp [aZ] at h7 <;> simp [TR.isAgg,hti]
theorem ol:∀(cs:List AV) (n:Nat) (ds:List AV),lH cs n=some ds→n<=cs.length/\ds=cs.drop n
 | cs,0,ds,h=>by simp [lH] at h;simp [h]
 | [],n+1,ds,h=>by simp [lH] at h
 | c ::r,n+1,ds,h=>by
  simp only [lH] at h
  obtain ⟨h1,h2⟩:=ol r n ds h
  exact ⟨by simp;omega,by simp [h2]⟩
theorem om:∀(cs:List AV) (n:Nat) (ds:List AV),oi cs n=some ds→n<=cs.length/\ds=cs.take n
 | cs,0,ds,h=>by simp [oi] at h;simp [←h]
 | [],n+1,ds,h=>by simp [oi] at h
 | c ::r,n+1,ds,h=>by
  simp only [oi] at h
  split at h
  ·rename_i l hl
   obtain ⟨h1,h2⟩:=om r n l hl
   simp at h
   exact ⟨by simp;omega,by simp [←h,h2]⟩
  ·simp at h
theorem i9 {cs ds:List AV} {off n:Nat} (h:sub cs off n=some ds):off+n<=cs.length/\ds=(cs.drop off).take n:=by
 unfold sub at h
 split at h
 ·rename_i l hl
  obtain ⟨h1,h2⟩:=ol _ _ _ hl
  obtain ⟨h3,h4⟩:=om _ _ _ h
  subst h2
  simp at h3
  exact ⟨by omega,h4⟩
 ·simp at h
theorem VL.sub {Ω:Om} {cs ds:List AV} {vs:List Value} {off n:Nat} (h:VL Ω cs vs) (hs:sub cs off n=some ds) :
  VL Ω ds ((vs.drop off).take n):=by
 obtain ⟨h1,h2⟩:=i9 hs
 subst h2
 refine ⟨by simp [h.1],fun j c v hc hv=>?_⟩
 rw [List.getElem?_take] at hc hv
 split at hc
 ·rename_i hj
  rw [if_pos hj,List.getElem?_drop] at hv
  rw [List.getElem?_drop] at hc
  exact h.2 _ c v hc hv
 ·simp at hc
theorem uL {P:Program} {w:World} {t:Nat} {r:TR} (ht:TF P t r) {cs:List AV} {x:AV} (ho:dU r cs=some x) {Ω:Om}
  {b off:Nat} {vs:List Value} (hv:VL Ω cs vs) (hlen:cs.length=r.size) (hc:∀j v,vs[j]?=some v→w.cell? ⟨b,off+j,none⟩=some v) :
  ∃v,(loadVar t ⟨b,off,none⟩).run P w=.ok v w/\V Ω x v:=by
 unfold dU at ho
 simp only [loadVar,Sem.run_bind,ht.agg,Result.andThen_ok]
 split at ho
 ·rename_i hagg
  simp at ho
  subst ho
  refine ⟨.agg vs.toArray,?_,V.of_agg hv⟩
  rw [hagg]
  simp only [if_true,Sem.run_bind,ht.size,Result.andThen_ok]
  have:=run_loadCells_list (P:=P) w ⟨b,off,none⟩ vs (fun j v hj=>by
   have:=hc j v hj
   unfold Addr.add
   split
   ·rename_i h0;subst h0;simpa using this
   ·simpa using this)
  rw [←hlen,hv.1,this]
  simp
 ·rename_i hagg
  have hagg':r.isAgg=false:=by simpa using hagg
  rw [hagg']
  cases cs with
  | nil=>simp at ho
  | cons c cs=>
   cases cs with
   | cons _ _=>simp at ho
   | nil=>
    simp at ho
    subst ho
    cases vs with
    | nil=>exact absurd hv.1 (by simp)
    | cons v vs=>
     cases vs with
     | cons _ _=>exact absurd hv.1 (by simp)
     | nil=>
      refine ⟨v,?_,hv.head⟩
      have:=hc 0 v rfl
      simp only [Nat.add_zero] at this
      simp [this]
theorem zI {Ω:Om} {w:World} {b:Nat}:∀(cs:List AV) (off:Nat),(∀(j:Nat) (c:AV),cs[j]?=some c→∃v,w.cell? ⟨b,off+j,none⟩=some v/\V Ω c v)→
  ∃vs,VL Ω cs vs/\∀j v,vs[j]?=some v→w.cell? ⟨b,off+j,none⟩=some v
 | [],_,_=>⟨[],.nil,fun j v h=>by simp at h⟩
 | c ::cs,off,h=>by
  obtain ⟨v,h1,h2⟩:=h 0 c rfl
  obtain ⟨vs,h3,h4⟩:=zI (w:=w) (b:=b) cs (off+1) (fun j d hd=>by
   have:=h (j+1) d (by simpa using hd)
   rwa [show off+(j+1)=off+1+j by omega] at this)
  refine ⟨v ::vs,.cons h2 h3,fun j u hu=>?_⟩
  cases j with
  | zero=>simp at hu;subst hu;exact h1
  | succ j=>
   have:=h4 j u (by simpa using hu)
   rwa [show off+1+j=off+(j+1) by omega] at this
theorem As (l:List AV):oi l l.length=some l:=by
 induction l with
 | nil=>rfl
 | cons a l ih=>simp [oi,ih]
theorem uM {l ds:List AV} {off:Nat} (h:lH l off=some ds):sub l off ds.length=some ds:=by
 simp [sub,h,As]
theorem F5 (cs:List AV) (n:Nat) (hn:n=cs.length):sub cs 0 n=some cs:=by
 subst hn
 exact uM (by cases cs <;> rfl)
theorem kq {n m:SN} {off:Nat} {y:SD n} {z:SD m} (h:kg n off y=some (.st m z)):sub (cells (.st n) y) off (ac (.st m))=some (cells (.st m) z):=by
 cases n with
 | shape=>cases h
 | item=>
  match off,h with
  | 2,h=>
   simp only [kg,Xs] at h
   cases h
   rfl
 | change=>cases h
 | token=>cases h
 | fault=>cases h
 | term=>cases h
 | version=>cases h
 | bound=>
  match off,h with
  | 1,h=>
   simp only [kg,Xs] at h
   cases h
   rfl
 | imp=>
  match off,h with
  | 1,h=>
   simp only [kg,Xs] at h
   cases h
   rfl
 | decl=>
  match off,h with
  | 2,h=>
   simp only [kg,Xs] at h
   cases h
   rfl
  | 7,h=>
   simp only [kg,Xs] at h
   cases h
   rfl
 | modu=>cases h
 | bind=>
  match off,h with
  | 2,h=>
   simp only [kg,Xs] at h
   cases h
   rfl
 | env=>cases h
 | dep=>cases h
 | val=>cases h
 | cell=>
  match off,h with
  | 1,h=>
   simp only [kg,Xs] at h
   cases h
   rfl
 | op=>cases h
 | chunk=>cases h
 | usg=>cases h
 | nm=>cases h
 | stt=>cases h
 | par=>cases h
 | rstt=>cases h
theorem oq {P:Program} {t:Nat} {r:TR} (hr:TRok P t r) {c:AV} {off:Nat} {x:AV} (h:lI r c off=some x) :
  ∃ds z,sub (aa c) off r.size=some ds/\dU r ds=some z/\∀Ω v,V Ω z v→V Ω x v:=by
 have fO:∀{off:Nat},(match sub (aa c) off r.size with | some cs=>dU r cs | none=>none)=some x→
   ∃ds z,sub (aa c) off r.size=some ds/\dU r ds=some z/\∀Ω v,V Ω z v→V Ω x v:=by
  intro off h
  split at h
  ·rename_i cs hcs
   exact ⟨cs,x,hcs,h,fun _ _ h=>h⟩
  ·simp at h
 unfold lI at h
 split at h
 ·rename_i n y m hty
  obtain ⟨hw,ha⟩:=hr.ty _ hty
  split at h
  ·rename_i hnm
   subst hnm
   simp only [Xs] at h
   subst h
   refine ⟨cells (.st n) y,.agg (cells (.st n) y),F5 _ _ (by show r.size=(cells (.st n) y).length;rw [bn,hw]),?_,fun Ω v hv=>.st n y v hv⟩
   have ha':r.isAgg=true:=by rw [←ha];rfl
   simp [dU,ha']
  ·exact fO h
 ·rename_i n y o m hty
  obtain ⟨hw,ha⟩:=hr.ty _ hty
  have ha':r.isAgg=true:=by rw [←ha];rfl
  split at h
  ·rename_i m' z hz
   split at h
   ·rename_i hm
    subst hm
    simp only [Xs] at h
    subst h
    have hs:=kq hz
    rw [hw] at hs
    exact ⟨cells (.st _) z,.agg (cells (.st _) z),hs,by simp [dU,ha'],fun Ω v hv=>.st _ z v hv⟩
   ·simp at h
  ·exact fO h
 ·exact fO h
section
variable {P:Program} {C:Cfg} {F:Fr} {s:AS} {a:Act} {Ω:Om} {o:Oper} {eff:Eff} {next:Act→World→Prop} {Q:Exit→Act→World→Prop}
def cG (P:Program) (C:Cfg) (o:Oper):Prop:=
 ∀(F:Fr) (s:AS) (a:Act) (Ω:Om) (eff:Eff) (next:Act→World→Prop) (Q:Exit→Act→World→Prop),
  Holds F s a Ω→(∀d,o.dst=some d→d < F.n)→aG C o s.T s.B=some eff→eff.asks→
  (∀a' Ω',Holds F (s.put o.dst eff) a' Ω'→next a' Ω'.w)→o.wp P a Ω.w next Q
theorem cG.pure (hv:∀(F:Fr) (s:AS) (a:Act) (Ω:Om) (eff:Eff),Holds F s a Ω→aG C o s.T s.B=some eff→eff.asks→
  eff.upd=[]/\∃v,(execOp a.eval o).run P Ω.w=.ok (.value v) Ω.w/\V Ω eff.val v):cG P C o:=by
 intro F s a Ω eff next Q h hd he ho hn
 obtain ⟨h1,v,h2,h3⟩:=hv F s a Ω eff h he ho
 refine aH h2 (hn _ _ ?_)
 have:=h.pure h3 hd
 simpa [AS.put,h1,updB] using this
theorem F6 {x:Operand} (hop:o.op=.move x):cG P C o:=by
 refine cG.pure fun F s a Ω eff h he ho=>?_
 simp only [aG,hop,Xs] at he
 subst he
 exact ⟨rfl,_,by simp [execOp,hop],bC h x⟩
theorem At {x:Operand} (hop:o.op=.assign x):cG P C o:=by
 refine cG.pure fun F s a Ω eff h he ho=>?_
 simp only [aG,hop,Xs] at he
 subst he
 exact ⟨rfl,_,by simp [execOp,hop],bC h x⟩
theorem V.bool_inv {Ω:Om} {b:Bool} {v:Value} (h:V Ω (.bool b) v):v=.bool b:=by cases h;rfl
theorem V.int_inv {Ω:Om} {k:IntKind} {n:Int} {v:Value} (h:V Ω (.int k n) v):v=.int k n/\k.min<=n/\n<=k.max:=by cases h;exact ⟨rfl,by assumption,by assumption⟩
theorem V.str_inv {Ω:Om} {s:Str} {v:Value} (h:V Ω (.str s) v):v=.string ⟨s.toArray⟩/\s.length<=ck:=by cases h;exact ⟨rfl,by assumption⟩
theorem V.nils_inv {Ω:Om} {v:Value} (h:V Ω .nils v):v=.slice none 0 0:=by cases h;rfl
theorem V.ptr_inv {Ω:Om} {i off:Nat} {v:Value} (h:V Ω (.ptr i off) v):∃b o len,v=.pointer (some ⟨b,o+off,none⟩)/\Ω.e i=some (.box b o len):=by
 cases h;exact ⟨_,_,_,rfl,by assumption⟩
theorem F7 {c x y:Operand} (hop:o.op=.pick c x y):cG P C o:=by
 refine cG.pure fun F s a Ω eff h he ho=>?_
 simp only [aG,hop] at he
 split at he
 ·rename_i b hb
  simp only [Xs] at he
  subst he
  have hc:=bC h c
  rw [hb] at hc
  have hc:=hc.bool_inv
  cases b
  ·exact ⟨rfl,_,by simp [execOp,hop,hc,asBool],bC h y⟩
  ·exact ⟨rfl,_,by simp [execOp,hop,hc,asBool],bC h x⟩
 ·simp at he
theorem iN (hT:bH P C.tbl) {t:Nat} {r:TR} (hr:aT C.tbl t=some r) {Ω:Om} {w:World} {c x:AV} {b o' off:Nat} (hl:lI r c off=some x)
  (hc:∀(j:Nat) (c':AV),(aa c)[j]?=some c'→∃v,w.cell? ⟨b,o'+j,none⟩=some v/\V Ω c' v) :
  ∃v,(loadVar t ⟨b,o'+off,none⟩).run P w=.ok v w/\V Ω x v:=by
 obtain ⟨ds,z,h1,h2,h3⟩:=oq (hT t r hr) hl
 obtain ⟨vs,h4,h5⟩:=zI _ _ hc
 obtain ⟨s1,s2⟩:=i9 h1
 obtain ⟨v,h6,h7⟩:=uL (w:=w) (hT t r hr).tf h2 (h4.sub h1) (b:=b) (off:=o'+off) (by rw [s2];simp;omega) (fun j u hj=>by
  rw [List.getElem?_take] at hj
  split at hj
  ·rw [List.getElem?_drop] at hj
   have:=h5 _ _ hj
   rwa [←Nat.add_assoc] at this
  ·simp at hj)
 exact ⟨v,h6,h3 _ _ h7⟩
theorem l6 (τ:Ty) (x:den τ):aa (inj τ x)=cells τ x:=by cases τ <;> rfl
theorem V.aptr_inv {Ω:Om} {i n w off:Nat} {v:Value} (h:V Ω (.aptr i n w off) v):∃b o len,v=.pointer (some ⟨b,o+(n *w+off),none⟩)/\Ω.e i=some (.box b o len):=by
 cases h;exact ⟨_,_,_,rfl,by assumption⟩
theorem bv.row {Ω:Om} {own:Nat→Nat→Prop} {id b o len:Nat} {τ:Ty} {xs:List (den τ)} (h:bv Ω own id (.box (.row τ xs))) (he:Ω.e id=some (.box b o len))
  {i:Nat} (hi:i < xs.length) (j:Nat) (c:AV) (hc:(aa (inj τ (xs.getD i (dfl τ))))[j]?=some c) :
  (bg τ xs)[i *ac τ+j]?=some c/\own b (o+(i *ac τ+j))/\¬Ω.pub b (o+(i *ac τ+j))/\Ω.w.frozen? ⟨b,o+(i *ac τ+j),none⟩=false/\
   ∃v,Ω.w.cell? ⟨b,o+(i *ac τ+j),none⟩=some v/\V Ω c v:=by
 obtain ⟨b',o',e1,e2⟩:=h
 rw [he] at e1
 simp only [Xs,CObj.box.injEq] at e1
 obtain ⟨rfl,rfl,rfl⟩:=e1
 have hx:xs[i]?=some (xs.getD i (dfl τ)):=by simp [List.getD_eq_getElem?_getD,hi]
 rw [l6] at hc
 have hf:=ir τ xs i _ j c hx hc
 exact ⟨hf,e2 _ c hf⟩
theorem F8 (hT:bH P C.tbl) {t:Nat} {x:Operand} (hop:o.op=.load t x):cG P C o:=by
 refine cG.pure fun F s a Ω eff h he ho=>?_
 simp only [aG,hop] at he
 split at he
 ·rename_i r hr
  have hx:=bC h x
  split at he
  ·rename_i id off hopd
   rw [hopd] at hx
   obtain ⟨b,o',len,hxv,hxb⟩:=hx.ptr_inv
   split at he
   ·rename_i c hcs
    simp only [Option.map_eq_some_iff] at he
    obtain ⟨av,ho1,rfl⟩:=he
    obtain ⟨b',off',e1,e2⟩:=h.slots id _ hcs
    rw [hxb] at e1
    simp only [Xs,CObj.box.injEq] at e1
    obtain ⟨rfl,rfl,rfl⟩:=e1
    obtain ⟨v,hv1,hv2⟩:=iN (w:=Ω.w) hT hr ho1 (b:=b) (o':=o') (fun j c' hc=>(e2 j c' hc).2.2.2)
    exact ⟨rfl,v,by simp [execOp,hop,hxv,Instr.loadAt,Instr.sureAddr,hv1],hv2⟩
   ·simp at he
  ·rename_i c hopd
   rw [hopd] at hx
   simp only [Option.map_eq_some_iff] at he
   obtain ⟨av,ho1,rfl⟩:=he
   generalize hxe:a.eval x=xv at hx
   cases hx with
   | cptr _ b off vals h1 h2=>
    obtain ⟨v,hv1,hv2⟩:=iN (w:=Ω.w) hT hr ho1 (b:=b) (o':=off) (fun j c' hc=>⟨_,(h1 j c' hc).2,h2 j c' hc⟩)
    simp only [Nat.add_zero] at hv1
    exact ⟨rfl,v,by simp [execOp,hop,hxe,Instr.loadAt,Instr.sureAddr,hv1],hv2⟩
  ·rename_i id i w off hopd
   rw [hopd] at hx
   obtain ⟨b,o',len,hxv,hxb⟩:=hx.aptr_inv
   split at he
   ·rename_i τ xs hcs
    unfold zD at he
    split at he
    ·rename_i hw
     subst hw
     split at he
     ·rename_i av hav
      simp only [Xs] at he
      subst he
      have hi:i < xs.length:=ho
      obtain ⟨v,hv1,hv2⟩:=iN (w:=Ω.w) hT hr hav (b:=b) (o':=o'+i *ac τ) (fun j c' hc=>by
       obtain ⟨_,_,_,_,v,h1,h2⟩:=(h.slots id _ hcs).row hxb hi j c' hc
       exact ⟨v,by rw [Nat.add_assoc];exact h1,h2⟩)
      rw [Nat.add_assoc] at hv1
      exact ⟨rfl,v,by simp [execOp,hop,hxv,Instr.loadAt,Instr.sureAddr,hv1],hv2⟩
     ·simp at he
    ·simp at he
   ·simp at he
  ·simp at he
 ·simp at he
theorem uN {x:Operand} (hop:o.op=.nilCheck x):cG P C o:=by
 refine cG.pure fun F s a Ω eff h he ho=>?_
 simp only [aG,hop] at he
 have hx:=bC h x
 split at he
 ·rename_i id off hopd
  simp only [Xs] at he
  subst he
  rw [hopd] at hx
  obtain ⟨b,o',len,hxv,hxb⟩:=hx.ptr_inv
  exact ⟨rfl,.pointer (some ⟨b,o'+off,none⟩),by simp [execOp,hop,hxv],.ptr id off b o' len hxb⟩
 ·rename_i cs hopd
  simp only [Xs] at he
  subst he
  rw [hopd] at hx
  generalize hxe:a.eval x=xv at hx
  have hx':=hx
  cases hx with
  | cptr _ b off vals h1 h2=>exact ⟨rfl,_,by simp [execOp,hop,hxe],hx'⟩
 ·rename_i id i w off hopd
  simp only [Xs] at he
  subst he
  rw [hopd] at hx
  obtain ⟨b,o',len,hxv,hxb⟩:=hx.aptr_inv
  rw [hxv] at hx
  exact ⟨rfl,_,by simp [execOp,hop,hxv],hx⟩
 ·rename_i f cs hopd
  simp only [Xs] at he
  subst he
  rw [hopd] at hx
  generalize hxe:a.eval x=xv at hx
  have hx':=hx
  cases hx with
  | fn f cs vs h1 h2=>exact ⟨rfl,_,by simp [execOp,hop,hxe],hx'⟩
 ·rename_i n y hopd
  simp only [Xs] at he
  subst he
  rw [hopd] at hx
  have hs:y.isSome=true:=ho
  cases y with
  | none=>cases hs
  | some y=>
   generalize hxe:a.eval x=xv at hx
   cases hx with
   | ptSome n y v hv=>
    have hv':=hv
    cases hv with
    | cptr _ b off vals h1 h2=>exact ⟨rfl,_,by simp [execOp,hop,hxe],hv'⟩
 ·simp at he
end
end Go.AL
end
