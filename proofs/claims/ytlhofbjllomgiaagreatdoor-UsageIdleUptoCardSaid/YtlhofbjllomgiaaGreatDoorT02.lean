/- The layer: Go code as conditions, and that they are sound. No condition. -/
import Derived.Test.YtlhofbjllomgiaaGreatDoorT01
import Derived.Laws.BytesString
import Derived.Laws.IdiomCopy
import Derived.Lib.ConvBytes
import Derived.Lib.FrozenHead
import Derived.Lib.TrimByte
import Derived.MapKept
set_option linter.all false
set_option maxRecDepth 100000
noncomputable section
namespace Go.AL
variable [Tabs]
def Rd(a b:AV):Prop:=∀Ω v,V Ω a v->V Ω b v
theorem Rd.refl(a:AV):Rd a a:=fun _ _ h=>h
theorem Rd.lst(τ:Ty)(xs:List (den τ))(o:Option Nat):Rd (.lst τ xs o) (.lst τ xs none):=by
 intro Ω v hv
 cases hv with|lstNil _ _ _=>exact .lstNil τ none (fun id hid=>by simp at hid)|lstVoid _ a=>exact .lstVoid τ a|lst _ _ _ b off cap vals h1 h2 h3 h4 h5=>exact .lst τ xs none b off cap vals h1 h2 (fun id hid=>by simp at hid) h4 h5
theorem Rd.nils(τ:Ty):Rd .nils (.lst τ [] none):=by intro Ω v hv;cases hv;exact .lstNil τ none (fun id hid=>by simp at hid)
def RdL(cs ds:List AV):Prop:=cs.length=ds.length/\∀(j:Nat)(c d:AV),cs[j]?=some c->ds[j]?=some d->Rd c d
theorem RdL.nil:RdL [] []:=⟨rfl,fun _ _ _ h=>by simp at h⟩
theorem RdL.cons{a b:AV}{cs ds:List AV}(h:Rd a b)(k:RdL cs ds):RdL (a::cs) (b::ds):=by
 refine⟨by simp[k.1],fun j c d hc hd=>?_⟩
 cases j with|zero=>simp at hc hd;subst hc hd;exact h|succ j=>exact k.2 j c d (by simpa using hc) (by simpa using hd)
theorem VL.rd{Ω:Om}{cs ds:List AV}{vs:List Value}(h:VL Ω cs vs)(r:RdL cs ds):VL Ω ds vs:=by
 refine⟨by rw[<-r.1,h.1],fun j d v hd hv=>?_⟩
 have hj:j<cs.length:=by
  rw[r.1];rcases O5 j ds.length with k|k
  ·exact k
  ·rw[O2 k]at hd;cases hd
 have hc:cs[j]?=some cs[j]:=NY hj;exact r.2 j _ d hc hd _ _ (h.2 j _ v hc hv)
theorem b6{k:IntKind}{a:AV}{n:Int}(h:asInt k a=some n):Rd a (.int k n):=by cases a<;>simp[asInt]at h;obtain⟨rfl,rfl⟩:=h;exact Rd.refl _
theorem vX{a:AV}{n:Bool}(h:rA a=some n):Rd a (.bool n):=by cases a<;>simp[rA]at h;subst h;exact Rd.refl _
theorem bf{a:AV}{n:Str}(h:cR a=some n):Rd a (.str n):=by cases a<;>simp[cR]at h;subst h;exact Rd.refl _
theorem bH{τ:Ty}{a:AV}{xs:List (den τ)}(h:dX τ a=some xs):Rd a (.lst τ xs none):=by
 cases a<;>simp[dX]at h
 ·rename_i σ ys o;obtain⟨e,rfl⟩:=gm h;subst e;exact Rd.lst σ ys o
 ·subst h;exact Rd.nils τ
theorem sD{n m:SN}{x:Option (SD n)}{y:Option (SD m)}(h:qh n m x=some y):∃e:n=m,e ▸ x=y:=by
 unfold qh at h;split at h
 ·rename_i e;simp at h;exact⟨e,h⟩
 ·simp at h
theorem mr{n:SN}{a:AV}{x:Option (SD n)}(h:yU n a=some x):Rd a (.pt n x):=by
 unfold yU at h;split at h
 ·obtain⟨e,h⟩:=sD h;subst e;subst h;exact Rd.refl _
 ·simp at h;subst h;intro Ω v hv;cases hv;exact .ptNone n
 ·obtain⟨e,h⟩:=sD h;subst e;subst h;exact fun Ω v hv=>.ptSome _ _ v hv
 ·cases h
theorem RdL.app{as bs cs ds:List AV}(h:RdL as bs)(k:RdL cs ds):RdL (as++cs) (bs++ds):=by
 refine⟨by simp[h.1,k.1],fun j c d hc hd=>?_⟩;by_cases hj:j<as.length
 ·rw[Ob hj]at hc;rw[Ob (by rw[<-h.1];exact hj)]at hd;exact h.2 j c d hc hd
 ·rw[Oe (by omega)]at hc;rw[Oe (by rw[<-h.1];omega),<-h.1]at hd;exact k.2 _ c d hc hd
theorem iR{cs:List AV}{x:Shape}(h:iU cs=some x):RdL cs (de x):=by
 unfold iU at h;split at h
 ·split at h
  ·rename_i h0 h1 h2 h3 h4;simp only[Xs]at h;subst h;exact(.cons (b6 h0) (.cons (bf h1) (.cons (bf h2) (.cons (bH h3) (.cons (bH h4) .nil)))))
  ·cases h
 ·cases h
theorem zg{cs:List AV}{x:Item}(h:rR cs=some x):RdL cs (dN x):=by
 unfold rR at h;split at h
 ·split at h
  ·rename_i h0 h1 h2;simp only[Xs]at h;subst h;exact(.cons (b6 h0) (.cons (bf h1) (RdL.app (iR h2) .nil)))
  ·cases h
 ·cases h
theorem uW{cs:List AV}{x:Change}(h:nv cs=some x):RdL cs (dW x):=by
 unfold nv at h;split at h
 ·split at h
  ·rename_i h0 h1;simp only[Xs]at h;subst h;exact(.cons (b6 h0) (.cons (bf h1) .nil))
  ·cases h
 ·cases h
theorem xC{cs:List AV}{x:Tokn}(h:pj cs=some x):RdL cs (eI x):=by
 unfold pj at h;split at h
 ·split at h
  ·rename_i h0 h1 h2;simp only[Xs]at h;subst h;exact(.cons (b6 h0) (.cons (bf h1) (.cons (b6 h2) .nil)))
  ·cases h
 ·cases h
theorem xD{cs:List AV}{x:Flt}(h:pk cs=some x):RdL cs (eJ x):=by
 unfold pk at h;split at h
 ·split at h
  ·rename_i h0 h1;simp only[Xs]at h;subst h;exact(.cons (b6 h0) (.cons (b6 h1) .nil))
  ·cases h
 ·cases h
theorem qo{cs:List AV}{x:Trm}(h:oc cs=some x):RdL cs (fh x):=by
 unfold oc at h;split at h
 ·split at h
  ·rename_i h0 h1 h2 h3 h4 h5 h6 h7 h8;simp only[Xs]at h;subst h;exact(.cons (b6 h0) (.cons (bf h1) (.cons (bf h2) (.cons (b6 h3) (.cons (bH h4) (.cons (bH h5) (.cons (bH h6) (.cons (bH h7) (.cons (b6 h8) .nil)))))))))
  ·cases h
 ·cases h
theorem j6{cs:List AV}{x:Vers}(h:im cs=some x):RdL cs (cG x):=by
 unfold im at h;split at h
 ·split at h
  ·rename_i h0 h1 h2 h3;simp only[Xs]at h;subst h;exact(.cons (b6 h0) (.cons (b6 h1) (.cons (b6 h2) (.cons (bf h3) .nil))))
  ·cases h
 ·cases h
theorem xE{cs:List AV}{x:Bnd}(h:pn cs=some x):RdL cs (eL x):=by
 unfold pn at h;split at h
 ·split at h
  ·rename_i h0 h1;simp only[Xs]at h;subst h;exact(.cons (b6 h0) (RdL.app (j6 h1) .nil))
  ·cases h
 ·cases h
theorem Cu{cs:List AV}{x:Impt}(h:xa cs=some x):RdL cs (hZ x):=by
 unfold xa at h;split at h
 ·split at h
  ·rename_i h0 h1 h5 h6;simp only[Xs]at h;subst h;exact(.cons (bf h0) (RdL.app (j6 h1) (.cons (bH h5) (.cons (b6 h6) .nil))))
  ·cases h
 ·cases h
theorem zh{cs:List AV}{x:Dcl}(h:rS cs=some x):RdL cs (fJ x):=by
 unfold rS at h;split at h
 ·split at h
  ·rename_i h0 h1 h2 h7 h16;simp only[Xs]at h;subst h;exact(.cons (b6 h0) (.cons (bf h1) (RdL.app (iR h2) (RdL.app (qo h7) (.cons (b6 h16) .nil)))))
  ·cases h
 ·cases h
theorem zi{cs:List AV}{x:Modu}(h:rT cs=some x):RdL cs (fK x):=by
 unfold rT at h;split at h
 ·split at h
  ·rename_i h0 h1 h2 h3 h4;simp only[Xs]at h;subst h;exact(.cons (bf h0) (.cons (bH h1) (.cons (bH h2) (.cons (bH h3) (.cons (b6 h4) .nil)))))
  ·cases h
 ·cases h
theorem zj{cs:List AV}{x:Bndg}(h:rU cs=some x):RdL cs (fL x):=by
 unfold rU at h;split at h
 ·split at h
  ·rename_i h0 h1 h2;simp only[Xs]at h;subst h;exact(.cons (bf h0) (.cons (bf h1) (RdL.app (iR h2) .nil)))
  ·cases h
 ·cases h
theorem Cv{cs:List AV}{x:Envt}(h:xb cs=some x):RdL cs (ib x):=by
 unfold xb at h;split at h
 ·split at h
  ·rename_i h0 h1 h2 h3;simp only[Xs]at h;subst h;exact(.cons (bf h0) (.cons (bH h1) (.cons (bH h2) (.cons (bH h3) .nil))))
  ·cases h
 ·cases h
theorem Cw{cs:List AV}{x:Depd}(h:xc cs=some x):RdL cs (ic x):=by
 unfold xc at h;split at h
 ·split at h
  ·rename_i h0 h1;simp only[Xs]at h;subst h;exact(.cons (bf h0) (.cons (bH h1) .nil))
  ·cases h
 ·cases h
theorem sF{cs:List AV}{x:Vlu}(h:rB cs=some x):RdL cs (fY x):=by
 unfold rB at h;split at h
 ·split at h
  ·rename_i h0 h1 h2 h3 h4 h5;simp only[Xs]at h;subst h;exact(.cons (b6 h0) (.cons (b6 h1) (.cons (bf h2) (.cons (bf h3) (.cons (bH h4) (.cons (bH h5) .nil))))))
  ·cases h
 ·cases h
theorem zk{cs:List AV}{x:Cel}(h:rV cs=some x):RdL cs (fM x):=by
 unfold rV at h;split at h
 ·split at h
  ·rename_i h0 h1;simp only[Xs]at h;subst h;exact(.cons (bf h0) (RdL.app (sF h1) .nil))
  ·cases h
 ·cases h
theorem FK{cs:List AV}{x:Opn}(h:Cd cs=some x):RdL cs (jq x):=by
 unfold Cd at h;split at h
 ·split at h
  ·rename_i h0 h1 h2 h3 h4 h5;simp only[Xs]at h;subst h;exact(.cons (b6 h0) (.cons (b6 h1) (.cons (bf h2) (.cons (bH h3) (.cons (bH h4) (.cons (b6 h5) .nil))))))
  ·cases h
 ·cases h
theorem xF{cs:List AV}{x:Chnk}(h:po cs=some x):RdL cs (eM x):=by
 unfold po at h;split at h
 ·split at h
  ·rename_i h0 h1;simp only[Xs]at h;subst h;exact(.cons (b6 h0) (.cons (bH h1) .nil))
  ·cases h
 ·cases h
theorem Cx{cs:List AV}{x:Usg}(h:xe cs=some x):RdL cs (ie x):=by
 unfold xe at h;split at h
 ·split at h
  ·rename_i h0 h1;simp only[Xs]at h;subst h;exact(.cons (bf h0) (.cons (bf h1) .nil))
  ·cases h
 ·cases h
theorem FL{cs:List AV}{x:Nam}(h:Ce cs=some x):RdL cs (fZ x):=by
 unfold Ce at h;split at h
 ·split at h
  ·rename_i h0 h1;simp only[Xs]at h;subst h;exact(.cons (bf h0) (.cons (bf h1) .nil))
  ·cases h
 ·cases h
theorem Cy{cs:List AV}{x:Stt}(h:xf cs=some x):RdL cs (ig x):=by
 unfold xf at h;split at h
 ·split at h
  ·rename_i h0 h1;simp only[Xs]at h;subst h;exact(.cons (b6 h0) (.cons (b6 h1) .nil))
  ·cases h
 ·cases h
theorem Cz{cs:List AV}{x:Par}(h:xg cs=some x):RdL cs (ij x):=by
 unfold xg at h;split at h
 ·split at h
  ·rename_i h0 h1 h2 h3;simp only[Xs]at h;subst h;exact(.cons (bH h0) (.cons (b6 h1) (.cons (b6 h2) (.cons (b6 h3) .nil))))
  ·cases h
 ·cases h
theorem zl{cs:List AV}{x:Rstt}(h:rW cs=some x):RdL cs (fN x):=by
 unfold rW at h;split at h
 ·split at h
  ·rename_i h0 h1 h2;simp only[Xs]at h;subst h;exact(.cons (vX h0) (.cons (b6 h1) (.cons (b6 h2) .nil)))
  ·cases h
 ·cases h
theorem kA{cs:List AV}{x:Thg}(h:jO cs=some x):RdL cs (dF x):=by
 unfold jO at h;split at h
 ·split at h
  ·rename_i h0 h1 h2 h3 h4 h5 h6;simp only[Xs]at h;subst h;exact(.cons (b6 h0) (.cons (b6 h1) (.cons (bf h2) (.cons (bf h3) (.cons (bH h4) (.cons (bH h5) (.cons (mr h6) .nil)))))))
  ·cases h
 ·cases h
theorem zm{cs:List AV}{x:Fnc}(h:rX cs=some x):RdL cs (fO x):=by
 unfold rX at h;split at h
 ·split at h
  ·rename_i h0 h1 h2 h3 h4 h5;simp only[Xs]at h;subst h;exact(.cons (mr h0) (.cons (bf h1) (.cons (bH h2) (.cons (mr h3) (.cons (bf h4) (.cons (b6 h5) .nil))))))
  ·cases h
 ·cases h
theorem xG{cs:List AV}{x:Scp}(h:pq cs=some x):RdL cs (eP x):=by
 unfold pq at h;split at h
 ·split at h
  ·rename_i h0 h1 h2 h9;simp only[Xs]at h;subst h;exact(.cons (bf h0) (.cons (bf h1) (RdL.app (kA h2) (.cons (mr h9) .nil))))
  ·cases h
 ·cases h
theorem CA{cs:List AV}{x:Plc}(h:xh cs=some x):RdL cs (ik x):=by
 unfold xh at h;split at h
 ·split at h
  ·rename_i h0 h1;simp only[Xs]at h;subst h;exact(.cons (mr h0) (.cons (bf h1) .nil))
  ·cases h
 ·cases h
theorem CB{cs:List AV}{x:Exp}(h:xi cs=some x):RdL cs (il x):=by
 unfold xi at h;split at h
 ·split at h
  ·rename_i h0 h1 h8;simp only[Xs]at h;subst h;exact(.cons (bf h0) (RdL.app (kA h1) (.cons (b6 h8) .nil)))
  ·cases h
 ·cases h
theorem kB(τ:Ty){cs:List AV}{x:den τ}(h:r6 τ cs=some x):RdL cs (cells τ x):=by
 unfold r6 at h;split at h
 ·exact .cons (b6 h) .nil
 ·exact .cons (vX h) .nil
 ·exact .cons (bf h) .nil
 ·exact .cons (bH h) .nil
 ·exact .cons (mr h) .nil
 ·exact iR h
 ·exact zg h
 ·exact uW h
 ·exact xC h
 ·exact xD h
 ·exact qo h
 ·exact j6 h
 ·exact xE h
 ·exact Cu h
 ·exact zh h
 ·exact zi h
 ·exact zj h
 ·exact Cv h
 ·exact Cw h
 ·exact sF h
 ·exact zk h
 ·exact FK h
 ·exact xF h
 ·exact Cx h
 ·exact FL h
 ·exact Cy h
 ·exact Cz h
 ·exact zl h
 ·exact kA h
 ·exact zm h
 ·exact xG h
 ·exact CA h
 ·exact CB h
 ·simp at h
theorem RdL.refl:∀cs,RdL cs cs
 |[]=>.nil
 |c::cs=>.cons (Rd.refl c) (RdL.refl cs)
theorem ly{n m:SN}{x:SD n}{y:SD m}(h:l8 n m x=some y):∃e:n=m,e ▸ x=y:=by
 unfold l8 at h;split at h
 ·rename_i e;simp at h;exact⟨e,h⟩
 ·simp at h
theorem fA{τ:Ty}(hs:KM τ=false){a:AV}{x:den τ}(h:r6 τ [a]=some x):ae a=[a]:=by
 cases τ with
 |st n=>cases hs
 |int k=>cases a<;>first|rfl|cases h
 |bool=>cases a<;>first|rfl|cases h
 |str=>cases a<;>first|rfl|cases h
 |lst t=>cases a<;>first|rfl|cases h
 |pt n=>cases a<;>first|rfl|cases h
theorem pA(τ:Ty){a:AV}{x:den τ}(h:arg τ a=some x):RdL (ae a) (cells τ x):=by
 cases τ with
 |st m=>
  cases a with
  |st n y=>obtain⟨e,h⟩:=ly h;subst e;subst h;exact RdL.refl _
  |agg cs=>exact kB (.st m) h
  |_=>cases h
 |int k=>rw[fA rfl (τ:=.int k) (x:=x) h];exact kB (.int k) h
 |bool=>rw[fA rfl (τ:=.bool) (x:=x) h];exact kB .bool h
 |str=>rw[fA rfl (τ:=.str) (x:=x) h];exact kB .str h
 |lst t=>rw[fA rfl (τ:=.lst t) (x:=x) h];exact kB (.lst t) h
 |pt n=>rw[fA rfl (τ:=.pt n) (x:=x) h];exact kB (.pt n) h
theorem V.rd{Ω:Om}{a b:AV}{v:Value}(h:V Ω a v)(r:Rd a b):V Ω b v:=r _ _ h
theorem EO{Ω:Om}{τ:Ty}{a:AV}{x:den τ}{v:Value}(h:V Ω a v)(ha:arg τ a=some x):V Ω (inj τ x) v:=by
 have hr:=pA τ ha
 cases τ with
 |st m=>
  cases a with
  |st n y=>obtain⟨e,ha⟩:=ly ha;subst e;subst ha;exact h
  |agg cs=>obtain⟨vs,rfl,hv⟩:=h.agg_inv;exact .st m x _ (V.of_agg (hv.rd hr))
  |_=>cases ha
 |int k=>rw[fA rfl (τ:=.int k) (x:=x) ha]at hr;exact h.rd (hr.2 0 a _ rfl rfl)
 |bool=>rw[fA rfl (τ:=.bool) (x:=x) ha]at hr;exact h.rd (hr.2 0 a _ rfl rfl)
 |str=>rw[fA rfl (τ:=.str) (x:=x) ha]at hr;exact h.rd (hr.2 0 a _ rfl rfl)
 |lst t=>rw[fA rfl (τ:=.lst t) (x:=x) ha]at hr;exact h.rd (hr.2 0 a _ rfl rfl)
 |pt n=>rw[fA rfl (τ:=.pt n) (x:=x) ha]at hr;exact h.rd (hr.2 0 a _ rfl rfl)
section
variable {P:Program} {C:Cfg} {o:Oper}
theorem sG{Ω:Om}{τ:Ty}{xs:List (den τ)}{o:Option Nat}{b cap:Nat}{vs:List Value}{ws:Array Value}{ty:Nat}{fz:Nat×Nat}
 (hb:Ω.w.heap[b]?=some (.cells ws ty fz))(hp:ws.toList.take (xs.length *ab τ)=vs)(hv:VL Ω (flat τ xs) vs)
 (hc1:xs.length<=cap)(hc2:cap<=bj)(hpub:∀i,i<xs.length *ab τ->Ω.pub b i)
 (ht:iu Ω o xs.length (.slice (some ⟨b,0,none⟩) xs.length cap)):V Ω (.lst τ xs o) (.slice (some ⟨b,0,none⟩) xs.length cap):=by
 have key:∀(i:Nat)(x:den τ),xs[i]?=some x->∀(j:Nat)(c:AV),(cells τ x)[j]?=some c->
   i *ab τ+j<xs.length *ab τ/\∃v,vs[i *ab τ+j]?=some v/\ws[i *ab τ+j]?=some v/\V Ω c v:=by
  intro i x hx j c hc;have hf:=gl τ xs i x j c hx hc
  have hlt:i *ab τ+j<(flat τ xs).length:=by
   rcases O5 (i *ab τ+j) (flat τ xs).length with k|k
   ·exact k
   ·rw[O2 k]at hf;cases hf
  have hlt':i *ab τ+j<vs.length:=by rw[<-hv.1];exact hlt
  rw[aY]at hlt;obtain⟨v,hvj⟩:∃v,vs[i *ab τ+j]?=some v:=⟨_,NY hlt'⟩;refine⟨hlt,v,hvj,?_,hv.2 _ c _ hf hvj⟩;rw[<-hp,Oy,O3 hlt,Oh]at hvj;exact hvj
 refine .lst τ xs o b 0 cap (fun i j=>(vs[i *ab τ+j]?).getD undef) hc1 hc2 ht (fun i x hx j c hc=>?_) (fun i x hx j c hc=>?_)
 ·obtain⟨h1,v,h2,h3,h4⟩:=key i x hx j c hc;simp only[P0];refine⟨hpub _ h1,?_⟩;rw[al hb,h3,h2];rfl
 ·obtain⟨h1,v,h2,h3,h4⟩:=key i x hx j c hc;simp only[h2];exact h4
theorem V.row_cells{Ω:Om}{τ:Ty}{xs:List (den τ)}{b off:Nat}{vals:Nat->Nat->Value}
 (h4:∀(i:Nat)(x:den τ),xs[i]?=some x->∀(j:Nat)(c:AV),(cells τ x)[j]?=some c->
    Ω.pub b (off+(i *ab τ+j))/\Ω.w.cell? ⟨b,off+(i *ab τ+j),none⟩=some (vals i j))
 (h5:∀(i:Nat)(x:den τ),xs[i]?=some x->∀(j:Nat)(c:AV),(cells τ x)[j]?=some c->V Ω c (vals i j)) :
  ∃us:List Value,us.length=xs.length *ab τ/\VL Ω (flat τ xs) us/\∀j u,us[j]?=some u->Ω.w.cell? ⟨b,off+j,none⟩=some u:=by
 induction xs generalizing off vals with
 |nil=>exact⟨[],by simp,VL.nil,fun j u h=>by simp at h⟩
 |cons x xs ih=>
  obtain⟨us,u1,u2,u3⟩:=ih (off:=off+ab τ) (vals:=fun i=>vals (i+1))
   (fun i y hy j c hc=>by
    have:=h4 (i+1) y (by simpa using hy) j c hc;rw[show off+ab τ+(i *ab τ+j)=off+((i+1) *ab τ+j)from by rw[OU];omega];exact this)
   (fun i y hy j c hc=>h5 (i+1) y (by simpa using hy) j c hc)
  have hx:=V.elem (Ω:=Ω) (xs:=x::xs) (b:=b) (off:=off) (vals:=vals) 0 (by simp) h4 h5 (dfl τ);refine⟨(List.ofFn fun j:Fin (ab τ)=>vals 0 j)++us,by simp[u1,OU];omega,?_,fun j u hj=>?_⟩
  ·refine VL.append ⟨by simp[aQ],fun j c v hc hv=>?_⟩ u2;rw[List.getElem?_ofFn]at hv;split at hv
   ·simp at hv;subst hv;exact h5 0 x rfl j c hc
   ·simp at hv
  ·by_cases hlt:j<ab τ
   ·rw[Ob (by simpa using hlt),List.getElem?_ofFn]at hj;rw[dif_pos hlt]at hj;simp at hj;subst hj;have hc:(cells τ x)[j]?=some ((cells τ x)[j]'(by rw[aQ];exact hlt)):=NY _;have:=(h4 0 x rfl j _ hc).2;simpa using this
   ·rw[Oe (by simp;omega)]at hj;simp only[List.length_ofFn]at hj;have:=u3 _ u hj;rw[show off+ab τ+(j-ab τ)=off+j from by omega]at this;exact this
theorem oE{Ω:Om}{τ:Ty}:∀(ps:List (Nat×AV))(qs:List (Nat×Value))(i:Nat)(l:List (den τ))(cur:Array Value),
  ps.map (·.1)=qs.map (·.1)->VL Ω (ps.map (·.2)) (qs.map (·.2))->s7 τ i ps=some l->(∀p∈ps,(ae p.2).all jQ=true)->
  (i+l.length) *ab τ<=cur.size->
  ∃us:List Value,VL Ω (flat τ l) us/\Instr.fill (fun i=>some (i *ab τ,ab τ)) cur qs=some (cur.toList.take (i *ab τ)++us++cur.toList.drop ((i+l.length) *ab τ)).toArray
 |[],qs,i,l,cur,hq,_,hf,_,_=>by
  cases qs with|cons _ _=>simp at hq|nil=>simp[s7]at hf;subst hf;exact⟨[],VL.nil,by simp[Instr.fill]⟩
 |(j,x)::ps,[],i,l,cur,hq,_,_,_,_=>by simp at hq
 |(j,x)::ps,(j',v)::qs,i,l,cur,hq,hv,hf,hlf,hl=>by
  simp only[OJ,P8]at hq;obtain⟨rfl,hq⟩:=hq;simp only[OJ]at hv;simp only[s7]at hf;split at hf
  ·rename_i hji;simp at hji;subst hji;split at hf
   ·rename_i y l' hy hl';simp at hf;subst hf;have hxl:=hlf (j,x) (by simp);have hxv:=hv.head;have hp:=(hxv.parts hxl).rd (pA τ hy);have hvs:v.cells.size=ab τ:=by have:=hp.1;rw[aQ]at this;simpa using this.symm
    have hle:j *ab τ+v.cells.size<=cur.size:=by rw[hvs];simp only[O8]at hl;have:(j+1) *ab τ<=(j+(l'.length+1)) *ab τ:=OP _ (by omega);rw[OU]at this;omega
    rw[vW (place:=fun i=>some (i *ab τ,ab τ)) rfl hvs hle];have hsz:(cur.toList.take (j *ab τ)++v.cells.toList++cur.toList.drop (j *ab τ+v.cells.size)).toArray.size=cur.size:=by simp;omega
    obtain⟨us,u1,u2⟩:=oE ps qs (j+1) l' _ hq hv.tail hl' (fun p hp=>hlf p (by simp[hp])) (by
     rw[hsz];simp only[O8]at hl;rw[show j+1+l'.length=j+(l'.length+1)from by omega];exact hl)
    refine⟨v.cells.toList++us,?_,?_⟩
    ·have:flat τ (y::l')=cells τ y++flat τ l':=by simp[flat]
     rw[this];exact hp.append u1
    ·rw[u2];congr 1;apply Pj;have e1:(j+1) *ab τ=j *ab τ+ab τ:=by rw[OU];omega
     have t1:(cur.toList.take (j *ab τ)++v.cells.toList++cur.toList.drop (j *ab τ+v.cells.size)).take ((j+1) *ab τ)=cur.toList.take (j *ab τ)++v.cells.toList:=by rw[List.take_left' (by simp;omega)]
     have t2:(cur.toList.take (j *ab τ)++v.cells.toList++cur.toList.drop (j *ab τ+v.cells.size)).drop ((j+1+l'.length) *ab τ)=cur.toList.drop ((j+(l'.length+1)) *ab τ):=by
      rw[List.drop_append,List.drop_of_length_le (by
       simp;have:(j+1) *ab τ<=(j+1+l'.length) *ab τ:=OP _ (by omega);omega),Pn,List.drop_drop]
      congr 1;simp;have e2:(j+1+l'.length) *ab τ=j *ab τ+ab τ+l'.length *ab τ:=by rw[OU,OU];omega
      have e3:(j+(l'.length+1)) *ab τ=j *ab τ+(l'.length *ab τ+ab τ):=by rw[OU,OU];omega
      omega
     simp only[O8];rw[t1,t2];simp
   ·simp at hf
  ·simp at hf
theorem uX(hT:aR P C.tbl){t len:Nat}{ps:Array (Nat×Operand)}(hop:o.op=.buildSlice t len ps):cv P C o:=by
 intro F s a Ω eff next Q h hd he ho hn
 simp only[au,hop]at he;split at he
 ·rename_i d e sz by' z ty hdst hr
  split at he
  ·rename_i ti size by2 z2 τ hre;split at he
   ·rename_i l hl hB;split at he
    ·rename_i hck;simp only[NZ]at hck;obtain⟨⟨hlen,hbig⟩,hlf⟩:=hck;have hlen':=bX _ _ hlen;subst hlen';obtain⟨dd,hd1,hd2⟩:=az hT hr rfl;cases dd<;>simp[aD]at hd2;subst hd2;obtain⟨i,zz,i1,i2,i3,i4,i5⟩:=(hT _ _ hre).info;have hw:ab τ=size:=((hT _ _ hre).ty τ rfl).1;have i2':i.size=ab τ:=by rw[hw];exact i2
     have hbig':l.length *size<=1000000:=by simpa using hbig
     have hzl:zz.cells.size=ab τ:=by
      have p1:=(hT _ _ hre).zlen;have:(List.map cm zz.cells.toList).length=size:=by rw[i5];exact p1
      rw[hw];simpa using this
     let cur:Array Value:=(Array.range (l.length *ab τ)).map fun k=>zz.cells[k%zz.cells.size]!
     have hcs:cur.size=l.length *ab τ:=by simp[cur]
     obtain⟨us,u1,u2⟩:=oE (Ω:=Ω) (ps.toList.map fun(i,x)=>(i,opd s.T x)) (ps.toList.map fun(i,x)=>(i,a.eval x)) 0 l cur
      (by simp[RA])
      (by
       refine⟨by simp,fun j c v hc hv=>?_⟩;simp only[List.map_map,OD,Ov]at hc hv;obtain⟨x,hx,e⟩:=hc;obtain⟨x',hx',e'⟩:=hv;rw[hx]at hx';simp at hx';subst hx';simp at e e';rw[<-e,<-e'];exact b9 h x.2)
      hl
      (by
       intro p hp;exact O9.1 hlf p hp)
      (by rw[hcs];simp)
     have hul:us.length=l.length *ab τ:=by rw[<-u1.1,aY]
     have hfin:(cur.toList.take (0 *ab τ)++us++cur.toList.drop ((0+l.length) *ab τ)).toArray=us.toArray:=by apply Pj;simp;rw[hcs];omega
     rw[hfin]at u2
     have hrun:(execOp a.eval o).run P Ω.w=.ok (.value (.slice (some ⟨Ω.w.heap.size,0,none⟩) l.length l.length)) (Ω.w.alloc (.cells us.toArray e)):=by
      have hps:(ps.map fun x=>match x with|(i,x)=>(i,a.eval x)).toList=ps.toList.map fun(i,x)=>(i,a.eval x):=by simp
      simp only[execOp,hop,Instr.buildSlice,Ou,ay hd1,O6,cZ i1,i2'];rw[O0 (by rw[hw];omega)];split
      ·rename_i h0;have hcur:((Array.range (l.length *ab τ)).map fun x=>(#[]:Array Value)[x%(#[]:Array Value).size]!)=cur:=by simp[cur,h0]
       simp only[Ou,OR,O6];rw[hcur,hps,u2];simp[newRow]
      ·rename_i h0;simp only[Ou,eU i1 i4,OR,O6];rw[hps];have u2':Instr.fill (fun i=>some (i *ab τ,ab τ)) ((Array.range (l.length *ab τ)).map fun x=>zz.cells[x%zz.cells.size]!) (ps.toList.map fun(i,x)=>(i,a.eval x))=some us.toArray:=u2;rw[u2'];simp[newRow]
     have hlm:l.length<=bj:=by have:l.length *1<=l.length *size:=PF _ (by have:=(hT _ _ hre).pos rfl;exact this);unfold bj;omega
     split at he;rotate_left
     ·simp only[Xs]at he;subst he
      have hh:=h.alloc (d:=d) (c:=.box Ω.w.heap.size 0 (flat τ l).length) (obj:=.box (.row τ l)) (x:=.cells us.toArray e) (p:=fun _=>False)
       (dst:=some d) (val:=.arr d l.length size) (v:=.slice (some ⟨Ω.w.heap.size,0,none⟩) l.length l.length)
       (Or.inl (h.dom d hB)) (fun b o hb=>hb.1)
       (fun hx=>by
        refine⟨Ω.w.heap.size,0,by simp[ae],fun j c' hc=>?_⟩
        have hj:j<us.length:=by
         rw[<-u1.1];rcases O5 j (flat τ l).length with k|k
         ·exact k
         ·rw[show ae (.row τ l)=flat τ l from rfl,O2 k]at hc;cases hc
        have hcells:(Ω.w.alloc (.cells us.toArray e)).heap[Ω.w.heap.size]?=some (.cells us.toArray e (0,0)):=bG _ _;refine⟨Or.inl h.frame.size,fun hp=>?_,ez hcells _,us[j],?_,(u1.2 j c' _ hc (by simp[hj])).ext hx⟩
        ·rcases hp with hp|⟨_,hp⟩
         ·have:=h.cell_lt hp;omega
         ·exact hp
        ·simp only[P0];rw[al hcells];simp[hj])
       (fun _ hf=>hf.elim)
       (fun hx=>.arr d l.length size Ω.w.heap.size (flat τ l).length l.length _ (by simp) (by rw[aY,hw];exact Od _) (Od _) hlm (.inl rfl))
       (fun d' hd'=>by simp at hd';subst hd';exact hd d hdst)
      refine aq hrun ?_;rw[hdst]at hn⊢;exact hn _ _ hh
     split at he;rotate_left
     ·simp only[Xs]at he;subst he
      have hh:=h.alloc (d:=d) (c:=.tail l.length (some Ω.w.heap.size) l.length) (obj:=.grow τ l.length l) (x:=.cells us.toArray e) (p:=fun _=>False)
       (dst:=some d) (val:=.glst l.length l.length d) (v:=.slice (some ⟨Ω.w.heap.size,0,none⟩) l.length l.length)
       (Or.inl (h.dom d hB)) (fun b o hb=>by simpa[occ]using hb.symm)
       (fun hx=>by
        refine⟨some Ω.w.heap.size,l.length,by simp,Od _,hlm,by simp,fun b hb=>?_⟩;simp only[Xs]at hb;subst hb;refine⟨fun _=>Or.inl h.frame.size,⟨us.toArray,e,(0,0),bG _ _,rfl,by simp[hul]⟩,fun o hp=>?_,fun j c hc=>?_⟩
        ·rcases hp with hp|⟨_,hp⟩
         ·exact absurd (h.cell_lt hp) (RH _)
         ·exact hp
        ·have hj:j<us.length:=by
          rw[<-u1.1];rcases O5 j (flat τ l).length with q|q
          ·exact q
          ·rw[O2 q]at hc;cases hc
         refine⟨us[j],?_,(u1.2 j c _ hc (by simp[hj])).ext hx⟩;rw[al (bG _ _)];simp[hj])
       (fun _ hf=>hf.elim)
       (fun hx=>.glst l.length l.length d l.length _ (Od _) hlm (.inl ⟨_,rfl⟩) ⟨l.length,some Ω.w.heap.size,l.length,by simp,Od _,fun _=>⟨rfl,rfl⟩⟩)
       (fun d' hd'=>by simp at hd';subst hd';exact hd d hdst)
      refine aq hrun ?_;rw[hdst]at hn⊢;exact hn _ _ hh
     simp only[Xs]at he;subst he
     have hh:=h.alloc (d:=d) (c:=.tail l.length (some Ω.w.heap.size) l.length) (obj:=.tail τ l.length) (x:=.cells us.toArray e) (p:=fun o=>o<l.length *ab τ)
      (dst:=some d) (val:=.lst τ l (some d)) (v:=.slice (some ⟨Ω.w.heap.size,0,none⟩) l.length l.length)
      (Or.inl (h.dom d hB)) (fun b o hb=>by simpa[occ]using hb.symm)
      (fun hx=>by
       refine⟨some Ω.w.heap.size,l.length,by simp,Od _,?_,by simp,fun b hb=>?_⟩
       ·have:l.length *1<=l.length *size:=PF _ (by have:=(hT _ _ hre).pos rfl;exact this);unfold bj;omega
       ·simp at hb;subst hb;refine⟨fun _=>Or.inl h.frame.size,us.toArray,e,(0,0),bG _ _,rfl,by simp[hul],fun o ho hp=>?_⟩;rcases hp with hp|⟨_,hp⟩
        ·have:=h.cell_lt hp;omega
        ·omega)
      (fun o ho=>by
       rw[al (bG _ _)];exact⟨us[o]'(by omega),by simp[hul,ho]⟩)
      (fun hx=>by
       refine sG (vs:=us) (bG _ _) (by rw[<-hul];simp) (u1.ext hx) (Od _) ?_ (fun i hi=>Or.inr ⟨rfl,hi⟩) ?_
       ·have:l.length *1<=l.length *size:=PF _ (by have:=(hT _ _ hre).pos rfl;exact this);unfold bj;omega
       ·intro id hid;simp at hid;subst hid;exact⟨l.length,some Ω.w.heap.size,l.length,by simp,Od _,fun _=>rfl⟩)
      (fun d' hd'=>by simp at hd';subst hd';exact hd d hdst)
     refine aq hrun ?_;rw[hdst]at hn⊢;exact hn _ _ hh
    ·simp at he
   ·simp at he
  ·simp at he
 ·simp at he
theorem MD{e:Nat}{x:Operand}(hop:o.op=.box e x):cv P C o:=by
 intro F s a Ω eff next Q h hd he ho hn
 simp only[au,hop]at he;split at he
 ·rename_i d r hdst hr;split at he
  ·rename_i hB;unfold boxF at he;split at he
   ·split at he
    ·rename_i hl;simp only[Xs]at he;subst he;simp only[NZ]at hl;have hvl:=(b9 h x).parts hl.1;obtain⟨Ω',hw,hh⟩:=h.newVar (ty:=e) hB hvl (hd d hdst);refine aq (v:=.pointer (some ⟨Ω.w.heap.size,0,none⟩)) (w':=Ω.w.alloc (.cells (a.eval x).cells e)) ?_ ?_
     ·simp[execOp,hop,Instr.box,kz]
     ·rw[<-hw];rw[hdst]at hn⊢;exact hn _ _ hh
    ·simp at he
   ·split at he
    ·rename_i n _;split at he
     ·rename_i y hy;split at he
      ·rename_i hl;simp only[Xs]at he;subst he;have hvl:VL Ω (cells (.st n) y) (a.eval x).cells.toList:=((b9 h x).parts hl).rd (pA (.st n) hy);have h1:(cells (.st n) y).length=(a.eval x).cells.size:=by have:=hvl.1;rwa [PE]at this
       have hh:=h.alloc (d:=d) (c:=.box Ω.w.heap.size 0 0) (obj:=.box (.agg [])) (x:=.cells (a.eval x).cells e) (p:=fun q=>q<(cells (.st n) y).length)
        (dst:=some d) (val:=.pt n (some y)) (v:=.pointer (some ⟨Ω.w.heap.size,0,none⟩))
        (Or.inl (h.dom d hB)) (fun b q hb=>hb.1)
        (fun hx=>⟨Ω.w.heap.size,0,by simp[ae],fun j c' hc=>by simp[ae]at hc⟩)
        (fun q hq=>by
         have hq:q<(cells (.st n) y).length:=hq;exact⟨(a.eval x).cells[q]'(by omega),by rw[al (bG _ _)];simp[show q<(a.eval x).cells.size by omega]⟩)
        (fun hx=>by
         have hlt:∀(j:Nat)(c:AV),(cells (.st n) y)[j]?=some c->j<(a.eval x).cells.size:=fun j c hc=>by
          rcases O5 j (cells (.st n) y).length with q|q
          ·omega
          ·rw[O2 q]at hc;cases hc
         refine .ptSome n y _ (.cptr (.st n y) Ω.w.heap.size 0 (fun j=>((a.eval x).cells[j]?).getD undef) (fun j c hc=>?_) (fun j c hc=>?_))
         ·have hj:=hlt j c hc;refine⟨Or.inr ⟨rfl,by show 0+j<(cells (.st n) y).length;omega⟩,?_⟩;rw[P0,al (bG _ _)];simp[hj]
         ·have hj:=hlt j c hc;have:=hvl.2 j c ((a.eval x).cells[j]) hc (by simp[hj]);simp only[Oz hj,OX];exact this.ext hx)
        (fun d' hd'=>by simp at hd';subst hd';exact hd d hdst)
       refine aq (v:=.pointer (some ⟨Ω.w.heap.size,0,none⟩)) (w':=Ω.w.alloc (.cells (a.eval x).cells e)) ?_ ?_
       ·simp[execOp,hop,Instr.box,kz]
       ·rw[hdst]at hn⊢;exact hn _ _ hh
      ·simp at he
     ·simp at he
    ·simp at he
  ·simp at he
 ·simp at he
end
end Go.AL
end
noncomputable section
namespace Go.AL
variable [Tabs]
section
variable {P:Program} {C:Cfg} {o:Oper}
theorem mu(w:World)(g:Nat)(cs:Array Value):(w.setRow g cs).os=w.os/\(w.setRow g cs).tape=w.tape/\(w.setRow g cs).output=w.output/\(w.setRow g cs).heap.size=w.heap.size:=by simp[World.setRow]
theorem lA(b:Nat):∀(vs:List Value)(o:Nat)(w:World),(w.setCells b o vs).os=w.os/\(w.setCells b o vs).tape=w.tape/\(w.setCells b o vs).output=w.output/\
  (w.setCells b o vs).heap.size=w.heap.size/\(∀i,i≠b->(w.setCells b o vs).heap[i]?=w.heap[i]?)/\∀i,(w.setCells b o vs).shape? i=w.shape? i
 |[],_,_=>⟨rfl,rfl,rfl,rfl,fun _ _=>rfl,fun _=>rfl⟩
 |v::r,o,w=>by
  obtain⟨h1,h2,h3,h4,h5,h6⟩:=lA b r (o+1) (w.setCell ⟨b,o,none⟩ v);refine⟨h1,h2,h3,h4.trans (by simp[World.setCell]),fun i hi=>(h5 i hi).trans ?_,fun i=>(h6 i).trans ?_⟩
  ·simp only[World.setCell];rw[Pl,O0 (fun e=>hi e.symm)]
  ·simp only[World.setCell,World.shape?];rw[Pl];by_cases e:b=i
   ·subst e;rw[O3 rfl]
    cases hb:w.heap[b]? with
    |none=>rfl
    |some x=>cases x<;>simp
   ·rw[O0 e]
theorem kC{r:TR}{c v c':AV}{off:Nat}(h:rZ r c off v=some c') :
  (ae v).all jQ=true/\(ae v).length=r.size/\∃ds,splice (ae c) off (ae v)=some ds/\ae c'=ds:=by
 unfold rZ at h;split at h
 ·rename_i hl;simp only[NZ]at hl;refine⟨hl.1,bX _ _ hl.2,?_⟩
  have fr:∀{off:Nat},(match splice (ae c) off (ae v)with|some cs=>some (AV.agg cs)|none=>none)=some c'->
    ∃ds,splice (ae c) off (ae v)=some ds/\ae c'=ds:=by
   intro off h;split at h
   ·rename_i cs hcs;simp only[Xs]at h;subst h;exact⟨cs,hcs,rfl⟩
   ·cases h
  split at h
  ·split at h
   ·rename_i hcl;simp only[Xs]at h;subst h;refine⟨_,?_,rfl⟩;have e:(ae c).length=(ae v).length:=by rw[bX _ _ hcl,bX _ _ hl.2]
    have ov:∀(xs ys:List AV),xs.length=ys.length->l9 xs ys=some ys:=by
     intro xs
     induction xs with
     |nil=>intro ys hy;cases ys with
      |nil=>rfl
      |cons _ _=>cases hy
     |cons x xs ih=>intro ys hy;cases ys with
      |nil=>cases hy
      |cons y ys=>simp[l9,ih ys (by simpa using hy)]
    have:=ov _ _ e;generalize ae c=cs at *
    cases cs<;>simpa[splice]using this
   ·exact fr h
  ·exact fr h
 ·cases h
theorem bn.rd{Ω:Om}{own:Nat->Nat->Prop}{id:Nat}{c d:AV}(h:bn Ω own id (.box c))(r:RdL (ae c) (ae d)):bn Ω own id (.box d):=by
 obtain⟨b,off,e1,e2⟩:=h;refine⟨b,off,by rw[<-r.1];exact e1,fun j d' hd'=>?_⟩
 have hj:j<(ae c).length:=by
  rw[r.1];rcases O5 j (ae d).length with k|k
  ·exact k
  ·rw[O2 k]at hd';cases hd'
 obtain⟨k1,k2,k3,v,k4,k5⟩:=e2 j _ (NY hj);exact⟨k1,k2,k3,v,k4,r.2 j _ d' (NY hj) hd' _ _ k5⟩
theorem RdL.append{as bs cs ds:List AV}(h:RdL as bs)(k:RdL cs ds):RdL (as++cs) (bs++ds):=by
 refine⟨by simp[h.1,k.1],fun j c d hc hd=>?_⟩;by_cases hj:j<as.length
 ·rw[Ob hj]at hc;rw[Ob (by rw[<-h.1];exact hj)]at hd;exact h.2 j c d hc hd
 ·rw[Oe (by omega)]at hc;rw[Oe (by rw[<-h.1];omega),<-h.1]at hd;exact k.2 _ c d hc hd
theorem zn:∀(xs ys zs ds:List AV),l9 xs ys=some ds->l9 (xs++zs) ys=some (ds++zs)
 |xs,[],zs,ds,h=>by simp[l9]at h;subst h;cases xs<;>simp[l9]
 |[],y::ys,zs,ds,h=>by simp[l9]at h
 |x::xs,y::ys,zs,ds,h=>by
  simp only[l9]at h;split at h
  ·rename_i l hl;simp at h;subst h;simp[l9,zn xs ys zs l hl]
  ·cases h
theorem sH:∀(xs:List AV)(n:Nat)(ys zs ds:List AV),splice xs n ys=some ds->splice (xs++zs) n ys=some (ds++zs)
 |xs,0,ys,zs,ds,h=>by
  have e:∀xs:List AV,splice xs 0 ys=l9 xs ys:=by intro xs;cases xs<;>rfl
  rw[e]at h⊢;exact zn _ _ _ _ h
 |[],n+1,ys,zs,ds,h=>by simp[splice]at h
 |x::xs,n+1,ys,zs,ds,h=>by
  simp only[splice]at h;split at h
  ·rename_i l hl;simp at h;subst h;simp[splice,sH xs n ys zs l hl]
  ·cases h
theorem ny:∀(as xs bs ys ds:List AV)(n m:Nat),splice xs n ys=some ds->as.length=m->splice (as++xs++bs) (m+n) ys=some (as++ds++bs)
 |[],xs,bs,ys,ds,n,m,h,hm=>by simp at hm;subst hm;simpa using sH xs n ys bs ds h
 |a::as,xs,bs,ys,ds,n,m,h,hm=>by
  cases m with|zero=>simp at hm|succ m=>have:=ny as xs bs ys ds n m h (by simpa using hm);rw[show m+1+n=(m+n)+1 by omega];simp only[OQ,splice,this]
theorem Holds.store{F:Fr}{s:AS}{a:Act}{Ω:Om}(h:Holds F s a Ω){id g bo len off:Nat}{c c':AV}{pv ds:List AV}{vs:List Value}{dst:Option Nat}
 (hcs:s.B id=some (.box c))(hxb:Ω.e id=some (.box g bo len))(hds:splice (ae c) off pv=some ds)(hvl:VL Ω pv vs)(hlf:pv.all jQ=true)
 (hrd:RdL ds (ae c'))(hpos:0<pv.length)(hd:∀d,dst=some d->d<F.n) :
  (storeCells ⟨g,bo+off,none⟩ vs 0).run P Ω.w=.ok () (Ω.w.setCells g (bo+off) vs)/\
   Holds F ⟨bz s.T dst .undef,bB s.B [(id,.box c')]⟩ (a.put dst undef) ⟨Ω.e,Ω.w.setCells g (bo+off) vs,Ω.pub⟩:=by
 obtain⟨g',bo',e1,e2⟩:=h.slots id _ hcs;rw[hxb]at e1;simp only[Xs,CObj.box.injEq]at e1;obtain⟨rfl,rfl,rfl⟩:=e1;obtain⟨s1,s2⟩:=fj _ _ _ _ hds;have hyl:vs.length=pv.length:=hvl.1.symm;have hin:∀j,j<vs.length->off+j<(ae c).length:=by intro j hj;rw[hyl]at hj;omega
 have hsome:∀j,j<vs.length->(Ω.w.cell? ⟨g,bo+off+j,none⟩).isSome=true:=by intro j hj;obtain⟨_,_,_,v,hv,_⟩:=e2 (off+j) _ (NY (hin j hj));rw[PO,hv];rfl
 have hfrz:∀j,j<vs.length->Ω.w.frozen? ⟨g,bo+off+j,none⟩=false:=by intro j hj;rw[PO];exact(e2 (off+j) _ (NY (hin j hj))).2.2.1
 have hst:=run_storeCells_cells (P:=P) g (bo+off) vs 0 Ω.w (by simpa using hsome) (by simpa using hfrz) (hvl.leaf_one hlf);simp only[PR]at hst;obtain⟨q1,q2,q3,q4,q5,q6⟩:=lA g vs (bo+off) Ω.w
 have hout:∀b o',(b=g->o'<bo+off∨bo+off+pv.length<=o')->(Ω.w.setCells g (bo+off) vs).cell? ⟨b,o',none⟩=Ω.w.cell? ⟨b,o',none⟩:=
  fun b o' hb=>World.cell?_setCells_out g _ _ _ _ (fun e _=>by rw[hyl];exact hb e)
 have hrange:∀b o',b=g->¬(o'<bo+off∨bo+off+pv.length<=o')->∃j c0,o'=bo+j/\(ae c)[j]?=some c0:=by
  intro b o' _ hno;have hlt:o'-bo<(ae c).length:=by omega
  exact⟨o'-bo,_,by omega,NY hlt⟩
 have hpubout:∀b o',Ω.pub b o'->(Ω.w.setCells g (bo+off) vs).cell? ⟨b,o',none⟩=Ω.w.cell? ⟨b,o',none⟩:=by
  intro b o' p;refine hout b o' (fun e=>?_);subst e;rcases Decidable.em (o'<bo+off∨bo+off+pv.length<=o')with k|k
  ·exact k
  ·obtain⟨j,c0,rfl,hj⟩:=hrange b o' rfl k;exact absurd p (e2 j c0 hj).2.1
 have hx':Ext Ω ⟨Ω.e,Ω.w.setCells g (bo+off) vs,Ω.pub⟩:=
  ⟨fun i c hc=>⟨c,hc,CLe.refl c⟩,fun _ _ p=>p,hpubout⟩
 have hplen:ds.length=(ae c).length:=by rw[s2];simp;omega
 have hh:Holds F ⟨bz s.T dst .undef,bB s.B [(id,.box c')]⟩ (a.put dst undef) ⟨Ω.e,Ω.w.setCells g (bo+off) vs,Ω.pub⟩:=h.step hx' (.undef undef) hd
  (fun id' o' ho'=>by
   simp only[iy]at ho';by_cases hid:id=id'
   ·subst hid;simp at ho';subst ho';refine bn.rd (c:=.agg ds) ?_ hrd;refine⟨g,bo,by show _=some (CObj.box g bo ds.length);rw[hplen];exact hxb,fun j d hd'=>?_⟩;have hd':ds[j]?=some d:=hd'
    have hj:j<ds.length:=by
     rcases O5 j ds.length with k|k
     ·exact k
     ·rw[O2 k]at hd';cases hd'
    have hj2:j<(ae c).length:=by omega
    obtain⟨k1,k2,k3,v,k4,k5⟩:=e2 j _ (NY hj2);refine⟨k1,k2,(World.frozen?_setCells g _ _ _ _).trans k3,?_⟩;rw[s2]at hd';by_cases hlo:j<off
    ·refine⟨v,(hout g (bo+j) (fun _=>Or.inl (by omega))).trans k4,?_⟩;rw[OE,Ob (by simp;omega),Oy,O3 hlo,NY hj2]at hd';simp only[Xs]at hd';subst hd';exact k5.ext hx'
    ·by_cases hhi:j<off+pv.length
     ·have hjl:j-off<vs.length:=by omega
      have hcell:=World.cell?_setCells_in g vs (bo+off) Ω.w hsome (j-off) hjl;rw[show bo+off+(j-off)=bo+j by omega]at hcell;refine⟨_,hcell,?_⟩;have htl:(List.take off (ae c)).length=off:=by simp;omega
      rw[OE,Oe (by omega),htl,Ob (by omega)]at hd';exact(hvl.2 (j-off) d _ hd' (NY hjl)).ext hx'
     ·refine⟨v,(hout g (bo+j) (fun _=>Or.inr (by omega))).trans k4,?_⟩;have htl:(List.take off (ae c)++pv).length=off+pv.length:=by simp;omega
      rw[Oe (by omega),htl,P9,show off+pv.length+(j-(off+pv.length))=j by omega,NY hj2]at hd';simp only[Xs]at hd';subst hd';exact k5.ext hx'
   ·rw[O0 hid]at ho';refine(h.slots id' o' ho').keep hx' rfl (fun c0 hc0=>?_)
    cases c0 with
    |box b2 o2 l2=>
     intro oo h1 h2;refine⟨hout b2 oo (fun e=>?_),World.frozen?_setCells g _ _ _ _,fun p=>p⟩;subst e;rcases Decidable.em (oo<bo+off∨bo+off+pv.length<=oo)with k|k
     ·exact k
     ·exact absurd (h.inj id id' _ _ b2 oo hxb hc0 ⟨rfl,by omega,by omega⟩ ⟨rfl,h1,h2⟩) hid
    |tail n base cap=>intro b2 hb2;refine⟨q5 b2 (fun e=>?_),fun _ p=>p⟩;subst e;exact hid (h.inj id id' _ _ b2 bo hxb hc0 ⟨rfl,Od _,by omega⟩ hb2)
    |obj r=>refine q5 r (fun e=>?_);subst e;exact hid (h.inj id id' _ _ r bo hxb hc0 ⟨rfl,Od _,by omega⟩ rfl)
    |bld b2 g=>
     intro b3 hb3;refine⟨q5 b3 (fun e=>?_),fun _ p=>p⟩;subst e;exact hid (h.inj id id' _ _ b3 bo hxb hc0 ⟨rfl,Od _,by omega⟩ hb3))
  (fun id' hid'=>by
   simp only[iy]at hid';by_cases hid:id=id'
   ·simp[hid]at hid'
   ·rw[O0 hid]at hid';exact h.dom id' hid')
  h.inj
  (fun b o' p=>by
   obtain⟨v,hv⟩:=h.pubok b o' p;exact⟨v,by rw[hx'.cell b o' p,hv]⟩)
  ⟨q1.trans h.frame.os,q2.trans h.frame.tape,q3.trans h.frame.output,by rw[q4];exact h.frame.size,
   fun b hb hnb=>(q5 b (fun e=>by
    subst e;have:=(e2 off _ (NY (by omega))).1;rcases this with k|k
    ·omega
    ·exact hnb _ k)).trans (h.frame.block b hb hnb),
   fun b o' hb hnb=>(hout b o' (fun e=>by
    subst e;rcases Decidable.em (o'<bo+off∨bo+off+pv.length<=o')with k|k
    ·exact k
    ·obtain⟨j,c0,rfl,hj⟩:=hrange b o' rfl k;rcases(e2 j c0 hj).1 with k2|k2
     ·omega
     ·exact absurd k2 hnb)).trans (h.frame.cell b o' hb hnb),
   fun b hb hnb=>⟨(q6 b).trans (h.frame.kind b hb hnb).1,fun o'=>(World.frozen?_setCells g _ _ _ _).trans ((h.frame.kind b hb hnb).2 o')⟩,
   h.frame.pub,h.frame.old,fun b o hp=>(hx'.cell b o (h.frame.old b o hp)).trans (h.frame.pcell b o hp)⟩
 exact⟨hst,hh⟩
theorem FM(hT:aR P C.tbl){t:Nat}{x y:Operand}(hop:o.op=.store t x y){r:TR}(hr:aB C.tbl t=some r){id i w off:Nat}{F:Fr}{s:AS}{a:Act}{Ω:Om}{eff:Eff}
 {next:Act->World->Prop}{Q:Exit->Act->World->Prop}(hopd:opd s.T x=.aptr id i w off){τ:Ty}{xs:List (den τ)}(hcs:s.B id=some (.box (.row τ xs)))
 (h:Holds F s a Ω)(hpos:0<r.size)(hd:∀d,o.dst=some d->d<F.n)(he:sa r id τ xs i w off (opd s.T y)=some eff)(ho:eff.asks)
 (hn:∀a' Ω',Holds F (s.put o.dst eff) a' Ω'->next a' Ω'.w):o.wp P a Ω.w next Q:=by
 have hx:=b9 h x;have hy:=b9 h y;rw[hopd]at hx;obtain⟨g,bo,len,hxv,hxb⟩:=hx.aptr_inv;unfold sa at he;split at he
 ·rename_i hw;subst hw;split at he
  ·rename_i c2 hst;split at he
   ·rename_i x' hx';simp only[Xs]at he;subst he;have hi:i<xs.length:=ho;obtain⟨hlf,hlen,ds,hds,hpc⟩:=kC hst;have hyp:=hy.parts hlf;have hyl':(a.eval y).cells.size=r.size:=by have:=hyp.1;rw[hlen]at this;simpa using this.symm
    rw[iW]at hds;have hsplit:∀z:den τ,flat τ (xs.set i z)=flat τ (xs.take i)++cells τ z++flat τ (xs.drop (i+1)):=by intro z;rw[Ql,O3 hi,cJ];simp[flat]
    have hself:flat τ xs=flat τ (xs.take i)++cells τ (xs.getD i (dfl τ))++flat τ (xs.drop (i+1)):=by rw[<-hsplit];congr 1;simp[O4,hi]
    have htl:(flat τ (xs.take i)).length=i *ab τ:=by rw[aY,Pt,Nat.min_eq_left (Nat.le_of_lt hi)]
    have hbig:splice (ae (.row τ xs)) (i *ab τ+off) (ae (opd s.T y))=some (flat τ (xs.take i)++ds++flat τ (xs.drop (i+1))):=by show splice (flat τ xs) _ _=_;rw[hself];exact ny _ _ _ _ _ _ _ hds htl
    have hrd:RdL (flat τ (xs.take i)++ds++flat τ (xs.drop (i+1))) (ae (.row τ (xs.set i x'))):=by show RdL _ (flat τ (xs.set i x'));rw[hsplit];exact((RdL.refl _).append (by rw[<-hpc];exact pA τ hx')).append (RdL.refl _)
    obtain⟨hst,hh⟩:=h.store (P:=P) (dst:=o.dst) (c':=.row τ (xs.set i x')) hcs hxb hbig hyp hlf hrd (by omega) hd;refine j0 (w':=Ω.w.setCells g (bo+(i *ab τ+off)) (a.eval y).cells.toList) ?_ (hn _ _ hh);simp only[execOp,hop,hxv,Instr.storeAt,Instr.sureAddr,storeVar,Ou,OR,O6,(hT t r hr).tf.size,hyl'];simp only[ne_eq,QH,OL,hst,O6]
   ·simp at he
  ·simp at he
 ·simp at he
theorem Holds.setGrow{F:Fr}{s:AS}{a:Act}{Ω:Om}(h:Holds F s a Ω){k g cap s1 s2 ty:Nat}{τ:Ty}{zs:List (den τ)}{cur arr:Array Value}{fz:Nat×Nat}{dst:Option Nat}{val:AV}{v:Value}
 (he:Ω.e k=some (.tail s1 (some g) cap))(hs:s1<=s2)(hown:∀o,F.own g o)(hg:Ω.w.heap[g]?=some (.cells cur ty fz))(hfz:fz.2=0)(hfit:cap *ab τ<=cur.size)
 (hpub:∀o,¬Ω.pub g o)(hlen:zs.length<=cap)(hcap:cap<=bj)(hsz:arr.size=cur.size)(hc:∀(j:Nat)(c:AV),(flat τ zs)[j]?=some c->∃v,arr[j]?=some v/\V Ω c v)
 (hv:∀Ω',Ext Ω Ω'->Ω'.e k=some (.tail s2 (some g) cap)->V Ω' val v)(hd:∀d,dst=some d->d<F.n) :
  Holds F ⟨bz s.T dst val,bB s.B [(k,.grow τ s2 zs)]⟩ (a.put dst v) ⟨fun i=>if k=i then some (.tail s2 (some g) cap)else Ω.e i,Ω.w.setRow g arr,Ω.pub⟩:=by
 have hg':=setRow_heap Ω.w g cur arr ty fz hg;obtain⟨q1,q2,q3,q4⟩:=mu Ω.w g arr
 have hcellold:∀b o,Ω.pub b o->(Ω.w.setRow g arr).cell? ⟨b,o,none⟩=Ω.w.cell? ⟨b,o,none⟩:=by
  intro b o hp;have hb:b≠g:=fun e=>by subst e;exact hpub o hp
  exact ai (Pf _ _ _ _ hb) o
 have hx:Ext Ω ⟨fun i=>if k=i then some (.tail s2 (some g) cap)else Ω.e i,Ω.w.setRow g arr,Ω.pub⟩:=by
  refine⟨fun i c hc=>?_,fun _ _ p=>p,hcellold⟩;by_cases hi:k=i
  ·subst hi;rw[he]at hc;simp only[Xs]at hc;subst hc;exact⟨_,by simp;rfl,by simp[CLe,hs]⟩
  ·exact⟨c,by simp[hi,hc],CLe.refl c⟩
 refine h.slot hx ?_ (fun i c' hi hc=>jV.of_blocks fun b o hb=>?_) (fun i c' b o hi hc hb hb'=>hi (h.inj i k _ _ b o hc he hb hb')) (fun b o hp=>?_) ?_ (hv _ hx (by simp)) hd
 ·refine⟨some g,cap,by simp,hlen,hcap,by simp,fun b hb=>?_⟩;simp only[Xs]at hb;subst hb;refine⟨hown,⟨_,ty,fz,hg',hfz,by rw[hsz];exact hfit⟩,hpub,fun j c hc'=>?_⟩;obtain⟨u,u1,u2⟩:=hc j c hc';refine⟨u,?_,u2.ext hx⟩;show World.cell? _ _=_;rw[al hg',u1]
 ·have hbg:b≠g:=fun e=>by subst e;exact hi (h.inj i k _ _ b o hc he hb rfl)
  exact⟨Pf _ _ _ _ hbg,fun o ho'=>ho'⟩
 ·obtain⟨v,hv⟩:=h.pubok b o hp;exact⟨v,by rw[hcellold b o hp,hv]⟩
 ·have hnotold:∀b,b<F.w0.heap.size->(¬∀o,F.br b o)->b≠g:=by
   intro b hb hnb e;subst e;refine hnb (fun o=>?_);rcases hown o with ho'|ho'
   ·omega
   ·exact ho'
  refine⟨q1.trans h.frame.os,q2.trans h.frame.tape,q3.trans h.frame.output,by rw[q4];exact h.frame.size,fun b hb hnb=>?_,fun b o hb hnb=>?_,fun b hb=>?_,h.frame.pub,h.frame.old,fun b o hp=>(hx.cell b o (h.frame.old b o hp)).trans (h.frame.pcell b o hp)⟩
  ·exact(Pf _ _ _ _ (hnotold b hb (fun k=>hnb 0 (k 0)))).trans (h.frame.block b hb hnb)
  ·exact(ai (Pf _ _ _ _ (hnotold b hb (fun k=>hnb (k o)))) o).trans (h.frame.cell b o hb hnb)
  ·intro hnb;have hbg:=hnotold b hb hnb;exact⟨(aT (Pf _ _ _ _ hbg)).trans (h.frame.kind b hb hnb).1,fun o=>(aK (Pf _ _ _ _ hbg) o).trans ((h.frame.kind b hb hnb).2 o)⟩
theorem CC(hT:aR P C.tbl){t:Nat}{x y:Operand}(hop:o.op=.store t x y){r:TR}(hr:aB C.tbl t=some r){k s1 i w off:Nat}{F:Fr}{s:AS}{a:Act}{Ω:Om}{eff:Eff}
 {next:Act->World->Prop}{Q:Exit->Act->World->Prop}(hopd:opd s.T x=.gptr k s1 i w off){τ:Ty}{s2:Nat}{xs:List (den τ)}(hcs:s.B k=some (.grow τ s2 xs))
 (h:Holds F s a Ω)(hpos:0<r.size)(hd:∀d,o.dst=some d->d<F.n)(he:Ch r k τ s2 xs s1 i w off (opd s.T y)=some eff)(ho:eff.asks)
 (hn:∀a' Ω',Holds F (s.put o.dst eff) a' Ω'->next a' Ω'.w):o.wp P a Ω.w next Q:=by
 have hx:=b9 h x;have hy:=b9 h y;rw[hopd]at hx;obtain⟨g,hxv,hxb⟩:=hx.gptr_inv;unfold Ch at he;split at he
 ·rename_i hw;subst hw;split at he
  ·rename_i c2 hst;split at he
   ·rename_i x' hx';simp only[Xs]at he;subst he;obtain⟨hs,hi⟩:s1=s2/\i<xs.length:=ho;obtain⟨cap,e1,e2,e3,hown,⟨cur,ty,fz,hg,hfz,hfit⟩,hpub,hcell⟩:=(h.slots k _ hcs).grow_at hxb hs;obtain⟨hlf,hlen,ds,hds,hpc⟩:=kC hst;have hyp:=hy.parts hlf;have hyl':(a.eval y).cells.size=r.size:=by have:=hyp.1;rw[hlen]at this;simpa using this.symm
    rw[iW]at hds;have hsplit:∀z:den τ,flat τ (xs.set i z)=flat τ (xs.take i)++cells τ z++flat τ (xs.drop (i+1)):=by intro z;rw[Ql,O3 hi,cJ];simp[flat]
    have hself:flat τ xs=flat τ (xs.take i)++cells τ (xs.getD i (dfl τ))++flat τ (xs.drop (i+1)):=by rw[<-hsplit];congr 1;simp[O4,hi]
    have htl:(flat τ (xs.take i)).length=i *ab τ:=by rw[aY,Pt,Nat.min_eq_left (Nat.le_of_lt hi)]
    have hbig:splice (flat τ xs) (i *ab τ+off) (ae (opd s.T y))=some (flat τ (xs.take i)++ds++flat τ (xs.drop (i+1))):=by rw[hself];exact ny _ _ _ _ _ _ _ hds htl
    have hrd:RdL (flat τ (xs.take i)++ds++flat τ (xs.drop (i+1))) (flat τ (xs.set i x')):=by rw[hsplit];exact((RdL.refl _).append (by rw[<-hpc];exact pA τ hx')).append (RdL.refl _)
    obtain⟨p1,p2⟩:=fj _ _ _ _ hbig;have hpl:(a.eval y).cells.toList.length=(ae (opd s.T y)).length:=hyp.1.symm;have hmul:xs.length *ab τ<=cap *ab τ:=OP _ e2;rw[aY]at p1;have hrun:=QD P g (i *ab τ+off) ty fz (a.eval y).cells.toList 0 cur Ω.w hg (by omega) (by omega) (hyp.leaf_one hlf);simp only[PR]at hrun
    have hh:=h.setGrow (dst:=o.dst) (val:=.undef) (v:=undef) (zs:=xs.set i x') (arr:=(cur.toList.take (i *ab τ+off)++(a.eval y).cells.toList++cur.toList.drop (i *ab τ+off+(a.eval y).cells.toList.length)).toArray)
     e1 (Od _) hown hg hfz hfit hpub (by simpa using e2) e3 (by simp;omega) (fun j c hc=>by
      have hjl:j<(flat τ (xs.set i x')).length:=by
       rcases O5 j (flat τ (xs.set i x')).length with q|q
       ·exact q
       ·rw[O2 q]at hc;cases hc
      obtain⟨c1,hc1⟩:∃c1,(flat τ (xs.take i)++ds++flat τ (xs.drop (i+1)))[j]?=some c1:=⟨_,NY (by rw[hrd.1];exact hjl)⟩;have hr1:=hrd.2 j c1 c hc1 hc
      suffices hq:∃v,(cur.toList.take (i *ab τ+off)++(a.eval y).cells.toList++cur.toList.drop (i *ab τ+off+(a.eval y).cells.toList.length)).toArray[j]?=some v/\V Ω c1 v by obtain⟨v,v1,v2⟩:=hq;exact⟨v,v1,hr1 _ _ v2⟩
      simp only[Pk];have hct:(cur.toList.take (i *ab τ+off)).length=i *ab τ+off:=by simp;omega
      have hft:((flat τ xs).take (i *ab τ+off)).length=i *ab τ+off:=by rw[Pt,aY];omega
      have hold:∀c',(flat τ xs)[j]?=some c'->∃v,cur.toList[j]?=some v/\V Ω c' v:=by intro c' h1;obtain⟨v,v1,v2⟩:=hcell j c' h1;rw[al hg]at v1;exact⟨v,by rw[Oh];exact v1,v2⟩
      rw[p2,OE]at hc1;rw[OE];rcases O5 j (i *ab τ+off)with k1|k1
      ·rw[Ob (by omega),Oy,O3 k1]at hc1;rw[Ob (by omega),Oy,O3 k1];exact hold _ hc1
      ·rw[Oe (by omega),hft]at hc1;rw[Oe (by omega),hct];rcases O5 (j-(i *ab τ+off)) (ae (opd s.T y)).length with k2|k2
       ·rw[Ob k2]at hc1;rw[Ob (by omega)];exact⟨_,NY (by omega),hyp.2 _ _ _ hc1 (NY (by omega))⟩
       ·rw[Oe k2,P9]at hc1;rw[Oe (by omega),P9,hpl];have ej:i *ab τ+off+(ae (opd s.T y)).length+(j-(i *ab τ+off)-(ae (opd s.T y)).length)=j:=by omega
        rw[ej]at hc1⊢;exact hold _ hc1) (fun Ω' _ _=>.undef _) hd
    refine j0 (w':=Ω.w.setRow g (cur.toList.take (i *ab τ+off)++(a.eval y).cells.toList++cur.toList.drop (i *ab τ+off+(a.eval y).cells.toList.length)).toArray) ?_ (hn _ _ hh);simp only[execOp,hop,hxv,Instr.storeAt,Instr.sureAddr,storeVar,Ou,OR,O6,(hT t r hr).tf.size,hyl'];simp only[ne_eq,QH,OL,hrun,O6]
   ·simp at he
  ·simp at he
 ·simp at he
theorem Holds.tell{F:Fr}{s:AS}{a:Act}{Ω:Om}(h:Holds F s a Ω){k m b cap:Nat}{τ:Ty}{x0 x:den τ}{vs:List Value}{dst:Option Nat}
 (hB:s.B k=some (.tailp τ m x0))(he:Ω.e k=some (.tail (m+1) (some b) cap))(hvl:VL Ω (cells τ x) vs)(hd:∀d,dst=some d->d<F.n) :
  ∃Ω',(storeCells ⟨b,m *ab τ,none⟩ vs 0).run P Ω.w=.ok () Ω'.w/\Holds F ⟨bz s.T dst .undef,bB s.B [(k,.tailp τ m x)]⟩ (a.put dst undef) Ω':=by
 obtain⟨b',cap',e1,e2,e3,hown,⟨cur,ty,fz,hg,hfz,hfit⟩,hpub,_⟩:=h.slots k _ hB;rw[he]at e1;simp only[Xs,CObj.tail.injEq,OV]at e1;obtain⟨rfl,rfl⟩:=e1;have hvn:vs.length=ab τ:=by rw[<-hvl.1,aQ]
 have hmul:(m+1) *ab τ<=cap *ab τ:=OP _ e2;rw[OU,QX]at hmul;have hst:=QD P b (m *ab τ) ty fz vs 0 cur Ω.w hg (by omega) (by simp;omega) (hvl.leaf_one (kr τ x));simp only[PR]at hst;have hg':=setRow_heap Ω.w b cur (cur.toList.take (m *ab τ)++vs++cur.toList.drop (m *ab τ+vs.length)).toArray ty fz hg;have hsz:(cur.toList.take (m *ab τ)++vs++cur.toList.drop (m *ab τ+vs.length)).toArray.size=cur.size:=by simp;omega
 obtain⟨q1,q2,q3,q4⟩:=mu Ω.w b (cur.toList.take (m *ab τ)++vs++cur.toList.drop (m *ab τ+vs.length)).toArray
 have hcellold:∀b' o,Ω.pub b' o->(Ω.w.setRow b (cur.toList.take (m *ab τ)++vs++cur.toList.drop (m *ab τ+vs.length)).toArray).cell? ⟨b',o,none⟩=Ω.w.cell? ⟨b',o,none⟩:=by
  intro b' o hp;by_cases hb:b'=b
  ·subst hb;rw[al hg',al hg]
   have hlt:o<m *ab τ:=by
    rcases O5 o (m *ab τ)with k|k
    ·exact k
    ·exact absurd hp (hpub o k)
   simp only[Pk];rw[OE,Ob (by simp;omega),Oy,O3 hlt,Oh]
  ·exact ai (Pf _ _ _ _ hb) o
 have hx:Ext Ω ⟨fun i=>if k=i then some (.tail (m+1) (some b) cap)else Ω.e i,
   Ω.w.setRow b (cur.toList.take (m *ab τ)++vs++cur.toList.drop (m *ab τ+vs.length)).toArray,Ω.pub⟩:=by
  refine⟨fun i c hc=>?_,fun _ _ p=>p,hcellold⟩;by_cases hi:k=i
  ·subst hi;rw[he]at hc;simp at hc;subst hc;exact⟨_,by simp,CLe.refl _⟩
  ·exact⟨c,by simp[hi,hc],CLe.refl c⟩
 refine⟨_,hst,h.slot hx ?_ (fun i c' hi hc=>jV.of_blocks fun b' o hb=>?_) (fun i c' b' o hi hc hb hb'=>hi (h.inj i k _ _ b' o hc he hb hb')) (fun b' o hp=>?_) ?_ (.undef _) hd⟩
 ·refine⟨b,cap,by simp,e2,e3,hown,⟨_,ty,fz,hg',hfz,by rw[hsz];exact hfit⟩,hpub,fun j c hc=>?_⟩
  have hj:j<vs.length:=by
   rw[<-hvl.1];rcases O5 j (cells τ x).length with q|q
   ·exact q
   ·rw[O2 q]at hc;cases hc
  refine⟨vs[j],?_,(hvl.2 j c _ hc (NY hj)).ext hx⟩;show World.cell? _ _=_;rw[al hg'];have htl:(List.take (m *ab τ) cur.toList).length=m *ab τ:=by simp;omega
  simp only[Pk];rw[OE,Oe (by omega),htl,Qx,Ob hj,NY hj]
 ·have hbg:b'≠b:=fun e=>by subst e;exact hi (h.inj i k _ _ b' o hc he hb rfl)
  exact⟨Pf _ _ _ _ hbg,fun o ho'=>ho'⟩
 ·obtain⟨v,hv⟩:=h.pubok b' o hp;exact⟨v,by rw[hcellold b' o hp,hv]⟩
 ·have hnotold:∀b',b'<F.w0.heap.size->(¬∀o,F.br b' o)->b'≠b:=by
   intro b' hb hnb e;subst e;refine hnb (fun o=>?_);rcases hown o with ho'|ho'
   ·omega
   ·exact ho'
  refine⟨q1.trans h.frame.os,q2.trans h.frame.tape,q3.trans h.frame.output,by rw[q4];exact h.frame.size,fun b' hb hnb=>?_,fun b' o hb hnb=>?_,fun b' hb=>?_,h.frame.pub,h.frame.old,fun b' o hp=>(hx.cell b' o (h.frame.old b' o hp)).trans (h.frame.pcell b' o hp)⟩
  ·exact(Pf _ _ _ _ (hnotold b' hb (fun k=>hnb 0 (k 0)))).trans (h.frame.block b' hb hnb)
  ·exact(ai (Pf _ _ _ _ (hnotold b' hb (fun k=>hnb (k o)))) o).trans (h.frame.cell b' o hb hnb)
  ·intro hnb;have hbg:=hnotold b' hb hnb;exact⟨(aT (Pf _ _ _ _ hbg)).trans (h.frame.kind b' hb hnb).1,fun o=>(aK (Pf _ _ _ _ hbg) o).trans ((h.frame.kind b' hb hnb).2 o)⟩
theorem Iw(hT:aR P C.tbl){t:Nat}{x y:Operand}(hop:o.op=.store t x y):cv P C o:=by
 intro F s a Ω eff next Q h hd he ho hn
 simp only[au,hop]at he;have hx:=b9 h x;have hy:=b9 h y;split at he
 ·rename_i r hr;split at he
  ·rename_i hz;split at he
   ·rename_i id off hopd hpa;simp only[Xs]at he;subst he;rw[hopd]at hx;obtain⟨g,bo,len,hxv,hxb⟩:=hx.ptr_inv;have hp:=hy.parts (by rw[hpa];rfl);have hnil:(a.eval y).cells.toList=[]:=by have:=hp.1;rw[hpa]at this;exact Ps.1 this.symm
    have hsz:(a.eval y).cells.size=r.size:=by rw[hz,<-PE,hnil];rfl
    refine j0 (w':=Ω.w) ?_ (hn _ _ (h.pure (.undef _) hd));simp only[execOp,hop,hxv,Instr.storeAt,Instr.sureAddr,storeVar,Ou,OR,O6,(hT t r hr).tf.size,hsz];simp only[ne_eq,QH,OL,hnil];rfl
   ·simp at he
  rename_i hsz0;have hpos:0<r.size:=by rw[hsz0];exact Nat.succ_pos _
  split at he
  ·rename_i id off hopd;rw[hopd]at hx;obtain⟨g,bo,len,hxv,hxb⟩:=hx.ptr_inv;split at he
   ·rename_i c hcs;split at he
    ·rename_i c' hst;simp only[Xs]at he;subst he;obtain⟨hlf,hlen,ds,hds,hpc⟩:=kC hst;have hyp:=hy.parts hlf;have hyl':(a.eval y).cells.size=r.size:=by have:=hyp.1;rw[hlen]at this;simpa using this.symm
     obtain⟨hst,hh⟩:=h.store (P:=P) (dst:=o.dst) hcs hxb hds hyp hlf (by rw[hpc];exact RdL.refl _) (by omega) hd;refine j0 (w':=Ω.w.setCells g (bo+off) (a.eval y).cells.toList) ?_ (hn _ _ hh);simp only[execOp,hop,hxv,Instr.storeAt,Instr.sureAddr,storeVar,Ou,OR,O6,(hT t r hr).tf.size,hyl'];simp only[ne_eq,QH,OL,hst,O6]
    ·simp at he
   ·simp at he
  ·rename_i id i w off hopd;split at he
   ·rename_i τ xs hcs;exact FM hT hop hr hopd hcs h hpos hd he ho hn
   ·simp at he
  ·rename_i k s1 i w off hopd;split at he
   ·rename_i τ s2 xs hcs;exact CC hT hop hr hopd hcs h hpos hd he ho hn
   ·simp at he
  ·rename_i τ n k hopd;rw[hopd]at hx;split at he
   ·rename_i τ' m x0 hB;split at he
    ·rename_i hτ;subst hτ;split at he
     ·rename_i v hv;split at he
      ·rename_i hck;simp only[Xs]at he;subst he;have hnm:n=m:=ho;subst hnm;simp only[NZ,Nat.beq_eq]at hck;obtain⟨hlf,hln,hrw⟩:=hck;have hlen:=bX _ _ hln;have hyp:=hy.parts hlf;have hyl':(a.eval y).cells.size=r.size:=by have:=hyp.1;rw[hlen]at this;simpa using this.symm
       generalize hxe:a.eval x=xv at hx
       cases hx with
       |tptr _ _ _ p hp=>obtain⟨b',cap',e1,e2,_⟩:=h.slots k _ hB;obtain⟨m',base,cap2,r1,r2,r3⟩:=hp;rw[e1]at r1;simp only[Xs,CObj.tail.injEq]at r1;obtain⟨rfl,rfl,rfl⟩:=r1;obtain⟨b2,g1,rfl⟩:=r3 rfl;simp only[Xs]at g1;subst g1;obtain⟨Ω',hst,hh⟩:=h.tell (P:=P) (dst:=o.dst) hB e1 (hyp.rd (pA _ hv)) hd;refine j0 (w':=Ω'.w) ?_ (hn _ _ hh);simp only[execOp,hop,hxe,Instr.storeAt,Instr.sureAddr,storeVar,Ou,OR,O6,(hT t r hr).tf.size,hyl'];simp only[ne_eq,QH,OL,hst,O6]
      ·simp at he
     ·simp at he
    ·simp at he
   ·simp at he
  ·simp at he
 ·simp at he
theorem sI(w:World)(t ty e:Nat)(i:TypeInfo)(ht:P.underlying t=some (.slice e))(hi:P.info? e=some i)
 (g sLen sCap bt:Nat)(cur:Array Value)(fz:Nat×Nat)(hg:w.heap[g]?=some (.cells cur bt fz))(hfz:fz.2<=sLen *i.size)
 (a:Addr)(m c:Nat)(news:List Value)(hl:news.length=m *i.size)(hnews:∀j u,news[j]?=some u->w.cell? (a.add j)=some u)(h1:∀u∈news,u.oneCell'=true)
 (hroom:sLen+m<=sCap)(hfit:sLen *i.size+news.length<=cur.size) :
  (Builtin.append_ #[t,t] ty #[.slice (some ⟨g,0,none⟩) sLen sCap,.slice (some a) m c]).run P w=
   .ok (.slice (some ⟨g,0,none⟩) (sLen+m) sCap) (w.setRow g (cur.toList.take (sLen *i.size)++news++cur.toList.drop (sLen *i.size+news.length)).toArray):=by
 have hf:=Rm (P:=P) w i.size m a m c news hl hnews;have hst:=QD P g (sLen *i.size) bt fz news 0 cur w hg (by simpa using hfz) (by simpa using hfit) h1;simp only[PR]at hst;simp[Builtin.append_,Pc ht,sizeOf,typeInfo,hi,Builtin.lenOf,hroom,hf,Addr.add_lit,hst]
theorem gn(w:World)(t ty e:Nat)(i:TypeInfo)(ht:P.underlying t=some (.slice e))(hi:P.info? e=some i)
 (x:Option Addr)(sLen sCap:Nat)(h:sLen<=sCap) :
  (Builtin.append_ #[t,t] ty #[.slice x sLen sCap,.slice none 0 0]).run P w=.ok (.slice x sLen sCap) w:=by
 cases x<;>simp[Builtin.append_,Pc ht,sizeOf,typeInfo,hi,Builtin.lenOf,h,Builtin.firstCells,storeCells]
theorem gY(w:World)(t ty e:Nat)(i:TypeInfo)(ht:P.underlying t=some (.slice e))(hi:P.info? e=some i)(a:Addr)(c:Nat) :
  (Builtin.append_ #[t,t] ty #[.slice none 0 0,.slice (some a) 0 c]).run P w=.ok (.slice none 0 0) w:=by
 have hf:=Rm (P:=P) w i.size 0 a 0 c [] (by simp) (fun j v h=>by simp at h);simp[Builtin.append_,Pc ht,sizeOf,typeInfo,hi,Builtin.lenOf,hf]
theorem gO(b off j:Nat):(⟨b,off,none⟩:Addr).add j=⟨b,off+j,none⟩:=by unfold Addr.add;split<;>simp_all
theorem V.src{Ω:Om}{τ:Ty}{ys:List (den τ)}{o:Option Nat}{v:Value}(h:V Ω (.lst τ ys o) v) :
  (v=.slice none 0 0/\ys=[])∨∃a c us,v=.slice (some a) ys.length c/\us.length=ys.length *ab τ/\VL Ω (flat τ ys) us/\
   (∀j u,us[j]?=some u->Ω.w.cell? (a.add j)=some u)/\(∀u∈us,u.oneCell'=true):=by
 rcases h.lst_inv with⟨h1,hv,_⟩|⟨h1,_,a0,hv⟩|⟨b,off,cap,vals,hv,h1,h2,h3,h4,h5⟩
 ·exact Or.inl ⟨hv,h1⟩
 ·subst h1;exact Or.inr ⟨a0,0,[],hv,by simp,⟨rfl,fun j c v hc=>by simp[flat]at hc⟩,fun j u hj=>by simp at hj,fun u hu=>by simp at hu⟩
 ·obtain⟨us,u1,u2,u3⟩:=V.row_cells h4 h5;refine Or.inr ⟨⟨b,off,none⟩,cap,us,hv,u1,u2,fun j u hj=>?_,u2.leaf_one (vR τ ys)⟩;rw[gO];exact u3 j u hj
theorem fE(w:World)(aF old e:Nat)(h:aF<=bj):aF<=grownCap w aF old e/\grownCap w aF old e<=bj:=by have h1:=grownCap_ge w aF old e;have h2:=grownCap_le_maxLen w aF old e (by unfold bj at h;unfold maxLen;omega);unfold maxLen at h2;unfold bj;exact⟨h1,by omega⟩
theorem Holds.grow{F:Fr}{s:AS}{a:Act}{Ω:Om}{k aF old e:Nat}{τ:Ty}{zs:List (den τ)}{rest:List Value}{us:List Value}{dst:Option Nat}
 (h:Holds F s a Ω)(hn:Ω.e k=none∨∃n base cap,Ω.e k=some (.tail n base cap)/\n<zs.length)(hz:zs.length=aF)(hneed:aF<=bj)
 (hu:VL Ω (flat τ zs) us)(hrest:rest.length=(grownCap Ω.w aF old e-aF) *ab τ)(hd:∀d,dst=some d->d<F.n) :
  ∃Ω',Ω'.w=Ω.w.drew.alloc (.cells (us++rest).toArray e)/\
   Holds F ⟨bz s.T dst (.lst τ zs (some k)),bB s.B [(k,.tail τ zs.length)]⟩ (a.put dst (.slice (some ⟨Ω.w.heap.size,0,none⟩) aF (grownCap Ω.w aF old e))) Ω':=by
 subst hz;obtain⟨g1,g2⟩:=fE Ω.w zs.length old e hneed;have hul:us.length=zs.length *ab τ:=by rw[<-hu.1,aY]
 have hx0:Ext Ω ⟨Ω.e,Ω.w.drew,Ω.pub⟩:=⟨fun _ c hc=>⟨c,hc,CLe.refl c⟩,fun _ _ p=>p,fun _ _ _=>rfl⟩;have h':=h.drew
 refine⟨_,rfl,h'.alloc (d:=k) (c:=.tail zs.length (some Ω.w.heap.size) (grownCap Ω.w zs.length old e)) (x:=.cells (us++rest).toArray e) (p:=fun o=>o<zs.length *ab τ) ?_ (fun b o hb=>by simpa[occ]using hb.symm)
  (fun hx=>?_) (fun o ho=>?_) (fun hx=>?_) hd⟩
 ·rcases hn with hn|⟨n,base,cap,hn,hlt⟩
  ·exact Or.inl hn
  ·exact Or.inr ⟨_,hn,by simp[CLe];omega⟩
 ·refine⟨some Ω.w.heap.size,grownCap Ω.w zs.length old e,by simp,g1,g2,by simp,fun b hb=>?_⟩;simp at hb;subst hb;refine⟨fun _=>Or.inl h.frame.size,_,e,(0,0),bG _ _,rfl,?_,fun o ho hp=>?_⟩
  ·simp[hul,hrest,<-OU];rw[show zs.length+(grownCap Ω.w zs.length old e-zs.length)=grownCap Ω.w zs.length old e from by omega];exact Od _
  ·rcases hp with hp|⟨_,hp⟩
   ·have:=h.cell_lt hp;omega
   ·omega
 ·have hc:=al (bG Ω.w.drew (.cells (us++rest).toArray e)) o;exact⟨us[o]'(by omega),hc.trans (by simp[QI,hul,ho])⟩
 ·refine sG (vs:=us) (bG _ _) (by rw[<-hul];simp) ((hu.ext hx0).ext hx) g1 g2 (fun i hi=>Or.inr ⟨rfl,hi⟩) ?_;intro id hid;simp at hid;subst hid;exact⟨zs.length,some Ω.w.heap.size,_,by simp,Od _,fun _=>rfl⟩
theorem Holds.same{F:Fr}{s:AS}{a:Act}{Ω:Om}{k:Nat}{τ:Ty}{xs:List (den τ)}{n:Nat}{v:Value}{dst:Option Nat}
 (h:Holds F s a Ω)(hB:s.B k=some (.tail τ n))(hn:xs.length=n)(hv:V Ω (.lst τ xs (some k)) v)(hd:∀d,dst=some d->d<F.n) :
  Holds F ⟨bz s.T dst (.lst τ (xs++[]) (some k)),bB s.B [(k,.tail τ (xs++[]).length)]⟩ (a.put dst v) Ω:=by
 have e:bB s.B [(k,.tail τ (xs++[]).length)]=s.B:=by
  funext j;rw[iy];by_cases hj:k=j
  ·subst hj;simp[hB,hn]
  ·simp[hj]
 rw[e,P2];exact h.pure hv hd
theorem Holds.room{F:Fr}{s:AS}{a:Act}{Ω:Om}{k g cap ty:Nat}{τ:Ty}{xs ys:List (den τ)}{cur:Array Value}{olds news:List Value}{dst:Option Nat}
 (h:Holds F s a Ω)(he:Ω.e k=some (.tail xs.length (some g) cap))(hown:∀o,F.own g o){fz:Nat×Nat}(hg:Ω.w.heap[g]?=some (.cells cur ty fz))(hfz:fz.2=0)
 (hfit:cap *ab τ<=cur.size)(hpub:∀o,xs.length *ab τ<=o->¬Ω.pub g o)(hroom:xs.length+ys.length<=cap)(hcap:cap<=bj)
 (ho:VL Ω (flat τ xs) olds)(hoc:∀j u,olds[j]?=some u->Ω.w.cell? ⟨g,j,none⟩=some u)(hnw:VL Ω (flat τ ys) news)
 (hxp:∀i,i<xs.length *ab τ->Ω.pub g i)(hd:∀d,dst=some d->d<F.n) :
  ∃Ω',Ω'.w=Ω.w.setRow g (cur.toList.take (xs.length *ab τ)++news++cur.toList.drop (xs.length *ab τ+news.length)).toArray/\
   Holds F ⟨bz s.T dst (.lst τ (xs++ys) (some k)),bB s.B [(k,.tail τ (xs++ys).length)]⟩ (a.put dst (.slice (some ⟨g,0,none⟩) (xs.length+ys.length) cap)) Ω':=by
 have hol:olds.length=xs.length *ab τ:=by rw[<-ho.1,aY]
 have hnl:news.length=ys.length *ab τ:=by rw[<-hnw.1,aY]
 have hmul:(xs.length+ys.length) *ab τ<=cap *ab τ:=OP _ hroom;rw[OU]at hmul
 have htake:cur.toList.take (xs.length *ab τ)=olds:=by
  apply Qr;intro j;rw[Oy];split
  ·rename_i hj;obtain⟨u,hu⟩:∃u,olds[j]?=some u:=⟨_,NY (by omega)⟩;have:=hoc j u hu;rw[al hg]at this;rw[hu,Oh,this]
  ·rename_i hj;rw[O2 (by omega)]
 have hg':=setRow_heap Ω.w g cur (cur.toList.take (xs.length *ab τ)++news++cur.toList.drop (xs.length *ab τ+news.length)).toArray ty fz hg;have hsz:(cur.toList.take (xs.length *ab τ)++news++cur.toList.drop (xs.length *ab τ+news.length)).toArray.size=cur.size:=by simp;omega
 obtain⟨q1,q2,q3,q4⟩:=mu Ω.w g (cur.toList.take (xs.length *ab τ)++news++cur.toList.drop (xs.length *ab τ+news.length)).toArray
 have hcellold:∀b o,Ω.pub b o->(Ω.w.setRow g (cur.toList.take (xs.length *ab τ)++news++cur.toList.drop (xs.length *ab τ+news.length)).toArray).cell? ⟨b,o,none⟩=Ω.w.cell? ⟨b,o,none⟩:=by
  intro b o hp;by_cases hb:b=g
  ·subst hb;rw[al hg',al hg]
   have hlt:o<xs.length *ab τ:=by
    rcases O5 o (xs.length *ab τ)with k|k
    ·exact k
    ·exact absurd hp (hpub o k)
   simp only[Pk];rw[OE,Ob (by simp;omega),Oy,O3 hlt,Oh]
  ·exact ai (Pf _ _ _ _ hb) o
 have hx:Ext Ω ⟨fun i=>if k=i then some (.tail (xs.length+ys.length) (some g) cap)else Ω.e i,
   Ω.w.setRow g (cur.toList.take (xs.length *ab τ)++news++cur.toList.drop (xs.length *ab τ+news.length)).toArray,
   fun b o=>Ω.pub b o∨(b=g/\o<(xs.length+ys.length) *ab τ)⟩:=by
  refine⟨fun i c hc=>?_,fun _ _ p=>Or.inl p,hcellold⟩;by_cases hi:k=i
  ·subst hi;rw[he]at hc;simp at hc;subst hc;exact⟨_,by simp;rfl,by simp[CLe]⟩
  ·exact⟨c,by simp[hi,hc],CLe.refl c⟩
 have hzl:(xs++ys).length=xs.length+ys.length:=Oj;refine⟨_,rfl,h.slot hx ?_ (fun i c' hi hc=>jV.of_blocks fun b o hb=>?_) (fun i c' b o hi hc hb hb'=>?_) (fun b o hp=>?_) ?_ ?_ hd⟩
 ·rw[hzl];refine⟨some g,cap,by simp,hroom,hcap,by simp,fun b hb=>?_⟩;simp at hb;subst hb;refine⟨hown,_,ty,fz,hg',hfz,by rw[hsz];exact hfit,fun o ho' hp=>?_⟩;rw[OU]at ho';rcases hp with hp|⟨_,hp⟩
  ·exact hpub o (by omega) hp
  ·rw[OU]at hp;omega
 ·have hbg:b≠g:=fun e=>by subst e;exact hi (h.inj i k _ _ b o hc he hb rfl)
  exact⟨Pf _ _ _ _ hbg,fun o ho'=>ho'.resolve_right (fun e=>hbg e.1)⟩
 ·exact hi (h.inj i k _ _ b o hc he hb hb')
 ·rcases hp with hp|⟨rfl,hp⟩
  ·obtain⟨v,hv⟩:=h.pubok b o hp;exact⟨v,by rw[hcellold b o hp,hv]⟩
  ·rw[al hg'];rw[OU]at hp;exact⟨_,Oz (by rw[hsz];omega)⟩
 ·have hnotold:∀b,b<F.w0.heap.size->(¬∀o,F.br b o)->b≠g:=by
   intro b hb hnb e;subst e;refine hnb (fun o=>?_);rcases hown o with ho'|ho'
   ·omega
   ·exact ho'
  refine⟨q1.trans h.frame.os,q2.trans h.frame.tape,q3.trans h.frame.output,by rw[q4];exact h.frame.size,fun b hb hnb=>?_,fun b o hb hnb=>?_,fun b hb=>?_,fun b o hp=>?_,fun b o hp=>Or.inl (h.frame.old b o hp),fun b o hp=>(hx.cell b o (h.frame.old b o hp)).trans (h.frame.pcell b o hp)⟩
  ·exact(Pf _ _ _ _ (hnotold b hb (fun k=>hnb 0 (k 0)))).trans (h.frame.block b hb hnb)
  ·exact(ai (Pf _ _ _ _ (hnotold b hb (fun k=>hnb (k o)))) o).trans (h.frame.cell b o hb hnb)
  ·intro hnb;have hbg:=hnotold b hb hnb;exact⟨(aT (Pf _ _ _ _ hbg)).trans (h.frame.kind b hb hnb).1,fun o=>(aK (Pf _ _ _ _ hbg) o).trans ((h.frame.kind b hb hnb).2 o)⟩
  ·rcases hp with hp|⟨rfl,_⟩
   ·exact h.frame.pub b o hp
   ·exact Or.inr (hown o)
 ·have:=sG (Ω:=⟨fun i=>if k=i then some (.tail (xs.length+ys.length) (some g) cap)else Ω.e i,
   Ω.w.setRow g (cur.toList.take (xs.length *ab τ)++news++cur.toList.drop (xs.length *ab τ+news.length)).toArray,
   fun b o=>Ω.pub b o∨(b=g/\o<(xs.length+ys.length) *ab τ)⟩) (τ:=τ) (xs:=xs++ys) (o:=some k) (cap:=cap) (vs:=olds++news) hg'
   (by
    rw[hzl,htake];rw[QC (by simp[hol,hnl,OU]),Qb (by simp[hol,hnl,OU])])
   (by rw[cJ];exact(ho.ext hx).append (hnw.ext hx)) (by rw[hzl];exact hroom) hcap
   (fun i hi=>by
    rw[hzl]at hi;exact Or.inr ⟨rfl,hi⟩)
   (by
    intro id hid;simp at hid;subst hid;exact⟨xs.length+ys.length,some g,cap,by simp,by rw[hzl];exact Od _,fun _=>by rw[hzl];rfl⟩)
  rw[hzl]at this;exact this
theorem ax{w w':World}{a:Act}{x y:Operand}{t t':Nat}{v:Value}(hop:o.op=.call {callee:=.builtin .append,args:=#[x,y],argTypes:=#[t,t']})
 (h:(Builtin.append_ #[t,t'] o.type #[a.eval x,a.eval y]).run P w=.ok v w'):(execOp a.eval o).run P w=.ok (.value v) w':=by
 simp[execOp,hop,resolve,invoke,builtin,h]
theorem V.mkP{Ω:Om}{τ:Ty}{xs:List (den τ)}{k g cap:Nat}(hv:V Ω (.lst τ xs none) (.slice (some ⟨g,0,none⟩) xs.length cap))(hc:xs.length+1<=cap)
 (ht:iu Ω (some k) (xs.length+1) (.slice (some ⟨g,0,none⟩) (xs.length+1) cap)):V Ω (.lstp τ xs k) (.slice (some ⟨g,0,none⟩) (xs.length+1) cap):=by
 rcases hv.lst_inv with⟨_,hv,_⟩|⟨_,_,a0,hv⟩|⟨b,off,cap',vals,hv,h1,h2,h3,h4,h5⟩
 ·cases hv
 ·simp only[Po]at hv;omega
 ·simp only[Po,Xs,Qt,OV,OK]at hv;obtain⟨⟨rfl,rfl⟩,rfl⟩:=hv;exact .lstp τ xs k g 0 cap vals hc h2 ht h4 h5
theorem Holds.growP{F:Fr}{s:AS}{a:Act}{Ω:Om}{k aF old e:Nat}{τ:Ty}{xs:List (den τ)}{z:den τ}{rest us:List Value}{dst:Option Nat}
 (h:Holds F s a Ω)(hn:Ω.e k=none∨∃n base cap,Ω.e k=some (.tail n base cap)/\n<xs.length+1)(hz:aF=xs.length+1)(hneed:aF<=bj)
 (hu:VL Ω (flat τ (xs++[z])) us)(hrest:rest.length=(grownCap Ω.w aF old e-aF) *ab τ)(hd:∀d,dst=some d->d<F.n) :
  ∃Ω',Ω'.w=Ω.w.drew.alloc (.cells (us++rest).toArray e)/\
   Holds F ⟨bz s.T dst (.lstp τ xs k),bB s.B [(k,.tailp τ xs.length z)]⟩ (a.put dst (.slice (some ⟨Ω.w.heap.size,0,none⟩) aF (grownCap Ω.w aF old e))) Ω':=by
 subst hz;obtain⟨g1,g2⟩:=fE Ω.w (xs.length+1) old e hneed;have hul:us.length=(xs.length+1) *ab τ:=by rw[<-hu.1,aY];simp
 have hmul:(xs.length+1) *ab τ=xs.length *ab τ+ab τ:=by rw[OU,QX]
 have hx0:Ext Ω ⟨Ω.e,Ω.w.drew,Ω.pub⟩:=⟨fun _ c hc=>⟨c,hc,CLe.refl c⟩,fun _ _ p=>p,fun _ _ _=>rfl⟩;have h':=h.drew;have hflat:flat τ (xs++[z])=flat τ xs++cells τ z:=by rw[cJ];simp[flat]
 have hfl:(flat τ xs).length=xs.length *ab τ:=aY τ xs
 have hua:VL Ω (flat τ xs) (us.take (xs.length *ab τ)):=by
  have:=hu;rw[hflat]at this;refine⟨by simp;omega,fun j c v hc hv=>?_⟩
  have hj:j<(flat τ xs).length:=by
   rcases O5 j (flat τ xs).length with q|q
   ·exact q
   ·rw[O2 q]at hc;cases hc
  refine this.2 j c v (by rw[Ob hj];exact hc) ?_;rw[Oy]at hv;split at hv
  ·exact hv
  ·cases hv
 have hsize:xs.length *ab τ+ab τ<=(us++rest).toArray.size:=by simp;omega
 refine⟨_,rfl,h'.alloc (d:=k) (c:=.tail (xs.length+1) (some Ω.w.heap.size) (grownCap Ω.w (xs.length+1) old e)) (x:=.cells (us++rest).toArray e) (p:=fun o=>o<xs.length *ab τ) ?_ (fun b o hb=>by simpa[occ]using hb.symm)
  (fun hx=>?_) (fun o ho=>?_) (fun hx=>?_) hd⟩
 ·rcases hn with hn|⟨n,base,cap,hn,hlt⟩
  ·exact Or.inl hn
  ·exact Or.inr ⟨_,hn,by simp[CLe];omega⟩
 ·refine⟨Ω.w.heap.size,grownCap Ω.w (xs.length+1) old e,by simp,g1,g2,fun _=>Or.inl h.frame.size,⟨_,e,(0,0),bG _ _,rfl,?_⟩,fun o ho hp=>?_,fun j c hc=>?_⟩
  ·simp[hul,hrest,<-OU];rw[show xs.length+1+(grownCap Ω.w (xs.length+1) old e-(xs.length+1))=grownCap Ω.w (xs.length+1) old e from by omega];exact Od _
  ·rcases hp with hp|⟨_,hp⟩
   ·have:=h.cell_lt hp;omega
   ·omega
  ·have hj:j<ab τ:=by
    rw[<-aQ τ z];rcases O5 j (cells τ z).length with q|q
    ·exact q
    ·rw[O2 q]at hc;cases hc
   have hjl:xs.length *ab τ+j<us.length:=by omega
   refine⟨us[xs.length *ab τ+j],?_,?_⟩
   ·have hcell:=al (bG Ω.w.drew (.cells (us++rest).toArray e)) (xs.length *ab τ+j);exact hcell.trans (by simp[QI,hjl])
   ·refine((hu.2 (xs.length *ab τ+j) c _ ?_ (NY hjl)).ext hx0).ext hx;rw[hflat,Oe (by omega),hfl,Qx];exact hc
 ·have hc:=al (bG Ω.w.drew (.cells (us++rest).toArray e)) o;exact⟨us[o]'(by omega),hc.trans (by simp[QI,show o<us.length by omega])⟩
 ·have hv:=sG (τ:=τ) (xs:=xs) (o:=none) (cap:=grownCap Ω.w (xs.length+1) old e) (vs:=us.take (xs.length *ab τ)) (bG Ω.w.drew (.cells (us++rest).toArray e)) (by
    rw[QC (by omega)]) ((hua.ext hx0).ext hx) (by omega) g2 (fun i hi=>Or.inr ⟨rfl,hi⟩) (fun id hid=>by cases hid)
  refine V.mkP hv g1 ?_;intro id hid;simp at hid;subst hid;exact⟨xs.length+1,some Ω.w.heap.size,_,by simp,Od _,fun _=>rfl⟩
theorem Holds.roomP{F:Fr}{s:AS}{a:Act}{Ω:Om}{k g cap ty:Nat}{τ:Ty}{xs:List (den τ)}{z:den τ}{cur:Array Value}{olds news:List Value}{dst:Option Nat}
 (h:Holds F s a Ω)(he:Ω.e k=some (.tail xs.length (some g) cap))(hown:∀o,F.own g o){fz:Nat×Nat}(hg:Ω.w.heap[g]?=some (.cells cur ty fz))(hfz:fz.2=0)
 (hfit:cap *ab τ<=cur.size)(hpub:∀o,xs.length *ab τ<=o->¬Ω.pub g o)(hroom:xs.length+1<=cap)(hcap:cap<=bj)
 (ho:VL Ω (flat τ xs) olds)(hoc:∀j u,olds[j]?=some u->Ω.w.cell? ⟨g,j,none⟩=some u)(hnw:VL Ω (cells τ z) news)
 (hxp:∀i,i<xs.length *ab τ->Ω.pub g i)(hd:∀d,dst=some d->d<F.n) :
  ∃Ω',Ω'.w=Ω.w.setRow g (cur.toList.take (xs.length *ab τ)++news++cur.toList.drop (xs.length *ab τ+news.length)).toArray/\
   Holds F ⟨bz s.T dst (.lstp τ xs k),bB s.B [(k,.tailp τ xs.length z)]⟩ (a.put dst (.slice (some ⟨g,0,none⟩) (xs.length+1) cap)) Ω':=by
 have hol:olds.length=xs.length *ab τ:=by rw[<-ho.1,aY]
 have hnl:news.length=ab τ:=by rw[<-hnw.1,aQ]
 have hmul:(xs.length+1) *ab τ<=cap *ab τ:=OP _ hroom;rw[OU,QX]at hmul
 have htake:cur.toList.take (xs.length *ab τ)=olds:=by
  apply Qr;intro j;rw[Oy];split
  ·rename_i hj;obtain⟨u,hu⟩:∃u,olds[j]?=some u:=⟨_,NY (by omega)⟩;have:=hoc j u hu;rw[al hg]at this;rw[hu,Oh,this]
  ·rename_i hj;rw[O2 (by omega)]
 have hg':=setRow_heap Ω.w g cur (cur.toList.take (xs.length *ab τ)++news++cur.toList.drop (xs.length *ab τ+news.length)).toArray ty fz hg;have hsz:(cur.toList.take (xs.length *ab τ)++news++cur.toList.drop (xs.length *ab τ+news.length)).toArray.size=cur.size:=by simp;omega
 obtain⟨q1,q2,q3,q4⟩:=mu Ω.w g (cur.toList.take (xs.length *ab τ)++news++cur.toList.drop (xs.length *ab τ+news.length)).toArray
 have hcellold:∀b o,Ω.pub b o->(Ω.w.setRow g (cur.toList.take (xs.length *ab τ)++news++cur.toList.drop (xs.length *ab τ+news.length)).toArray).cell? ⟨b,o,none⟩=Ω.w.cell? ⟨b,o,none⟩:=by
  intro b o hp;by_cases hb:b=g
  ·subst hb;rw[al hg',al hg]
   have hlt:o<xs.length *ab τ:=by
    rcases O5 o (xs.length *ab τ)with k|k
    ·exact k
    ·exact absurd hp (hpub o k)
   simp only[Pk];rw[OE,Ob (by simp;omega),Oy,O3 hlt,Oh]
  ·exact ai (Pf _ _ _ _ hb) o
 have hx:Ext Ω ⟨fun i=>if k=i then some (.tail (xs.length+1) (some g) cap)else Ω.e i,
   Ω.w.setRow g (cur.toList.take (xs.length *ab τ)++news++cur.toList.drop (xs.length *ab τ+news.length)).toArray,Ω.pub⟩:=by
  refine⟨fun i c hc=>?_,fun _ _ p=>p,hcellold⟩;by_cases hi:k=i
  ·subst hi;rw[he]at hc;simp at hc;subst hc;exact⟨_,by simp;rfl,by simp[CLe]⟩
  ·exact⟨c,by simp[hi,hc],CLe.refl c⟩
 refine⟨_,rfl,h.slot hx ?_ (fun i c' hi hc=>jV.of_blocks fun b o hb=>?_) (fun i c' b o hi hc hb hb'=>hi (h.inj i k _ _ b o hc he hb hb')) (fun b o hp=>?_) ?_ ?_ hd⟩
 ·refine⟨g,cap,by simp,hroom,hcap,hown,⟨_,ty,fz,hg',hfz,by rw[hsz];exact hfit⟩,hpub,fun j c hc=>?_⟩
  have hj:j<news.length:=by
   rw[<-hnw.1];rcases O5 j (cells τ z).length with q|q
   ·exact q
   ·rw[O2 q]at hc;cases hc
  refine⟨news[j],?_,(hnw.2 j c _ hc (NY hj)).ext hx⟩;show World.cell? _ _=_;rw[al hg'];have htl:(List.take (xs.length *ab τ) cur.toList).length=xs.length *ab τ:=by simp;omega
  simp only[Pk];rw[OE,Oe (by omega),htl,Qx,Ob hj,NY hj]
 ·have hbg:b≠g:=fun e=>by subst e;exact hi (h.inj i k _ _ b o hc he hb rfl)
  exact⟨Pf _ _ _ _ hbg,fun o ho'=>ho'⟩
 ·obtain⟨v,hv⟩:=h.pubok b o hp;exact⟨v,by rw[hcellold b o hp,hv]⟩
 ·have hnotold:∀b,b<F.w0.heap.size->(¬∀o,F.br b o)->b≠g:=by
   intro b hb hnb e;subst e;refine hnb (fun o=>?_);rcases hown o with ho'|ho'
   ·omega
   ·exact ho'
  refine⟨q1.trans h.frame.os,q2.trans h.frame.tape,q3.trans h.frame.output,by rw[q4];exact h.frame.size,fun b hb hnb=>?_,fun b o hb hnb=>?_,fun b hb=>?_,h.frame.pub,h.frame.old,fun b o hp=>(hx.cell b o (h.frame.old b o hp)).trans (h.frame.pcell b o hp)⟩
  ·exact(Pf _ _ _ _ (hnotold b hb (fun k=>hnb 0 (k 0)))).trans (h.frame.block b hb hnb)
  ·exact(ai (Pf _ _ _ _ (hnotold b hb (fun k=>hnb (k o)))) o).trans (h.frame.cell b o hb hnb)
  ·intro hnb;have hbg:=hnotold b hb hnb;exact⟨(aT (Pf _ _ _ _ hbg)).trans (h.frame.kind b hb hnb).1,fun o=>(aK (Pf _ _ _ _ hbg) o).trans ((h.frame.kind b hb hnb).2 o)⟩
 ·have hv:=sG (Ω:=⟨fun i=>if k=i then some (.tail (xs.length+1) (some g) cap)else Ω.e i,
   Ω.w.setRow g (cur.toList.take (xs.length *ab τ)++news++cur.toList.drop (xs.length *ab τ+news.length)).toArray,Ω.pub⟩) (τ:=τ) (xs:=xs) (o:=none) (cap:=cap) (vs:=olds) hg'
   (by
    rw[htake,OE];rw[QC (by omega),Qb (by omega)])
   (ho.ext hx) (by omega) hcap hxp (fun id hid=>by cases hid)
  refine V.mkP hv hroom ?_;intro id hid;simp at hid;subst hid;exact⟨xs.length+1,some g,cap,by simp,Od _,fun _=>rfl⟩
theorem zo(hT:aR P C.tbl){x y:Operand}{t d:Nat}(hop:o.op=.call {callee:=.builtin .append,args:=#[x,y],argTypes:=#[t,t]})(hdst:o.dst=some d)
 {F:Fr}{s:AS}{a:Act}{Ω:Om}{eff:Eff}{next:Act->World->Prop}{Q:Exit->Act->World->Prop}(h:Holds F s a Ω)(hd:∀d,o.dst=some d->d<F.n)
 (he:rD C t d (opd s.T x) (opd s.T y) s.B=some eff)(ho:eff.asks)(hn:∀a' Ω',Holds F (s.put o.dst eff) a' Ω'->next a' Ω'.w):o.wp P a Ω.w next Q:=by
 have hx:=b9 h x;have hy:=b9 h y;unfold rD at he;split at he
 ·rename_i e sz by' z0 ty hr
  obtain⟨dd,hd1,hd2⟩:=az hT hr rfl;cases dd<;>simp[aD]at hd2;subst hd2;split at he
  ·rename_i re hre;obtain⟨i,zz,i1,i2,i3,i4,i5⟩:=(hT _ _ hre).info;have hzl:zz.cells.size=re.size:=by have p1:=(hT _ _ hre).zlen;rw[<-i5]at p1;simpa using p1
   split at he
   ·
    rename_i τ xs k σ ys o2 hxe hye;split at he
    ·rename_i z τ' n hcast hB;split at he
     ·rename_i hτ;obtain⟨hτ1,hτ2⟩:=hτ;subst hτ1;obtain⟨hστ,hys⟩:=gm hcast;subst hστ;simp only at hys;subst hys;simp only[Xs]at he;subst he;obtain⟨hcount,hbytes⟩:=ho;subst hcount;rw[hxe]at hx;rw[hye]at hy;have hw:=((hT _ _ hre).ty _ hτ2).1;have hiw:i.size=ab σ:=by rw[i2,hw]
      have hpos:=jU σ;have hby1:(xs.length+1) *i.bytes<=140737488355328:=by rw[i3];exact hbytes
      obtain⟨base,cap,q1,q2,q3,q4,q5⟩:=h.slots k _ hB
      have hxtok:∃v,a.eval x=v/\v=.slice (dC base) xs.length cap:=by
       refine⟨_,rfl,?_⟩
       have ht:iu Ω (some k) xs.length (a.eval x):=by
        rcases hx.lst_inv with⟨h1,hv,ht⟩|⟨_,ho,_⟩|⟨b,off,cap,vals,hv,h1,h2,h3,h4,h5⟩
        ·rw[h1];exact ht
        ·cases ho
        ·exact h3
       obtain⟨m,base',cap',r1,r2,r3⟩:=ht k rfl;rw[q1]at r1;simp only[Xs,CObj.tail.injEq]at r1;obtain⟨rfl,rfl,rfl⟩:=r1;rw[r3 rfl]
      obtain⟨_,rfl,hxv⟩:=hxtok;have hmaxn:xs.length+1<=bj:=by have:(xs.length+1) *1<=(xs.length+1) *re.bytes:=PF _ ((hT _ _ hre).bps ‹_›);unfold bj;omega
      rcases hy.src with⟨_,hy0⟩|⟨ya,yc,us,hyv,hyl,hyvl,hyc,hy1⟩
      ·cases hy0
      ·simp only[OI,QX]at hyv hyl;have hyvl':VL Ω (cells σ z) us:=by simpa[flat]using hyvl
       have hzc:∀n,(Builtin.zeroCells zz.cells n).toList.length=n *ab σ:=by intro n;simp[Qy,hzl,hw]
       by_cases hroom:xs.length+1<=cap
       ·cases base with
        |none=>have hc0:=q4 rfl;omega
        |some g=>
         obtain⟨p1,cur,bt,fz,p2,pf,p3,p4⟩:=q5 g rfl
         obtain⟨olds,ho1,ho2,ho3,hxp⟩:∃olds:List Value,olds.length=xs.length *ab σ/\VL Ω (flat σ xs) olds/\(∀j u,olds[j]?=some u->Ω.w.cell? ⟨g,j,none⟩=some u)/\∀i,i<xs.length *ab σ->Ω.pub g i:=by
          rcases hx.lst_inv with⟨h1,hv,_⟩|⟨_,ho,_⟩|⟨b,off,cap',vals,hv,h1,h2,h3,h4,h5⟩
          ·rw[hxv]at hv;simp[dC]at hv
          ·cases ho
          ·rw[hxv]at hv;simp only[dC,Po,Xs,Qt,OV,OK]at hv;obtain⟨⟨rfl,rfl⟩,rfl⟩:=hv;obtain⟨us',u1,u2,u3⟩:=V.row_cells h4 h5;refine⟨us',u1,u2,fun j u hj=>by have:=u3 j u hj;simpa using this,fun i hi=>?_⟩;have hdiv:i/ab σ<xs.length:=Rc (by rw[PW];exact hi);have hmod:i%ab σ<(cells σ xs[i/ab σ]).length:=by rw[aQ];exact RO _ hpos
           have:=(h4 (i/ab σ) _ (NY hdiv) (i%ab σ) _ (NY hmod)).1;have e':0+(i/ab σ *ab σ+i%ab σ)=i:=by rw[PW];have:=Rk i (ab σ);omega
           rw[e']at this;exact this
         obtain⟨Ω',hw',hh⟩:=h.roomP (dst:=o.dst) (z:=z) q1 p1 p2 pf p3 p4 hroom q3 ho2 ho3 hyvl' hxp hd;refine aq (ax hop (v:=.slice (some ⟨g,0,none⟩) (xs.length+1) cap) (w':=Ω'.w) ?_) (hn _ _ hh);rw[hyv,hxv,hw'];have hmul:(xs.length+1) *ab σ<=cap *ab σ:=OP _ hroom;rw[OU,QX]at hmul;have:=sI (P:=P) Ω.w t o.type e i hd1 i1 g xs.length cap bt cur fz p2 (by omega) ya 1 yc us (by rw[hiw];omega) hyc hy1 hroom (by rw[hiw,hyl];omega);rw[hiw]at this;exact this
       ·cases base with
        |none=>
         have hc0:=q4 rfl;have hx0:xs=[]:=Oc (by omega);subst hx0;subst hc0
         obtain⟨Ω',hw',hh⟩:=h.growP (k:=k) (aF:=1) (old:=0) (e:=e) (xs:=[]) (z:=z) (us:=us) (rest:=(Builtin.zeroCells zz.cells (grownCap Ω.w 1 0 e-1)).toList) (dst:=o.dst)
          (Or.inr ⟨_,_,_,q1,by simp⟩) (by simp) (by simpa using hmaxn) (by simpa using hyvl) (by rw[hzc]) hd
         refine aq (ax hop (v:=.slice (some ⟨Ω.w.heap.size,0,none⟩) 1 (grownCap Ω.w 1 0 e)) (w':=Ω'.w) ?_) (hn _ _ hh);rw[hyv,hxv,hw'];have:=QJ (P:=P) Ω.w t o.type e i zz hd1 i1 i4 ya 1 yc us (by rw[hiw];omega) hyc (by omega) (by unfold bj at hmaxn;simp at hmaxn;omega) (by simp at hby1;omega);have e':(us++(Builtin.zeroCells zz.cells (grownCap Ω.w 1 0 e-1)).toList).toArray=us.toArray++Builtin.zeroCells zz.cells (grownCap Ω.w 1 0 e-1):=by apply Pj;simp
         rw[e'];exact this
        |some g=>
         obtain⟨olds,ho1,ho2,ho3⟩:∃olds:List Value,olds.length=xs.length *ab σ/\VL Ω (flat σ xs) olds/\(∀j u,olds[j]?=some u->Ω.w.cell? ((⟨g,0,none⟩:Addr).add j)=some u):=by
          rcases hx.lst_inv with⟨h1,hv,_⟩|⟨_,ho,_⟩|⟨b,off,cap',vals,hv,h1,h2,h3,h4,h5⟩
          ·rw[hxv]at hv;simp[dC]at hv
          ·cases ho
          ·rw[hxv]at hv;simp only[dC,Po,Xs,Qt,OV,OK]at hv;obtain⟨⟨rfl,rfl⟩,rfl⟩:=hv;obtain⟨us',u1,u2,u3⟩:=V.row_cells h4 h5;exact⟨us',u1,u2,fun j u hj=>by rw[gO];exact u3 j u hj⟩
         obtain⟨Ω',hw',hh⟩:=h.growP (k:=k) (aF:=xs.length+1) (old:=cap) (e:=e) (xs:=xs) (z:=z) (us:=olds++us) (rest:=(Builtin.zeroCells zz.cells (grownCap Ω.w (xs.length+1) cap e-(xs.length+1))).toList) (dst:=o.dst)
          (Or.inr ⟨_,_,_,q1,by simp⟩) rfl hmaxn (by rw[cJ];exact ho2.append hyvl) (by rw[hzc]) hd
         refine aq (ax hop (v:=.slice (some ⟨Ω.w.heap.size,0,none⟩) (xs.length+1) (grownCap Ω.w (xs.length+1) cap e)) (w':=Ω'.w) ?_) (hn _ _ hh);rw[hyv,hxv,hw'];have:=run_append_grow (P:=P) Ω.w t o.type e i zz hd1 i1 i4 ⟨g,0,none⟩ xs.length cap olds (by rw[hiw];exact ho1) ho3 ya 1 yc us (by rw[hiw];omega) hyc (by omega) (by unfold bj at hmaxn;omega) (Rx (by omega) hby1);have e':(olds++us++(Builtin.zeroCells zz.cells (grownCap Ω.w (xs.length+1) cap e-(xs.length+1))).toList).toArray=olds.toArray++us.toArray++Builtin.zeroCells zz.cells (grownCap Ω.w (xs.length+1) cap e-(xs.length+1)):=by apply Pj;simp
         rw[e'];exact this
     ·simp at he
    ·simp at he
   ·
    rename_i σ z o2 hxe hye;split at he
    ·rename_i hB;split at he
     ·rename_i hτ2;simp only[Xs]at he;subst he;have hbytes:1 *re.bytes<=140737488355328:=ho;rw[hxe]at hx;rw[hye]at hy;have hw:=((hT _ _ hre).ty _ hτ2).1;have hiw:i.size=ab σ:=by rw[i2,hw]
      have hzc:∀n,(Builtin.zeroCells zz.cells n).toList.length=n *ab σ:=by intro n;simp[Qy,hzl,hw]
      rcases hy.src with⟨_,hy0⟩|⟨ya,yc,us,hyv,hyl,hyvl,hyc,hy1⟩
      ·cases hy0
      ·simp only[OI,QX]at hyv hyl
       obtain⟨Ω',hw',hh⟩:=h.growP (k:=d) (aF:=1) (old:=0) (e:=e) (xs:=[]) (z:=z) (us:=us) (rest:=(Builtin.zeroCells zz.cells (grownCap Ω.w 1 0 e-1)).toList) (dst:=o.dst)
        (Or.inl (h.dom d hB)) (by simp) (by unfold bj;omega) (by simpa using hyvl) (by rw[hzc]) hd
       refine aq (ax hop (v:=.slice (some ⟨Ω.w.heap.size,0,none⟩) 1 (grownCap Ω.w 1 0 e)) (w':=Ω'.w) ?_) (hn _ _ hh);rw[hyv,hx.nils_inv,hw'];have:=QJ (P:=P) Ω.w t o.type e i zz hd1 i1 i4 ya 1 yc us (by rw[hiw];omega) hyc (by omega) (by omega) (by rw[i3];omega);have e':(us++(Builtin.zeroCells zz.cells (grownCap Ω.w 1 0 e-1)).toList).toArray=us.toArray++Builtin.zeroCells zz.cells (grownCap Ω.w 1 0 e-1):=by apply Pj;simp
       rw[e'];exact this
     ·simp at he
    ·simp at he
   ·simp at he
  ·simp at he
 ·simp at he
theorem fF(w:World)(size:Nat)(s:Str):(Builtin.firstCells size s.length (.string ⟨s.toArray⟩)).run P w=.ok (s.map fun b=>Value.int .u8 b.toNat).toArray w:=by
 have e:(⟨s.toArray⟩:ByteArray).extract 0 s.length=⟨s.toArray⟩:=by rw[Lib.extract_mk,Pe,QM,OY]
 simp[Builtin.firstCells,OR,e]
theorem xH(w:World)(t u ty e:Nat)(i:TypeInfo)(ht:P.underlying t=some (.slice e))(hu:P.underlying u=some .string)(hi:P.info? e=some i)
 (g sLen sCap bt:Nat)(cur:Array Value)(fz:Nat×Nat)(hg:w.heap[g]?=some (.cells cur bt fz))(hfz:fz.2<=sLen *i.size)(s:Str)
 (hroom:sLen+s.length<=sCap)(hfit:sLen *i.size+s.length<=cur.size) :
  (Builtin.append_ #[t,u] ty #[.slice (some ⟨g,0,none⟩) sLen sCap,.string ⟨s.toArray⟩]).run P w=
   .ok (.slice (some ⟨g,0,none⟩) (sLen+s.length) sCap) (w.setRow g (cur.toList.take (sLen *i.size)++(s.map fun b=>Value.int .u8 b.toNat)++cur.toList.drop (sLen *i.size+s.length)).toArray):=by
 have hf:=fF (P:=P) w i.size s;have hst:=QD P g (sLen *i.size) bt fz (s.map fun b=>Value.int .u8 b.toNat) 0 cur w hg (by simpa using hfz) (by simpa using hfit) (fun u hu=>by simp at hu;obtain⟨b,_,rfl⟩:=hu;rfl);simp only[PR,P3]at hst;have hsz:(⟨s.toArray⟩:ByteArray).size=s.length:=by simp[ByteArray.size]
 simp[Builtin.append_,Pc ht,Pc hu,sizeOf,typeInfo,hi,Builtin.lenOf,hroom,hf,Addr.add_lit,hst,hsz]
theorem zp(w:World)(t u ty e:Nat)(i:TypeInfo)(ht:P.underlying t=some (.slice e))(hu:P.underlying u=some .string)(hi:P.info? e=some i) :
  (Builtin.append_ #[t,u] ty #[.slice none 0 0,.string ⟨([]:Str).toArray⟩]).run P w=.ok (.slice none 0 0) w:=by
 have hf:=fF (P:=P) w i.size [];simp only[ON,RN]at hf;have hsz:(⟨#[]⟩:ByteArray).size=0:=rfl;simp[Builtin.append_,Pc ht,Pc hu,sizeOf,typeInfo,hi,Builtin.lenOf,hsz,hf]
theorem xI(w:World)(t u ty e:Nat)(i:TypeInfo)(z:Value)(ht:P.underlying t=some (.slice e))(hu:P.underlying u=some .string)(hi:P.info? e=some i)(hz:i.zero=some z)
 (b:Option Addr)(sLen sCap:Nat)(olds:List Value)(hb:(b=none/\sLen=0/\olds=[])∨∃a,b=some a/\olds.length=sLen *i.size/\∀j v,olds[j]?=some v->w.cell? (a.add j)=some v)
 (s:Str)(hg:sCap<sLen+s.length)(h63:((sLen+s.length:Nat):Int)<=9223372036854775807)(hfit:Builtin.nextslicecap (sLen+s.length) sCap *i.bytes<=281474976710656) :
  (Builtin.append_ #[t,u] ty #[.slice b sLen sCap,.string ⟨s.toArray⟩]).run P w=
   .ok (.slice (some ⟨w.heap.size,0,none⟩) (sLen+s.length) (grownCap w (sLen+s.length) sCap e))
    (w.drew.alloc (.cells (olds.toArray++(s.map fun b=>Value.int .u8 b.toNat).toArray++Builtin.zeroCells z.cells (grownCap w (sLen+s.length) sCap e-(sLen+s.length))) e)):=by
 have hn:¬(sLen+s.length<=sCap):=by omega
 have h63':¬(9223372036854775807<((sLen:Int)+(s.length:Int))):=by omega
 have h48':¬(281474976710656<Builtin.nextslicecap (sLen+s.length) sCap *i.bytes):=by omega
 have hf:=fF (P:=P) w.drew i.size s;have hsz:(⟨s.toArray⟩:ByteArray).size=s.length:=by simp[ByteArray.size]
 have hfo:(Builtin.firstCells i.size sLen (.slice b sLen sCap)).run P w.drew=.ok olds.toArray w.drew:=by
  rcases hb with⟨rfl,rfl,rfl⟩|⟨a,rfl,h1,h2⟩
  ·exact run_firstCells_none w.drew i.size 0 0 sCap
  ·exact Rm (P:=P) w.drew i.size sLen a sLen sCap olds h1 (by simpa using h2)
 simp[Builtin.append_,Pc ht,Pc hu,sizeOf,typeInfo,zeroValue,hi,hz,Builtin.lenOf,hn,h63',h48',Question.forced,hf,hfo,newRow,grownCap,hsz];congr 2;apply Pj;simp[OE]
theorem EP(Ω:Om)(s:Str):VL Ω (flat (.int .u8) (db s)) (s.map fun b=>Value.int .u8 b.toNat):=by
 have e:flat (.int .u8) (db s)=s.map fun b=>AV.int .u8 (b.toNat:Int):=by unfold flat db;rw[List.flatMap_map,QS];rfl
 refine⟨by rw[e];simp,fun j c v hc hv=>?_⟩;rw[e,OD,Ov]at hc;rw[OD,Ov]at hv;obtain⟨b,hb,rfl⟩:=hc;obtain⟨b',hb',rfl⟩:=hv;rw[hb]at hb';cases hb';have:=b.toNat_lt;exact .int .u8 _ (by show(0:Int)<=_;omega) (by show _<=(255:Int);omega)
theorem CD(hT:aR P C.tbl){x y:Operand}{t t':Nat}{s':Str}(hop:o.op=.call {callee:=.builtin .append,args:=#[x,y],argTypes:=#[t,t']})
 {F:Fr}{s:AS}{a:Act}{Ω:Om}{eff:Eff}{next:Act->World->Prop}{Q:Exit->Act->World->Prop}(h:Holds F s a Ω)(hd:∀d,o.dst=some d->d<F.n)(hye:opd s.T y=.str s')
 (he:rF C t t' (opd s.T x) s' s.B=some eff)(ho:eff.asks)(hn:∀a' Ω',Holds F (s.put o.dst eff) a' Ω'->next a' Ω'.w):o.wp P a Ω.w next Q:=by
 have hx:=b9 h x;have hy:=b9 h y;rw[hye]at hy;obtain⟨hyv,hyl⟩:=hy.str_inv;unfold rF at he;split at he
 ·rename_i e sz by' z0 ty sz1 by1 z1 ty1 hr hr'
  obtain⟨dd,hd1,hd2⟩:=az hT hr rfl;cases dd<;>simp[aD]at hd2;subst hd2;obtain⟨dd,hd3,hd4⟩:=az hT hr' rfl;cases dd<;>simp[aD]at hd4;split at he
  ·rename_i sz2 bytes z2 hre;obtain⟨i,zz,i1,i2,i3,i4,i5⟩:=(hT _ _ hre).info;split at he
   ·rename_i xs k hxe;split at he
    ·rename_i n hB;simp only[Xs]at he;subst he;obtain⟨hcount,hbytes⟩:=ho;subst hcount;rw[hxe]at hx;have hw:ab (.int .u8)=sz2:=((hT _ _ hre).ty _ rfl).1;have hw1:sz2=1:=hw.symm;have hiw:i.size=1:=by rw[i2];exact hw1
     have hzl:zz.cells.size=1:=by have p1:=(hT _ _ hre).zlen;rw[<-i5]at p1;simp at p1;omega
     have hbl:(db s').length=s'.length:=by simp[db]
     have hby1:(xs.length+s'.length) *i.bytes<=140737488355328:=by rw[i3];exact hbytes
     have hmaxn:xs.length+s'.length<=bj:=by have hbp:0<bytes:=(hT _ _ hre).bpos (by show 0<sz2;omega);have:(xs.length+s'.length) *1<=(xs.length+s'.length) *bytes:=PF _ hbp;unfold bj;omega
     obtain⟨base,cap,q1,q2,q3,q4,q5⟩:=h.slots k _ hB
     have hxtok:∃v,a.eval x=v/\v=.slice (dC base) xs.length cap:=by
      refine⟨_,rfl,?_⟩
      have ht:iu Ω (some k) xs.length (a.eval x):=by
       rcases hx.lst_inv with⟨h1,hv,ht⟩|⟨_,ho,_⟩|⟨b,off,cap,vals,hv,h1,h2,h3,h4,h5⟩
       ·rw[h1];exact ht
       ·cases ho
       ·exact h3
      obtain⟨m,base',cap',r1,r2,r3⟩:=ht k rfl;rw[q1]at r1;simp only[Xs,CObj.tail.injEq]at r1;obtain⟨rfl,rfl,rfl⟩:=r1;rw[r3 rfl]
     obtain⟨_,rfl,hxv⟩:=hxtok;have hyvl:=EP Ω s';have hzc:∀n,(Builtin.zeroCells zz.cells n).toList.length=n *1:=by intro n;simp[Qy,hzl]
     by_cases hroom:xs.length+s'.length<=cap
     ·cases base with
      |none=>have hc0:=q4 rfl;have hy0:s'=[]:=Oc (by omega);have hx0:xs=[]:=Oc (by omega);subst hy0 hx0;have hh:=h.same hB rfl hx hd;refine aq (ax hop (v:=a.eval x) (w':=Ω.w) ?_) (hn _ _ hh);rw[hyv,hxv,hc0];exact zp Ω.w t t' _ e i hd1 hd3 i1
      |some g=>
       obtain⟨p1,cur,bt,fz,p2,pf,p3,p4⟩:=q5 g rfl
       obtain⟨olds,ho1,ho2,ho3,hxp⟩:∃olds:List Value,olds.length=xs.length *ab (.int .u8)/\VL Ω (flat (.int .u8) xs) olds/\(∀j u,olds[j]?=some u->Ω.w.cell? ⟨g,j,none⟩=some u)/\∀i,i<xs.length *ab (.int .u8)->Ω.pub g i:=by
        rcases hx.lst_inv with⟨h1,hv,_⟩|⟨_,ho,_⟩|⟨b,off,cap',vals,hv,h1,h2,h3,h4,h5⟩
        ·rw[hxv]at hv;simp[dC]at hv
        ·cases ho
        ·rw[hxv]at hv;simp only[dC,Po,Xs,Qt,OV,OK]at hv;obtain⟨⟨rfl,rfl⟩,rfl⟩:=hv;obtain⟨us',u1,u2,u3⟩:=V.row_cells h4 h5;refine⟨us',u1,u2,fun j u hj=>by have:=u3 j u hj;simpa using this,fun i hi=>?_⟩;have hpos:=jU (.int .u8);have hdiv:i/ab (.int .u8)<xs.length:=Rc (by rw[PW];exact hi);have hmod:i%ab (.int .u8)<(cells (.int .u8) xs[i/ab (.int .u8)]).length:=by rw[aQ];exact RO _ hpos
         have:=(h4 (i/ab (.int .u8)) _ (NY hdiv) (i%ab (.int .u8)) _ (NY hmod)).1;have e':0+(i/ab (.int .u8) *ab (.int .u8)+i%ab (.int .u8))=i:=by rw[PW];have:=Rk i (ab (.int .u8));omega
         rw[e']at this;exact this
       have hroom':xs.length+(db s').length<=cap:=by rw[hbl];exact hroom
       obtain⟨Ω',hw',hh⟩:=h.room (dst:=o.dst) (τ:=.int .u8) (ys:=db s') (news:=s'.map fun b=>Value.int .u8 b.toNat) q1 p1 p2 pf p3 p4 hroom' q3 ho2 ho3 hyvl hxp hd;refine aq (ax hop (v:=.slice (some ⟨g,0,none⟩) (xs.length+(db s').length) cap) (w':=Ω'.w) ?_) (hn _ _ hh);rw[hyv,hxv,hw',hbl];have hmul:(xs.length+s'.length) *ab (.int .u8)<=cap *ab (.int .u8):=OP _ hroom;have w1:ab (.int .u8)=1:=rfl;rw[w1]at hmul p3;have:=xH (P:=P) Ω.w t t' o.type e i hd1 hd3 i1 g xs.length cap bt cur fz p2 (by omega) s' hroom (by rw[hiw];omega);rw[hiw]at this;simpa[w1,dC]using this
     ·have hm:0<s'.length:=by
       rcases Qg s'.length with h0|h0
       ·omega
       ·exact h0
      have hlen:(xs++db s').length=xs.length+s'.length:=by rw[Oj,hbl]
      obtain⟨olds,ho2,hob⟩:∃olds:List Value,VL Ω (flat (.int .u8) xs) olds/\((dC base=none/\xs.length=0/\olds=[])∨∃a,dC base=some a/\olds.length=xs.length *i.size/\∀j v,olds[j]?=some v->Ω.w.cell? (a.add j)=some v):=by
       rcases hx.lst_inv with⟨h1,hv,_⟩|⟨_,ho,_⟩|⟨b,off,cap',vals,hv,h1,h2,h3,h4,h5⟩
       ·rw[hxv]at hv;simp only[Po]at hv;refine⟨[],?_,.inl ⟨hv.1,hv.2.1,rfl⟩⟩;rw[h1];exact⟨rfl,fun j c v hc=>by simp[flat]at hc⟩
       ·cases ho
       ·rw[hxv]at hv;simp only[Po]at hv;obtain⟨us',u1,u2,u3⟩:=V.row_cells h4 h5;exact⟨us',u2,.inr ⟨_,hv.1,by rw[u1,hiw];rfl,fun j u hj=>by rw[gO];exact u3 j u hj⟩⟩
      obtain⟨Ω',hw',hh⟩:=h.grow (k:=k) (aF:=xs.length+s'.length) (old:=cap) (e:=e) (τ:=.int .u8) (zs:=xs++db s') (us:=olds++s'.map fun b=>Value.int .u8 b.toNat) (rest:=(Builtin.zeroCells zz.cells (grownCap Ω.w (xs.length+s'.length) cap e-(xs.length+s'.length))).toList) (dst:=o.dst)
       (Or.inr ⟨_,_,_,q1,by rw[hlen];omega⟩) hlen hmaxn (by rw[cJ];exact ho2.append hyvl) (by rw[hzc];rfl) hd
      refine aq (ax hop (v:=.slice (some ⟨Ω.w.heap.size,0,none⟩) (xs.length+s'.length) (grownCap Ω.w (xs.length+s'.length) cap e)) (w':=Ω'.w) ?_) (hn _ _ hh);rw[hyv,hxv,hw'];have:=xI (P:=P) Ω.w t t' o.type e i zz hd1 hd3 i1 i4 (dC base) xs.length cap olds hob s' (by omega) (by unfold bj at hmaxn;omega) (Rx (by omega) hby1);have e':(olds++(s'.map fun b=>Value.int .u8 b.toNat)++(Builtin.zeroCells zz.cells (grownCap Ω.w (xs.length+s'.length) cap e-(xs.length+s'.length))).toList).toArray=olds.toArray++(s'.map fun b=>Value.int .u8 b.toNat).toArray++Builtin.zeroCells zz.cells (grownCap Ω.w (xs.length+s'.length) cap e-(xs.length+s'.length)):=by apply Pj;simp
      rw[e'];exact this
    ·simp at he
   ·simp at he
  ·simp at he
 ·simp at he
theorem Holds.growSame{F:Fr}{s:AS}{a:Act}{Ω:Om}{k s':Nat}{τ:Ty}{xs:List (den τ)}{v:Value}{dst:Option Nat}
 (h:Holds F s a Ω)(hB:s.B k=some (.grow τ s' xs))(hv:V Ω (.glst s' xs.length k) v)(hd:∀d,dst=some d->d<F.n) :
  Holds F ⟨bz s.T dst (.glst (s'+([]:List (den τ)).length) (xs++[]).length k),bB s.B [(k,.grow τ (s'+([]:List (den τ)).length) (xs++[]))]⟩ (a.put dst v) Ω:=by
 have e:bB s.B [(k,.grow τ (s'+([]:List (den τ)).length) (xs++[]))]=s.B:=by
  funext j;rw[iy];by_cases hj:k=j
  ·subst hj;simp[hB]
  ·simp[hj]
 rw[e,P2];exact h.pure hv hd
theorem Holds.growNew{F:Fr}{s:AS}{a:Act}{Ω:Om}{k st aF old e:Nat}{τ:Ty}{zs:List (den τ)}{rest:List Value}{us:List Value}{dst:Option Nat}
 (h:Holds F s a Ω)(hn:Ω.e k=none∨∃n base cap,Ω.e k=some (.tail n base cap)/\n<st)(hz:zs.length=aF)(hneed:aF<=bj)
 (hu:VL Ω (flat τ zs) us)(hrest:rest.length=(grownCap Ω.w aF old e-aF) *ab τ)(hd:∀d,dst=some d->d<F.n) :
  ∃Ω',Ω'.w=Ω.w.drew.alloc (.cells (us++rest).toArray e)/\
   Holds F ⟨bz s.T dst (.glst st zs.length k),bB s.B [(k,.grow τ st zs)]⟩ (a.put dst (.slice (some ⟨Ω.w.heap.size,0,none⟩) aF (grownCap Ω.w aF old e))) Ω':=by
 subst hz;obtain⟨g1,g2⟩:=fE Ω.w zs.length old e hneed;have hul:us.length=zs.length *ab τ:=by rw[<-hu.1,aY]
 have hx0:Ext Ω ⟨Ω.e,Ω.w.drew,Ω.pub⟩:=⟨fun _ c hc=>⟨c,hc,CLe.refl c⟩,fun _ _ p=>p,fun _ _ _=>rfl⟩;have h':=h.drew
 refine⟨_,rfl,h'.alloc (d:=k) (c:=.tail st (some Ω.w.heap.size) (grownCap Ω.w zs.length old e)) (x:=.cells (us++rest).toArray e) (p:=fun _=>False) ?_ (fun b o hb=>by simpa[occ]using hb.symm)
  (fun hx=>?_) (fun o ho=>ho.elim) (fun hx=>?_) hd⟩
 ·rcases hn with hn|⟨n,base,cap,hn,hlt⟩
  ·exact Or.inl hn
  ·exact Or.inr ⟨_,hn,by simp[CLe];omega⟩
 ·refine⟨some Ω.w.heap.size,grownCap Ω.w zs.length old e,by simp,g1,g2,by simp,fun b hb=>?_⟩;simp only[Xs]at hb;subst hb;refine⟨fun _=>Or.inl h.frame.size,⟨_,e,(0,0),bG _ _,rfl,?_⟩,fun o hp=>?_,fun j c hc=>?_⟩
  ·simp[hul,hrest,<-OU];rw[show zs.length+(grownCap Ω.w zs.length old e-zs.length)=grownCap Ω.w zs.length old e from by omega];exact Od _
  ·rcases hp with hp|⟨_,hp⟩
   ·exact absurd (h.cell_lt hp) (RH _)
   ·exact hp
  ·have hj:j<us.length:=by
    rw[<-hu.1];rcases O5 j (flat τ zs).length with q|q
    ·exact q
    ·rw[O2 q]at hc;cases hc
   have hcell:=al (bG Ω.w.drew (.cells (us++rest).toArray e)) j;exact⟨us[j],hcell.trans (by simp[QI,hj]),((hu.2 j c _ hc (NY hj)).ext hx0).ext hx⟩
 ·exact .glst st zs.length k _ _ g1 g2 (.inl ⟨_,rfl⟩) ⟨st,some Ω.w.heap.size,_,by simp,Od _,fun _=>⟨rfl,rfl⟩⟩
theorem V.srcG{Ω:Om}{own:Nat->Nat->Prop}{s n k:Nat}{σ:Ty}{ys:List (den σ)}{v:Value}(h:V Ω (.glst s n k) v)(hs:bn Ω own k (.grow σ s ys))(hn:n=ys.length) :
  (v=.slice none 0 0/\ys=[])∨∃a c us,v=.slice (some a) ys.length c/\us.length=ys.length *ab σ/\VL Ω (AL.flat σ ys) us/\
   (∀j u,us[j]?=some u->Ω.w.cell? (a.add j)=some u)/\(∀u∈us,u.oneCell'=true):=by
 subst hn;obtain⟨base,cap,q1,q2,q3,q4,q5⟩:=hs;obtain⟨cap0,a0,hxv,hc1,hc2,hc3,m0,qW,c0,r1,r2,r3⟩:=h.glst_inv;rw[q1]at r1;simp only[Xs,CObj.tail.injEq]at r1;obtain⟨rfl,rfl,rfl⟩:=r1;obtain⟨rfl,rfl⟩:=r3 rfl
 cases base with
 |none=>have hc0:=q4 rfl;have hy0:ys=[]:=Oc (by omega);subst hy0;exact .inl ⟨by rw[hxv,hc0];rfl,rfl⟩
 |some g=>
  obtain⟨p1,⟨cur,bt,fz,p2,pf,p3⟩,p4,p5⟩:=q5 g rfl;have hq2:ys.length *ab σ<=cap0 *ab σ:=OP _ q2
  have hvl:VL Ω (AL.flat σ ys) (cur.toList.take (ys.length *ab σ)):=by
   refine⟨by rw[aY];simp;omega,fun j c v hc hv=>?_⟩;obtain⟨v',v1,v2⟩:=p5 j c hc;rw[Oy]at hv;split at hv
   ·rw[al p2,<-Oh,hv]at v1;cases v1;exact v2
   ·cases hv
  refine .inr ⟨⟨g,0,none⟩,cap0,cur.toList.take (ys.length *ab σ),hxv,by simp;omega,hvl,fun j u hj=>?_,hvl.leaf_one (vR σ ys)⟩;rw[gO,P0,al p2];rw[Oy]at hj;split at hj
  ·rw[Oh]at hj;exact hj
  ·cases hj
theorem CE(hT:aR P C.tbl){x y:Operand}{t d:Nat}(hop:o.op=.call {callee:=.builtin .append,args:=#[x,y],argTypes:=#[t,t]})(hdst:o.dst=some d)
 {F:Fr}{s:AS}{a:Act}{Ω:Om}{eff:Eff}{next:Act->World->Prop}{Q:Exit->Act->World->Prop}(h:Holds F s a Ω)(hd:∀d,o.dst=some d->d<F.n)
 (he:rE C t d (opd s.T x) (opd s.T y) s.B=some eff)(ho:eff.asks)(hn:∀a' Ω',Holds F (s.put o.dst eff) a' Ω'->next a' Ω'.w):o.wp P a Ω.w next Q:=by
 have hx:=b9 h x;have hy:=b9 h y;unfold rE at he;split at he
 ·rename_i e sz by' z0 ty hr
  obtain⟨dd,hd1,hd2⟩:=az hT hr rfl;cases dd<;>simp[aD]at hd2;subst hd2;split at he
  ·rename_i re hre;obtain⟨i,zz,i1,i2,i3,i4,i5⟩:=(hT _ _ hre).info;have hzl:zz.cells.size=re.size:=by have p1:=(hT _ _ hre).zlen;rw[<-i5]at p1;simpa using p1
   have fin:∀{σ:Ty} {xs ys:List (den σ)} {s1 k:Nat} (hB:s.B k=some (.grow σ s1 xs)) (hτ2:re.ty=some σ) (hx:V Ω (.glst s1 xs.length k) (a.eval x)) (hbytes:(xs.length+ys.length) *re.bytes<=140737488355328)
     (hsrc:(a.eval y=.slice none 0 0/\ys=[])∨∃a' c us,a.eval y=.slice (some a') ys.length c/\us.length=ys.length *ab σ/\VL Ω (flat σ ys) us/\(∀j u,us[j]?=some u->Ω.w.cell? (a'.add j)=some u)/\(∀u∈us,u.oneCell'=true))
     (hn:∀a' Ω',Holds F ⟨bz s.T o.dst (.glst (s1+ys.length) (xs++ys).length k),bB s.B [(k,.grow σ (s1+ys.length) (xs++ys))]⟩ a' Ω'->next a' Ω'.w),o.wp P a Ω.w next Q:=by
    intro σ xs ys s1 k hB hτ2 hx hbytes hsrc hn;have hw:=((hT _ _ hre).ty _ hτ2).1;have hiw:i.size=ab σ:=by rw[i2,hw]
    have hby1:(xs.length+ys.length) *i.bytes<=140737488355328:=by rw[i3];exact hbytes
    obtain⟨base,cap,q1,q2,q3,q4,q5⟩:=h.slots k _ hB;obtain⟨cap0,a0,hxv,hc1,hc2,hc3,m0,qW,c0,r1,r2,r3⟩:=hx.glst_inv;rw[q1]at r1;simp only[Xs,CObj.tail.injEq]at r1;obtain⟨rfl,rfl,rfl⟩:=r1;obtain⟨rfl,rfl⟩:=r3 rfl;have hmaxn:xs.length+ys.length<=bj:=by have:(xs.length+ys.length) *1<=(xs.length+ys.length) *re.bytes:=PF _ ((hT _ _ hre).bps (by rw[hτ2]));unfold bj;omega
    have hlen:(xs++ys).length=xs.length+ys.length:=Oj;rcases hsrc with⟨hyv,hy0⟩|⟨ya,yc,us,hyv,hyl,hyvl,hyc,hy1⟩
    ·subst hy0;refine aq (ax hop (v:=a.eval x) (w':=Ω.w) ?_) (hn _ _ (h.growSame hB hx hd));rw[hyv,hxv];exact gn Ω.w t _ e i hd1 i1 _ _ _ q2
    ·by_cases hroom:xs.length+ys.length<=cap0
     ·cases base with
      |none=>have hc0:=q4 rfl;have hy0:ys=[]:=Oc (by omega);have hx0:xs=[]:=Oc (by omega);subst hy0 hx0;refine aq (ax hop (v:=a.eval x) (w':=Ω.w) ?_) (hn _ _ (h.growSame hB hx hd));rw[hyv,hxv,hc0];exact gY Ω.w t _ e i hd1 i1 ya yc
      |some g=>
       obtain⟨p1,⟨cur,bt,fz,p2,pf,p3⟩,p4,p5⟩:=q5 g rfl;have hmul:(xs.length+ys.length) *ab σ<=cap0 *ab σ:=OP _ hroom;rw[OU]at hmul;have hol:(flat σ xs).length=xs.length *ab σ:=aY σ xs
       have hh:=h.setGrow (dst:=o.dst) (val:=.glst (s1+ys.length) (xs++ys).length k) (v:=.slice (some ⟨g,0,none⟩) (xs.length+ys.length) cap0) (s2:=s1+ys.length) (zs:=xs++ys)
        (arr:=(cur.toList.take (xs.length *ab σ)++us++cur.toList.drop (xs.length *ab σ+us.length)).toArray) q1 (by omega) p1 p2 pf p3 p4 (by rw[hlen];exact hroom) q3 (by simp;omega) (fun j c hc=>by
         simp only[Pk];have hct:(cur.toList.take (xs.length *ab σ)).length=xs.length *ab σ:=by simp;omega
         rw[cJ]at hc;rw[OE];rcases O5 j (xs.length *ab σ)with k1|k1
         ·rw[Ob (by omega)]at hc;rw[Ob (by omega),Oy,O3 k1];obtain⟨v,v1,v2⟩:=p5 j c hc;rw[al p2]at v1;exact⟨v,by rw[Oh];exact v1,v2⟩
         ·rw[Oe (by omega),hol]at hc
          have hjy:j-xs.length *ab σ<us.length:=by
           rw[<-hyvl.1];rcases O5 (j-xs.length *ab σ) (flat σ ys).length with q|q
           ·exact q
           ·rw[O2 q]at hc;cases hc
          rw[Oe (by omega),hct,Ob hjy];exact⟨_,NY hjy,hyvl.2 _ _ _ hc (NY hjy)⟩)
        (fun Ω' hx' he'=>by
         rw[hlen];exact .glst _ _ _ _ _ hroom q3 (.inl ⟨_,rfl⟩) ⟨_,_,_,he',Od _,fun _=>⟨rfl,rfl⟩⟩) hd
       refine aq (ax hop (v:=.slice (some ⟨g,0,none⟩) (xs.length+ys.length) cap0) (w':=Ω.w.setRow g (cur.toList.take (xs.length *ab σ)++us++cur.toList.drop (xs.length *ab σ+us.length)).toArray) ?_) (hn _ _ hh);rw[hyv,hxv];have:=sI (P:=P) Ω.w t o.type e i hd1 i1 g xs.length cap0 bt cur fz p2 (by omega) ya ys.length yc us (by rw[hiw];exact hyl) hyc hy1 hroom (by rw[hiw,hyl];omega);rw[hiw]at this;exact this
     ·have hm:0<ys.length:=by omega
      have hzc:∀n,(Builtin.zeroCells zz.cells n).toList.length=n *ab σ:=by intro n;simp[Qy,hzl,hw]
      cases base with
      |none=>
       have hc0:=q4 rfl;have hx0:xs=[]:=Oc (by omega);subst hx0;subst hc0
       obtain⟨Ω',hw',hh⟩:=h.growNew (k:=k) (st:=s1+ys.length) (aF:=ys.length) (old:=0) (e:=e) (zs:=[]++ys) (us:=us) (rest:=(Builtin.zeroCells zz.cells (grownCap Ω.w ys.length 0 e-ys.length)).toList) (dst:=o.dst)
        (Or.inr ⟨_,_,_,q1,by omega⟩) (by simp) (by simpa using hmaxn) hyvl (by rw[hzc]) hd
       refine aq (ax hop (v:=.slice (some ⟨Ω.w.heap.size,0,none⟩) ys.length (grownCap Ω.w ys.length 0 e)) (w':=Ω'.w) ?_) (hn _ _ hh);rw[hyv,hxv,hw'];have:=QJ (P:=P) Ω.w t o.type e i zz hd1 i1 i4 ya ys.length yc us (by rw[hiw];exact hyl) hyc hm (by unfold bj at hmaxn;simp at hmaxn;omega) (by simp at hby1;omega);have e':(us++(Builtin.zeroCells zz.cells (grownCap Ω.w ys.length 0 e-ys.length)).toList).toArray=us.toArray++Builtin.zeroCells zz.cells (grownCap Ω.w ys.length 0 e-ys.length):=by apply Pj;simp
       rw[e'];exact this
      |some g=>
       obtain⟨p1,⟨cur,bt,fz,p2,pf,p3⟩,p4,p5⟩:=q5 g rfl;have hq2:xs.length *ab σ<=cap0 *ab σ:=OP _ q2
       obtain⟨olds,ho1,ho2,ho3⟩:∃olds:List Value,olds.length=xs.length *ab σ/\VL Ω (flat σ xs) olds/\(∀j u,olds[j]?=some u->Ω.w.cell? ((⟨g,0,none⟩:Addr).add j)=some u):=by
        refine⟨cur.toList.take (xs.length *ab σ),by simp;omega,⟨by rw[aY];simp;omega,fun j c v hc hv=>?_⟩,fun j u hj=>?_⟩
        ·obtain⟨v',v1,v2⟩:=p5 j c hc;rw[Oy]at hv;split at hv
         ·rw[al p2,<-Oh,hv]at v1;cases v1;exact v2
         ·cases hv
        ·rw[gO,P0,al p2];rw[Oy]at hj;split at hj
         ·rw[Oh]at hj;exact hj
         ·cases hj
       obtain⟨Ω',hw',hh⟩:=h.growNew (k:=k) (st:=s1+ys.length) (aF:=xs.length+ys.length) (old:=cap0) (e:=e) (zs:=xs++ys) (us:=olds++us) (rest:=(Builtin.zeroCells zz.cells (grownCap Ω.w (xs.length+ys.length) cap0 e-(xs.length+ys.length))).toList) (dst:=o.dst)
        (Or.inr ⟨_,_,_,q1,by omega⟩) (by simp) hmaxn (by rw[cJ];exact ho2.append hyvl) (by rw[hzc]) hd
       refine aq (ax hop (v:=.slice (some ⟨Ω.w.heap.size,0,none⟩) (xs.length+ys.length) (grownCap Ω.w (xs.length+ys.length) cap0 e)) (w':=Ω'.w) ?_) (hn _ _ hh);rw[hyv,hxv,hw'];have:=run_append_grow (P:=P) Ω.w t o.type e i zz hd1 i1 i4 ⟨g,0,none⟩ xs.length cap0 olds (by rw[hiw];exact ho1) ho3 ya ys.length yc us (by rw[hiw];exact hyl) hyc (by omega) (by unfold bj at hmaxn;omega) (Rx (by omega) hby1);have e':(olds++us++(Builtin.zeroCells zz.cells (grownCap Ω.w (xs.length+ys.length) cap0 e-(xs.length+ys.length))).toList).toArray=olds.toArray++us.toArray++Builtin.zeroCells zz.cells (grownCap Ω.w (xs.length+ys.length) cap0 e-(xs.length+ys.length)):=by apply Pj;simp
       rw[e'];exact this
   split at he
   ·
    rename_i s1 n k hxe hye;simp only[Xs]at he;subst he;rw[hxe]at hx;rw[hye]at hy;obtain⟨cap,a0,hxv,hc1,hc2,hc3,hst⟩:=hx.glst_inv;refine aq (ax hop (v:=a.eval x) (w':=Ω.w) ?_) (hn _ _ ?_)
    ·rw[hxv,hy.nils_inv];exact gn Ω.w t _ e i hd1 i1 _ _ _ hc1
    ·have:=h.pure (dst:=o.dst) (v:=a.eval x) hx hd;simpa[AS.put,bB,Eff.pure]using this
   ·
    rename_i s1 n k σ ys o2 hxe hye;split at he
    ·rename_i τ s' xs hB;split at he
     ·rename_i ys' hcast;split at he
      ·rename_i hτ2;obtain⟨hστ,hys⟩:=gm hcast;subst hστ;simp only at hys;subst hys;simp only[Xs]at he;subst he;obtain⟨⟨rfl,rfl⟩,hbytes⟩:=ho;rw[hxe]at hx;rw[hye]at hy;exact fin hB hτ2 hx hbytes hy.src hn
      ·simp at he
     ·simp at he
    ·simp at he
   ·
    rename_i s1 n k s2 n2 k2 hxe hye;split at he
    ·rename_i τ s' xs σ s2' ys hB hB2;split at he
     ·rename_i ys' hcast;split at he
      ·rename_i hτ2;obtain⟨hστ,hys⟩:=gm hcast;subst hστ;simp only at hys;subst hys;simp only[Xs]at he;subst he;obtain⟨⟨rfl,rfl⟩,⟨rfl,rfl⟩,hbytes⟩:=ho;rw[hxe]at hx;rw[hye]at hy;exact fin hB hτ2 hx hbytes (V.srcG hy (h.slots k2 _ hB2) rfl) hn
      ·simp at he
     ·simp at he
    ·simp at he
   ·
    rename_i σ ys o2 hxe hye;split at he
    ·rename_i hB;split at he
     ·rename_i hτ;simp only[Xs]at he;subst he;rw[hxe]at hx;rw[hye]at hy;have hbytes:ys.length *re.bytes<=140737488355328:=ho;have hw:=((hT _ _ hre).ty _ hτ).1;have hiw:i.size=ab σ:=by rw[i2,hw]
      have hmaxn:ys.length<=bj:=by have:ys.length *1<=ys.length *re.bytes:=PF _ ((hT _ _ hre).bps ‹_›);unfold bj;omega
      have hed:=h.dom d hB
      have empty:ys=[]->Holds F ⟨bz s.T o.dst (.glst ys.length ys.length d),bB s.B [(d,.grow σ ys.length ys)]⟩ (a.put o.dst (.slice none 0 0)) ⟨fun i=>if d=i then some (.tail 0 none 0)else Ω.e i,Ω.w,Ω.pub⟩:=by
       intro hy0;subst hy0
       have hx':Ext Ω ⟨fun i=>if d=i then some (.tail 0 none 0)else Ω.e i,Ω.w,Ω.pub⟩:=by
        refine⟨fun id c hc=>⟨c,?_,CLe.refl c⟩,fun _ _ p=>p,fun _ _ _=>rfl⟩;have:d≠id:=fun e=>by subst e;rw[hed]at hc;cases hc
        simp[this,hc]
       refine h.slot hx' ⟨none,0,by simp,Od _,by unfold bj;omega,fun _=>rfl,fun b hb=>by simp at hb⟩ (fun _ _ _ _=>jV.of_blocks fun _ _ _=>⟨rfl,fun _ p=>p⟩) (fun _ _ _ _ _ _ _ hb=>by cases hb) h.pubok
        ⟨h.frame.os,h.frame.tape,h.frame.output,h.frame.size,h.frame.block,h.frame.cell,h.frame.kind,h.frame.pub,h.frame.old,h.frame.pcell⟩ ?_ hd
       exact .glst 0 0 d 0 none (Od _) (by unfold bj;omega) (.inr ⟨rfl,rfl,rfl⟩) ⟨0,none,0,by simp,Od _,fun _=>⟨rfl,rfl⟩⟩
      rcases hy.src with⟨hyv,hy0⟩|⟨ya,yc,us,hyv,hyl,hyvl,hyc,hy1⟩
      ·have hq:=hn _ _ (empty hy0);refine aq (ax hop (v:=.slice none 0 0) (w':=Ω.w) ?_) hq;rw[hyv,hx.nils_inv];exact gn Ω.w t _ e i hd1 i1 _ _ _ (Od _)
      ·by_cases hm:ys.length=0
       ·have hy0:=Oc hm;have hq:=hn _ _ (empty hy0);refine aq (ax hop (v:=.slice none 0 0) (w':=Ω.w) ?_) hq;rw[hyv,hx.nils_inv,hm];exact gY Ω.w t _ e i hd1 i1 ya yc
       ·have hzc:∀n,(Builtin.zeroCells zz.cells n).toList.length=n *ab σ:=by intro n;simp[Qy,hzl,hw]
        obtain⟨Ω',hw',hh⟩:=h.growNew (k:=d) (st:=ys.length) (aF:=ys.length) (old:=0) (e:=e) (zs:=ys) (us:=us) (rest:=(Builtin.zeroCells zz.cells (grownCap Ω.w ys.length 0 e-ys.length)).toList) (dst:=o.dst)
         (Or.inl hed) rfl hmaxn hyvl (by rw[hzc]) hd
        refine aq (ax hop (v:=.slice (some ⟨Ω.w.heap.size,0,none⟩) ys.length (grownCap Ω.w ys.length 0 e)) (w':=Ω'.w) ?_) (hn _ _ hh);rw[hyv,hx.nils_inv,hw'];have:=QJ (P:=P) Ω.w t o.type e i zz hd1 i1 i4 ya ys.length yc us (by rw[hiw];exact hyl) hyc (by omega) (by unfold bj at hmaxn;omega) (by rw[i3];omega);have e':(us++(Builtin.zeroCells zz.cells (grownCap Ω.w ys.length 0 e-ys.length)).toList).toArray=us.toArray++Builtin.zeroCells zz.cells (grownCap Ω.w ys.length 0 e-ys.length):=by apply Pj;simp
        rw[e'];exact this
     ·simp at he
    ·simp at he
   ·simp at he
  ·simp at he
 ·simp at he
theorem FN(hT:aR P C.tbl){args:Array Operand}{ts:Array Nat}(hop:o.op=.call {callee:=.builtin .append,args:=args,argTypes:=ts}):cv P C o:=by
 intro F s a Ω eff next Q h hd he ho hn
 simp only[au,hop]at he;split at he
 ·rename_i x y t t' d hargs hts hdst;have ha:args=#[x,y]:=by apply Pj;simpa using hargs
  have ht:ts=#[t,t']:=by apply Pj;simpa using hts
  subst ha ht;split at he;rotate_left
  ·split at he
   ·rename_i s' hye;exact CD hT hop h hd hye he ho hn
   ·cases he
  ·rename_i htt;simp at htt;subst htt;split at he
   ·exact zo hT hop hdst h hd he ho hn
   ·exact CE hT hop hdst h hd he ho hn
   have hx:=b9 h x;have hy:=b9 h y;unfold xm at he;split at he
   ·rename_i e sz by' z ty hr
    obtain⟨dd,hd1,hd2⟩:=az hT hr rfl;cases dd<;>simp[aD]at hd2;subst hd2;split at he
    ·rename_i re hre;obtain⟨i,zz,i1,i2,i3,i4,i5⟩:=(hT _ _ hre).info;have hzl:zz.cells.size=re.size:=by have p1:=(hT _ _ hre).zlen;rw[<-i5]at p1;simpa using p1
     split at he
     ·
      rename_i hxe hye;simp only[Xs]at he;subst he;rw[hxe]at hx;rw[hye]at hy;refine aq (ax hop (v:=.slice none 0 0) (w':=Ω.w) ?_) (hn _ _ ?_)
      ·rw[hx.nils_inv,hy.nils_inv];exact gn Ω.w t _ e i hd1 i1 none 0 0 (Od _)
      ·have:=h.pure (dst:=o.dst) (v:=.slice none 0 0) .nils hd;simpa[AS.put,bB,Eff.pure]using this
     ·
      rename_i τ xs o' hxe hye;simp only[Xs]at he;subst he;rw[hxe]at hx;rw[hye]at hy
      have hrun:(Builtin.append_ #[t,t] o.type #[a.eval x,a.eval y]).run P Ω.w=.ok (a.eval x) Ω.w:=by
       rw[hy.nils_inv];rcases hx.lst_inv with⟨h1,hv,_⟩|⟨h1,_,a0,hv⟩|⟨b,off,cap,vals,hv,h1,h2,h3,h4,h5⟩
       ·rw[hv];exact gn Ω.w t _ e i hd1 i1 none 0 0 (Od _)
       ·rw[hv];exact gn Ω.w t _ e i hd1 i1 _ _ _ (Od _)
       ·rw[hv];exact gn Ω.w t _ e i hd1 i1 _ _ _ h1
      refine aq (ax hop hrun) (hn _ _ ?_);have:=h.pure (dst:=o.dst) (v:=a.eval x) hx hd;simpa[AS.put,bB,Eff.pure]using this
     ·
      rename_i τ xs k σ ys o2 hxe hye;split at he
      ·rename_i ys' τ' n hcast hB;split at he
       ·rename_i hτ;obtain⟨hτ1,hτ2⟩:=hτ;subst hτ1;obtain⟨hστ,hys⟩:=gm hcast;subst hστ;simp only at hys;subst hys;simp only[Xs]at he;subst he;obtain⟨hcount,hbytes⟩:=ho;rw[hxe]at hx;rw[hye]at hy;have hw:=((hT _ _ hre).ty _ hτ2).1;have hiw:i.size=ab σ:=by rw[i2,hw]
        have hpos:=jU σ;have hby1:(xs.length+ys.length) *i.bytes<=140737488355328:=by rw[i3];exact hbytes
        obtain⟨base,cap,q1,q2,q3,q4,q5⟩:=h.slots k _ hB
        have hxtok:∃v,a.eval x=v/\v=.slice (dC base) n cap:=by
         refine⟨_,rfl,?_⟩
         have ht:iu Ω (some k) xs.length (a.eval x):=by
          rcases hx.lst_inv with⟨h1,hv,ht⟩|⟨_,ho,_⟩|⟨b,off,cap,vals,hv,h1,h2,h3,h4,h5⟩
          ·rw[h1];exact ht
          ·cases ho
          ·exact h3
         obtain⟨m,base',cap',r1,r2,r3⟩:=ht k rfl;rw[q1]at r1;simp only[Xs,CObj.tail.injEq]at r1;obtain⟨rfl,rfl,rfl⟩:=r1;rw[r3 hcount,hcount]
        obtain⟨_,rfl,hxv⟩:=hxtok;have hmaxn:xs.length+ys.length<=bj:=by have:(xs.length+ys.length) *1<=(xs.length+ys.length) *re.bytes:=PF _ ((hT _ _ hre).bps ‹_›);unfold bj;omega
        subst hcount;rcases hy.src with⟨hyv,hy0⟩|⟨ya,yc,us,hyv,hyl,hyvl,hyc,hy1⟩
        ·subst hy0;refine aq (ax hop (v:=a.eval x) (w':=Ω.w) ?_) (hn _ _ (h.same hB rfl hx hd));rw[hyv,hxv];exact gn Ω.w t _ e i hd1 i1 _ _ _ q2
        ·by_cases hroom:xs.length+ys.length<=cap
         ·cases base with
          |none=>have hc0:=q4 rfl;have hy0:ys=[]:=Oc (by omega);have hx0:xs=[]:=Oc (by omega);subst hy0 hx0;refine aq (ax hop (v:=a.eval x) (w':=Ω.w) ?_) (hn _ _ (h.same hB rfl hx hd));rw[hyv,hxv,hc0];exact gY Ω.w t _ e i hd1 i1 ya yc
          |some g=>
           obtain⟨p1,cur,bt,fz,p2,pf,p3,p4⟩:=q5 g rfl
           obtain⟨olds,ho1,ho2,ho3,hxp⟩:∃olds:List Value,olds.length=xs.length *ab σ/\VL Ω (flat σ xs) olds/\(∀j u,olds[j]?=some u->Ω.w.cell? ⟨g,j,none⟩=some u)/\∀i,i<xs.length *ab σ->Ω.pub g i:=by
            rcases hx.lst_inv with⟨h1,hv,_⟩|⟨_,ho,_⟩|⟨b,off,cap',vals,hv,h1,h2,h3,h4,h5⟩
            ·rw[hxv]at hv;simp[dC]at hv
            ·cases ho
            ·rw[hxv]at hv;simp only[dC,Po,Xs,Qt,OV,OK]at hv;obtain⟨⟨rfl,rfl⟩,rfl⟩:=hv;obtain⟨us',u1,u2,u3⟩:=V.row_cells h4 h5;refine⟨us',u1,u2,fun j u hj=>by have:=u3 j u hj;simpa using this,fun i hi=>?_⟩;have hdiv:i/ab σ<xs.length:=Rc (by rw[PW];exact hi);have hmod:i%ab σ<(cells σ xs[i/ab σ]).length:=by rw[aQ];exact RO _ hpos
             have:=(h4 (i/ab σ) _ (NY hdiv) (i%ab σ) _ (NY hmod)).1;have e':0+(i/ab σ *ab σ+i%ab σ)=i:=by rw[PW];have:=Rk i (ab σ);omega
             rw[e']at this;exact this
           obtain⟨Ω',hw',hh⟩:=h.room (dst:=o.dst) q1 p1 p2 pf p3 p4 hroom q3 ho2 ho3 hyvl hxp hd;refine aq (ax hop (v:=.slice (some ⟨g,0,none⟩) (xs.length+ys.length) cap) (w':=Ω'.w) ?_) (hn _ _ hh);rw[hyv,hxv,hw'];have hmul:(xs.length+ys.length) *ab σ<=cap *ab σ:=OP _ hroom;rw[OU]at hmul;have:=sI (P:=P) Ω.w t o.type e i hd1 i1 g xs.length cap bt cur fz p2 (by omega) ya ys.length yc us (by rw[hiw];exact hyl) hyc hy1 hroom (by rw[hiw,hyl];omega);rw[hiw]at this;exact this
         ·have hm:0<ys.length:=by omega
          have hlen:(xs++ys).length=xs.length+ys.length:=Oj;have hzc:∀n,(Builtin.zeroCells zz.cells n).toList.length=n *ab σ:=by intro n;simp[Qy,hzl,hw]
          cases base with
          |none=>
           have hc0:=q4 rfl;have hx0:xs=[]:=Oc (by omega);subst hx0;subst hc0
           obtain⟨Ω',hw',hh⟩:=h.grow (k:=k) (aF:=ys.length) (old:=0) (e:=e) (zs:=[]++ys) (us:=us) (rest:=(Builtin.zeroCells zz.cells (grownCap Ω.w ys.length 0 e-ys.length)).toList) (dst:=o.dst)
            (Or.inr ⟨_,_,_,q1,by simpa using hm⟩) (by simp) (by simpa using hmaxn) hyvl (by rw[hzc]) hd
           refine aq (ax hop (v:=.slice (some ⟨Ω.w.heap.size,0,none⟩) ys.length (grownCap Ω.w ys.length 0 e)) (w':=Ω'.w) ?_) (hn _ _ hh);rw[hyv,hxv,hw'];have:=QJ (P:=P) Ω.w t o.type e i zz hd1 i1 i4 ya ys.length yc us (by rw[hiw];exact hyl) hyc hm (by unfold bj at hmaxn;simp at hmaxn;omega) (by simp at hby1;omega);have e':(us++(Builtin.zeroCells zz.cells (grownCap Ω.w ys.length 0 e-ys.length)).toList).toArray=us.toArray++Builtin.zeroCells zz.cells (grownCap Ω.w ys.length 0 e-ys.length):=by apply Pj;simp
           rw[e'];exact this
          |some g=>
           obtain⟨olds,ho1,ho2,ho3⟩:∃olds:List Value,olds.length=xs.length *ab σ/\VL Ω (flat σ xs) olds/\(∀j u,olds[j]?=some u->Ω.w.cell? ((⟨g,0,none⟩:Addr).add j)=some u):=by
            rcases hx.lst_inv with⟨h1,hv,_⟩|⟨_,ho,_⟩|⟨b,off,cap',vals,hv,h1,h2,h3,h4,h5⟩
            ·rw[hxv]at hv;simp[dC]at hv
            ·cases ho
            ·rw[hxv]at hv;simp only[dC,Po,Xs,Qt,OV,OK]at hv;obtain⟨⟨rfl,rfl⟩,rfl⟩:=hv;obtain⟨us',u1,u2,u3⟩:=V.row_cells h4 h5;exact⟨us',u1,u2,fun j u hj=>by rw[gO];exact u3 j u hj⟩
           obtain⟨Ω',hw',hh⟩:=h.grow (k:=k) (aF:=xs.length+ys.length) (old:=cap) (e:=e) (zs:=xs++ys) (us:=olds++us) (rest:=(Builtin.zeroCells zz.cells (grownCap Ω.w (xs.length+ys.length) cap e-(xs.length+ys.length))).toList) (dst:=o.dst)
            (Or.inr ⟨_,_,_,q1,by simpa using hm⟩) (by simp) hmaxn (by rw[cJ];exact ho2.append hyvl) (by rw[hzc]) hd
           refine aq (ax hop (v:=.slice (some ⟨Ω.w.heap.size,0,none⟩) (xs.length+ys.length) (grownCap Ω.w (xs.length+ys.length) cap e)) (w':=Ω'.w) ?_) (hn _ _ hh);rw[hyv,hxv,hw'];have:=run_append_grow (P:=P) Ω.w t o.type e i zz hd1 i1 i4 ⟨g,0,none⟩ xs.length cap olds (by rw[hiw];exact ho1) ho3 ya ys.length yc us (by rw[hiw];exact hyl) hyc (by omega) (by unfold bj at hmaxn;omega) (Rx (by omega) hby1);have e':(olds++us++(Builtin.zeroCells zz.cells (grownCap Ω.w (xs.length+ys.length) cap e-(xs.length+ys.length))).toList).toArray=olds.toArray++us.toArray++Builtin.zeroCells zz.cells (grownCap Ω.w (xs.length+ys.length) cap e-(xs.length+ys.length)):=by apply Pj;simp
           rw[e'];exact this
       ·simp at he
      ·simp at he
     ·
      rename_i σ ys o2 hxe hye;split at he
      ·rename_i hB;split at he
       ·rename_i hτ;simp only[Xs]at he;subst he;rw[hxe]at hx;rw[hye]at hy;have hbytes:ys.length *re.bytes<=140737488355328:=ho;have hw:=((hT _ _ hre).ty _ hτ).1;have hiw:i.size=ab σ:=by rw[i2,hw]
        have hmaxn:ys.length<=bj:=by have:ys.length *1<=ys.length *re.bytes:=PF _ ((hT _ _ hre).bps ‹_›);unfold bj;omega
        have hed:=h.dom d hB
        have empty:ys=[]->Holds F ⟨bz s.T o.dst (.lst σ ys (some d)),bB s.B [(d,.tail σ ys.length)]⟩ (a.put o.dst (.slice none 0 0)) ⟨fun i=>if d=i then some (.tail 0 none 0)else Ω.e i,Ω.w,Ω.pub⟩:=by
         intro hy0;subst hy0
         have hx':Ext Ω ⟨fun i=>if d=i then some (.tail 0 none 0)else Ω.e i,Ω.w,Ω.pub⟩:=by
          refine⟨fun id c hc=>⟨c,?_,CLe.refl c⟩,fun _ _ p=>p,fun _ _ _=>rfl⟩;have:d≠id:=fun e=>by subst e;rw[hed]at hc;cases hc
          simp[this,hc]
         refine h.slot hx' ⟨none,0,by simp,Od _,by unfold bj;omega,fun _=>rfl,fun b hb=>by simp at hb⟩ (fun _ _ _ _=>jV.of_blocks fun _ _ _=>⟨rfl,fun _ p=>p⟩) (fun _ _ _ _ _ _ _ hb=>by cases hb) h.pubok
          ⟨h.frame.os,h.frame.tape,h.frame.output,h.frame.size,h.frame.block,h.frame.cell,h.frame.kind,h.frame.pub,h.frame.old,h.frame.pcell⟩ ?_ hd
         refine .lstNil σ _ ?_;intro id hid;simp at hid;subst hid;exact⟨0,none,0,by simp,Od _,fun _=>rfl⟩
        rcases hy.src with⟨hyv,hy0⟩|⟨ya,yc,us,hyv,hyl,hyvl,hyc,hy1⟩
        ·have hq:=hn _ _ (empty hy0);refine aq (ax hop (v:=.slice none 0 0) (w':=Ω.w) ?_) hq;rw[hyv,hx.nils_inv];exact gn Ω.w t _ e i hd1 i1 _ _ _ (Od _)
        ·by_cases hm:ys.length=0
         ·have hy0:=Oc hm;have hq:=hn _ _ (empty hy0);refine aq (ax hop (v:=.slice none 0 0) (w':=Ω.w) ?_) hq;rw[hyv,hx.nils_inv,hm];exact gY Ω.w t _ e i hd1 i1 ya yc
         ·have hzc:∀n,(Builtin.zeroCells zz.cells n).toList.length=n *ab σ:=by intro n;simp[Qy,hzl,hw]
          obtain⟨Ω',hw',hh⟩:=h.grow (k:=d) (aF:=ys.length) (old:=0) (e:=e) (zs:=ys) (us:=us) (rest:=(Builtin.zeroCells zz.cells (grownCap Ω.w ys.length 0 e-ys.length)).toList) (dst:=o.dst)
           (Or.inl hed) rfl hmaxn hyvl (by rw[hzc]) hd
          refine aq (ax hop (v:=.slice (some ⟨Ω.w.heap.size,0,none⟩) ys.length (grownCap Ω.w ys.length 0 e)) (w':=Ω'.w) ?_) (hn _ _ hh);rw[hyv,hx.nils_inv,hw'];have:=QJ (P:=P) Ω.w t o.type e i zz hd1 i1 i4 ya ys.length yc us (by rw[hiw];exact hyl) hyc (by omega) (by unfold bj at hmaxn;omega) (by rw[i3];omega);have e':(us++(Builtin.zeroCells zz.cells (grownCap Ω.w ys.length 0 e-ys.length)).toList).toArray=us.toArray++Builtin.zeroCells zz.cells (grownCap Ω.w ys.length 0 e-ys.length):=by apply Pj;simp
          rw[e'];exact this
       ·simp at he
      ·simp at he
     ·simp at he
    ·simp at he
   ·simp at he
 ·simp at he
end
end Go.AL
end
noncomputable section
namespace Go.AL
variable [Tabs]
section
variable {K V:Type} [DecidableEq K]
theorem mv{k:K}:∀{m:List (K×V)},(∀x∈m,x.1≠k)->cu m k=none
 |[],_=>rfl
 |(a,v)::r,h=>by have h1:¬k=a:=fun e=>h (a,v) (by simp) e.symm;simp only[cu,h1,OL];exact mv (fun x hx=>h x (by simp[hx]))
theorem rJ{k:K}{v:V}:∀{m:List (K×V)} {j:Nat},(m.map (·.1)).Nodup->m[j]?=some (k,v)->cu m k=some v
 |[],j,_,h=>by simp at h
 |(a,u)::r,0,_,h=>by simp at h;obtain⟨rfl,rfl⟩:=h;simp[cu]
 |(a,u)::r,j+1,hn,h=>by simp only[OJ,Q8]at hn;have hm:(k,v)∈r:=Ot (by simpa using h);have h1:¬k=a:=fun e=>hn.1 (by rw[<-e];exact OC.2 ⟨(k,v),hm,rfl⟩);simp only[cu,h1,OL];exact rJ hn.2 (by simpa using h)
theorem mw{k:K}{v:V}:∀{m:List (K×V)},(∀x∈m,x.1≠k)->bP m k v=m++[(k,v)]
 |[],_=>rfl
 |(a,u)::r,h=>by have h1:¬k=a:=fun e=>h (a,u) (by simp) e.symm;simp only[bP,h1,OL,OQ];rw[mw (fun x hx=>h x (by simp[hx]))]
theorem rK{k:K}{u v:V}:∀{m:List (K×V)} {j:Nat},(m.map (·.1)).Nodup->m[j]?=some (k,u)->bP m k v=m.set j (k,v)
 |[],j,_,h=>by simp at h
 |(a,w)::r,0,_,h=>by simp at h;obtain⟨rfl,rfl⟩:=h;simp[bP]
 |(a,w)::r,j+1,hn,h=>by simp only[OJ,Q8]at hn;have hm:(k,u)∈r:=Ot (by simpa using h);have h1:¬k=a:=fun e=>hn.1 (by rw[<-e];exact OC.2 ⟨(k,u),hm,rfl⟩);simp only[bP,h1,OL,List.set_cons_succ];rw[rK hn.2 (by simpa using h)]
theorem oF{k:K}:∀{m:List (K×V)},(∀x∈m,x.1≠k)->mix m k=m.length
 |[],_=>rfl
 |(a,v)::r,h=>by have h1:¬k=a:=fun e=>h (a,v) (by simp) e.symm;simp only[mix,h1,OL,O8];rw[oF (fun x hx=>h x (by simp[hx]))]
theorem xJ{k:K}{v:V}:∀{m:List (K×V)} {j:Nat},(m.map (·.1)).Nodup->m[j]?=some (k,v)->mix m k=j
 |[],j,_,h=>by simp at h
 |(a,u)::r,0,_,h=>by simp at h;obtain⟨rfl,rfl⟩:=h;simp[mix]
 |(a,u)::r,j+1,hn,h=>by simp only[OJ,Q8]at hn;have hm:(k,v)∈r:=Ot (by simpa using h);have h1:¬k=a:=fun e=>hn.1 (by rw[<-e];exact OC.2 ⟨(k,v),hm,rfl⟩);simp only[mix,h1,OL];rw[xJ hn.2 (by simpa using h)]
end
def jn:(κ:Ty)->den κ->Value
 |.str,k=>.string ⟨(show Str from k).toArray⟩
 |.int j,n=>.int j n
 |.st .nm,k=>.agg #[.string ⟨(Nam.pkg k).toArray⟩,.string ⟨(Nam.name k).toArray⟩]
 |_,_=>undef
section
variable {P:Program} {C:Cfg}
theorem eX{ti:TI}{κ:Ty}(h:jT C ti κ=true):(ti=.str/\κ=.str)∨(∃j,ti=.int j/\κ=.int j)∨∃fs,ti=.strct true fs/\κ=.st .nm/\xo C fs=true:=by
 unfold jT at h;split at h
 ·exact .inl ⟨rfl,rfl⟩
 ·simp at h;subst h;exact .inr (.inl ⟨_,rfl,rfl⟩)
 ·exact .inr (.inr ⟨_,rfl,rfl,h⟩)
 ·cases h
theorem zq{ti:TI}{κ:Ty}(h:jT C ti κ=true){a b:den κ}(e:jn κ a=jn κ b):a=b:=by
 rcases eX h with⟨_,rfl⟩|⟨j,_,rfl⟩|⟨fs,_,rfl,_⟩
 ·simpa[jn]using e
 ·simpa[jn]using e
 ·obtain⟨a1,a2⟩:=a;obtain⟨b1,b2⟩:=b;simpa[jn]using e
theorem FO{Ω:Om}{k:Nam}{v:Value}(hv:V Ω (.st .nm k) v):v=jn (.st .nm) k/\k.pkg.length<=bj/\k.name.length<=bj:=by
 cases hv with
 |st _ _ v hv=>
 obtain⟨vs,rfl,hl⟩:=hv.agg_inv;obtain⟨hn,hp⟩:=hl
 match vs,hn with
 |[x,y],_=>obtain⟨e1,l1⟩:=(hp 0 (.str k.pkg) x rfl rfl).str_inv;obtain⟨e2,l2⟩:=(hp 1 (.str k.name) y rfl rfl).str_inv;subst e1 e2;exact⟨rfl,l1,l2⟩
theorem sJ{ti:TI}{κ:Ty}(h:jT C ti κ=true){Ω:Om}{k:den κ}{v:Value}(hv:V Ω (inj κ k) v):v=jn κ k:=by
 rcases eX h with⟨_,rfl⟩|⟨j,_,rfl⟩|⟨fs,_,rfl,_⟩
 ·exact hv.str_inv.1
 ·exact hv.int_inv.1
 ·exact(FO hv).1
theorem mW{fields:Array Field}{fs:List (Nat × Nat)}(h:xo C fs=true)(he:(fields.toList.map fun f=>(f.offset,f.type))=fs)(hn:∀f∈fields.toList,f.name≠ "_") :
  ∃f g ra rb,fields=#[f,g]/\f.offset=0/\g.offset=1/\f.name≠ "_"/\g.name≠ "_"/\fs=[(0,f.type),(1,g.type)]/\aB C.tbl f.type=some ra/\ra.ti=.str/\aB C.tbl g.type=some rb/\rb.ti=.str:=by
 unfold xo at h;split at h
 ·rename_i a b;split at h
  ·rename_i h1 h2;obtain⟨l⟩:=fields;have hlen:l.length=2:=by simpa using PT List.length he
   obtain⟨f,g,rfl⟩:∃f g,l=[f,g]:=by
    match l,hlen with
    |[f,g],_=>exact⟨f,g,rfl⟩
   simp only[OJ,RN,P8,Qu,OK]at he;obtain⟨⟨e1,rfl⟩,e2,rfl⟩:=he;exact⟨f,g,_,_,rfl,e1,e2,hn f (by simp),hn g (by simp),rfl,h1,rfl,h2,rfl⟩
  ·cases h
 ·cases h
theorem uY(hT:aR P C.tbl){kt:Nat}{rk:TR}(hr:aB C.tbl kt=some rk){κ:Ty}(h:jT C rk.ti κ=true)(k:den κ)(em:Bool)(w:World):(Instr.checkKey em 10000 kt (jn κ k)).run P w=.ok () w:=by
 obtain⟨d,hd1,hd2⟩:=az hT hr rfl;rcases eX h with⟨e,rfl⟩|⟨j,e,rfl⟩|⟨fs,e,rfl,h2⟩
 ·rw[e]at hd2;exact Re hd1 (by cases d<;>simp[aD]at hd2;trivial) em 9999
 ·rw[e]at hd2;exact Re hd1 (by cases d<;>simp[aD]at hd2;subst hd2;trivial) em 9999
 ·rw[e]at hd2;cases d<;>try (simp[aD]at hd2;done)
  rename_i fields;simp only[aD,NZ,O1,O9]at hd2;obtain⟨f,g,ra,rb,rfl,o1,o2,n1,n2,_,t1,i1,t2,i2⟩:=mW h2 hd2.1 (fun f hf=>by simpa using(hd2.2 f hf).2);have jQ:∀{t:Nat} {r:TR} (s:Str),aB C.tbl t=some r->r.ti=.str->(Instr.checkKey em 9999 t (.string ⟨s.toArray⟩)).run P w=.ok () w:=fun{t r} s ht hi=>by obtain⟨d,hd1,hd2⟩:=az hT ht hi;exact Re hd1 (by cases d<;>simp[aD]at hd2;trivial) em 9998
  have pt:∀{t:Nat} {r:TR} {cs:Array Value} {i:Nat} {u:Value},aB C.tbl t=some r->r.ti=.str->cs[i]?=some u->(part t cs i).run P w=.ok u w:=fun{t r cs i u} ht hi hu=>by simp[part,(hT _ _ ht).tf.agg,TR.isAgg,hi,hu]
  unfold Instr.checkKey;simp only[Ou,ay hd1,O6,jn];simp[o1,o2,n1,n2,pt t1 i1 (cs:=#[.string ⟨(Nam.pkg k).toArray⟩,.string ⟨(Nam.name k).toArray⟩]) (i:=0) rfl,pt t2 i2 (cs:=#[.string ⟨(Nam.pkg k).toArray⟩,.string ⟨(Nam.name k).toArray⟩]) (i:=1) rfl,jQ _ t1 i1,jQ _ t2 i2]
theorem uZ{ti:TI}{κ:Ty}(h:jT C ti κ=true)(k:den κ)(w:World):(Instr.keyThatStays (jn κ k) (jn κ k)).run P w=.ok (jn κ k) w:=by
 rcases eX h with⟨_,rfl⟩|⟨j,_,rfl⟩|⟨fs,_,rfl,_⟩
 ·exact MapKept.run_keyThatStays (d:=.string) (by trivial)
 ·exact MapKept.run_keyThatStays (d:=.int j) (by trivial)
 ·have b:∀x:ByteArray,(x ==x)=true:=fun x=>(MapKept.bytes_beq x x).2 rfl;simp[Instr.keyThatStays,jn,Instr.sameBits,b]
theorem FP(hT:aR P C.tbl){kt:Nat}{rk:TR}(hr:aB C.tbl kt=some rk){κ:Ty}(h:jT C rk.ti κ=true){Ω:Om}{k0:den κ}{kv:Value}(hV:V Ω (inj κ k0) kv)(l:List MapEntry)(hl:∀x∈l,∃k,V Ω (inj κ k) x.key) :
  ((Instr.findKey kt kv l).run P Ω.w=.ok none Ω.w/\∀x∈l,x.key≠kv)∨∃j e,(Instr.findKey kt kv l).run P Ω.w=.ok (some (j,e.val)) Ω.w/\l[j]?=some e/\e.key=kv:=by
 obtain⟨d,hd1,hd2⟩:=az hT hr rfl
 have fr:(∀k:den κ,MapKept.IsKey d (jn κ k))->(((Instr.findKey kt kv l).run P Ω.w=.ok none Ω.w/\∀x∈l,x.key≠kv)∨∃j e,(Instr.findKey kt kv l).run P Ω.w=.ok (some (j,e.val)) Ω.w/\l[j]?=some e/\e.key=kv):=fun hk=>by
  have hkv:=sJ h hV;rcases MapKept.findNow_spec (hkv ▸ hk k0) l 0 (fun x hx=>by obtain⟨k,hk'⟩:=hl x hx;rw[sJ h hk'];exact hk k)with⟨h1,h2⟩|⟨j,e,h1,h2,h3⟩
  ·exact .inl ⟨MapKept.run_findKey hd1 h1,h2⟩
  ·exact .inr ⟨j,e,MapKept.run_findKey hd1 (by simpa using h1),h2,h3⟩
 rcases eX h with⟨e,rfl⟩|⟨j,e,rfl⟩|⟨fs,e,rfl,h2⟩
 ·rw[e]at hd2;exact fr fun k=>by cases d<;>simp[aD]at hd2;trivial
 ·rw[e]at hd2;exact fr fun k=>by cases d<;>simp[aD]at hd2;subst hd2;trivial
 ·rw[e]at hd2;cases d<;>try (simp[aD]at hd2;done)
  rename_i fields;simp only[aD,NZ,O1,O9]at hd2;obtain⟨hf1,hf2⟩:=hd2;obtain⟨q1,q2⟩:=(hT _ _ hr).eqs fs e;have hfo:P.fieldsOf kt=fields:=by simp[Program.fieldsOf,hd1]
  have heq:∀{k:Nam} {v:Value},V Ω (.st .nm k) v->(Op.equal kt kv v).run P Ω.w=.ok (decide (k0=k)) Ω.w:=fun{k v} hk=>by
   obtain⟨xs,rfl,hx⟩:=ky hV (show jS (.st .nm k0)=some (fZ k0)from rfl);obtain⟨ys,rfl,hy⟩:=ky hk (show jS (.st .nm k)=some (fZ k)from rfl);show(Op.equalIn 10000 kt (.agg xs.toArray) (.agg ys.toArray)).run P Ω.w=_;rw[Rw Ω.w 9999 kt _ _ (by rw[hfo];exact hd1) q1,hfo];refine ku hT hx hy 9998 Ω.w fields.toList _ (fun f hf=>by simpa using(hf2 f hf).2) ?_;obtain⟨f,g,ra,rb,rfl,o1,o2,n1,n2,rfl,t1,i1,t2,i2⟩:=mW h2 hf1 (fun f hf=>by simpa using(hf2 f hf).2);obtain⟨a1,a2⟩:=k0;obtain⟨b1,b2⟩:=k;have dn:decide ((⟨a1,a2⟩:Nam)=⟨b1,b2⟩)=(decide (a1=b1)&&decide (a2=b2)):=by rw[<-Bool.decide_and];exact Pg.2 (by simp)
   rw[dn];simp[Cl,fZ,nth,t1,t2,i1,i2,s9,o1,o2]
  have ask:∀(l:List MapEntry)(i:Nat),(∀x∈l,∃k,V Ω (inj (.st .nm) k) x.key)->
    ((Instr.findAsking kt kv l i).run P Ω.w=.ok none Ω.w/\∀x∈l,x.key≠kv)∨∃j e,(Instr.findAsking kt kv l i).run P Ω.w=.ok (some (i+j,e.val)) Ω.w/\l[j]?=some e/\e.key=kv:=by
   intro l
   induction l with
   |nil=>intro i _;exact .inl ⟨rfl,by simp⟩
   |cons x r ih=>
    intro i hl;obtain⟨k,hk⟩:=hl x (by simp);have hq:=heq hk;by_cases c:k0=k
    ·subst c;refine .inr ⟨0,x,?_,rfl,?_⟩
     ·rw[Xd rfl]at hq;simp[Instr.findAsking,hq]
     ·rw[(FO hk).1,(FO hV).1]
    ·rw[Xf c]at hq
     have hne:x.key≠kv:=fun e=>c (by
      rw[(FO hk).1,(FO hV).1]at e;exact(zq h e).symm)
     rcases ih (i+1) (fun y hy=>hl y (by simp[hy]))with⟨h1,h2⟩|⟨j,e,h1,h2,h3⟩
     ·exact .inl ⟨by simp[Instr.findAsking,hq,h1],fun y hy=>by
       rcases O7.1 hy with rfl|hy
       ·exact hne
       ·exact h2 y hy⟩
     ·exact .inr ⟨j+1,e,by simp[Instr.findAsking,hq,h1];omega,by simpa using h2,h3⟩
  have hnow:l=[]∨Instr.findNow (.struct fields) kv l 0=none:=by
   cases l with|nil=>exact .inl rfl|cons x r=>exact .inr (by simp[Instr.findNow,Instr.sameNow])
  rcases hnow with rfl|hnow
  ·exact .inl ⟨by simp[Instr.findKey,ay hd1,Instr.findNow],by simp⟩
  ·rcases ask l 0 hl with⟨h1,h2⟩|⟨j,e,h1,h2,h3⟩
   ·exact .inl ⟨by simp[Instr.findKey,ay hd1,hnow,h1],h2⟩
   ·exact .inr ⟨j,e,by simp[Instr.findKey,ay hd1,hnow,h1],h2,h3⟩
end
theorem MapOK.find{P:Program}{C:Cfg}(hT:aR P C.tbl){kt:Nat}{rk:TR}(hr:aB C.tbl kt=some rk){Ω:Om}{κ τ:Ty}{m:List (den κ×den τ)}{es:Array MapEntry}{clock:Nat}(h:MapOK Ω κ τ m es clock)(hk:jT C rk.ti κ=true)
 {k:AV}{kv:Value}(hV:V Ω k kv){g:Option (den τ)}(hg:gg κ τ m k=some g):∃k0:den κ,kv=jn κ k0/\V Ω (inj κ k0) kv/\(∀em,(Instr.checkKey em 10000 kt kv).run P Ω.w=.ok () Ω.w)/\(Instr.keyThatStays kv kv).run P Ω.w=.ok kv Ω.w/\
  (((Instr.findKey kt kv es.toList).run P Ω.w=.ok none Ω.w/\g=none/\(∀x∈m,x.1≠k0)/\(∀v,gL κ τ m k v=some (m++[(k0,v)]))/\vO κ τ m k=some m.length)∨
   ∃j e v,(Instr.findKey kt kv es.toList).run P Ω.w=.ok (some (j,e.val)) Ω.w/\es[j]?=some e/\m[j]?=some (k0,v)/\g=some v/\e.key=kv/\
    (∀u,gL κ τ m k u=some (m.set j (k0,u)))/\vO κ τ m k=some j):=by
 have hkeys:∀x∈es.toList,∃k',V Ω (inj κ k') x.key:=by
  intro x hx;obtain⟨j,hj,e⟩:=Rb.1 hx;have hj':j<m.length:=by rw[<-h.size];simpa using hj
  have hej:es[j]?=some x:=by rw[<-Oh,NY hj,e]
  exact⟨_,(h.ent j x _ hej (NY hj')).1⟩
 have main:∀(k0:den κ)(get:den κ->Option (den τ))(set:den κ->den τ->List (den κ×den τ))(ix:den κ->Nat),V Ω (inj κ k0) kv->
   ((∀x∈m,x.1≠k0)->get k0=none/\(∀v,set k0 v=m++[(k0,v)])/\ix k0=m.length)->
   (∀j v,m[j]?=some (k0,v)->get k0=some v/\(∀u,set k0 u=m.set j (k0,u))/\ix k0=j)->kv=jn κ k0/\V Ω (inj κ k0) kv/\(∀em,(Instr.checkKey em 10000 kt kv).run P Ω.w=.ok () Ω.w)/\(Instr.keyThatStays kv kv).run P Ω.w=.ok kv Ω.w/\
   (((Instr.findKey kt kv es.toList).run P Ω.w=.ok none Ω.w/\get k0=none/\(∀x∈m,x.1≠k0)/\(∀v,set k0 v=m++[(k0,v)])/\ix k0=m.length)∨
    ∃j e v,(Instr.findKey kt kv es.toList).run P Ω.w=.ok (some (j,e.val)) Ω.w/\es[j]?=some e/\m[j]?=some (k0,v)/\get k0=some v/\e.key=kv/\
     (∀u,set k0 u=m.set j (k0,u))/\ix k0=j):=by
  intro k0 get set ix hV hn hs;have hkv:=sJ hk hV;refine⟨hkv,hV,fun em=>by rw[hkv];exact uY hT hr hk k0 em Ω.w,by rw[hkv];exact uZ hk k0 Ω.w,?_⟩;rcases FP hT hr hk hV es.toList hkeys with⟨h1,h2⟩|⟨j,e,h1,h2,h3⟩
  ·have hne:∀x∈m,x.1≠k0:=by
    intro x hx e;obtain⟨j,hj,e2⟩:=Rb.1 hx;have hj':j<es.size:=by rw[h.size];exact hj
    obtain⟨q1,_⟩:=h.ent j es[j] x (Oz hj') (by rw[NY hj,e2]);refine h2 es[j] (by simp) ?_;rw[sJ hk q1,e,hkv]
   exact .inl ⟨h1,(hn hne).1,hne,(hn hne).2⟩
  ·have hej:es[j]?=some e:=by rw[<-Oh];exact h2
   have hj:j<m.length:=by
    rw[<-h.size];rcases O5 j es.size with k|k
    ·exact k
    ·rw[OM k]at hej;cases hej
   obtain⟨q1,_⟩:=h.ent j e m[j] hej (NY hj);have hk0:m[j].1=k0:=by have:=sJ hk q1;rw[h3,hkv]at this;exact(zq hk this).symm
   have hmj:m[j]?=some (k0,m[j].2):=by rw[NY hj,<-hk0]
   obtain⟨r1,r2⟩:=hs j _ hmj;exact .inr ⟨j,e,_,h1,hej,hmj,r1,h3,r2⟩
 rcases eX hk with⟨_,rfl⟩|⟨i,_,rfl⟩|⟨fs,_,rfl,_⟩
 ·cases k<;>simp only[gg,Xs,reduceCtorEq]at hg;rename_i k0;refine⟨k0,?_⟩
  have:=main k0 (fun k=>cu (K:=Str) m k) (fun k v=>bP (K:=Str) m k v) (fun k=>mix (K:=Str) m k) hV
   (fun hn=>⟨mv hn,fun v=>mw hn,oF hn⟩) (fun j v hj=>⟨rJ h.keys hj,fun u=>rK h.keys hj,xJ h.keys hj⟩)
  rw[<-hg];simpa[gL,vO]using this
 ·cases k<;>simp only[gg,Xs,reduceCtorEq]at hg;rename_i i' k0;split at hg
  ·rename_i hii;subst hii;refine⟨k0,?_⟩
   have:=main k0 (fun k=>cu (K:=Int) m k) (fun k v=>bP (K:=Int) m k v) (fun k=>mix (K:=Int) m k) hV
    (fun hn=>⟨mv hn,fun v=>mw hn,oF hn⟩) (fun j v hj=>⟨rJ h.keys hj,fun u=>rK h.keys hj,xJ h.keys hj⟩)
   simp only[Xs]at hg;rw[<-hg];simpa[gL,vO]using this
  ·cases hg
 ·simp only[gg]at hg
  cases ha:arg (.st .nm) k with
  |none=>rw[ha]at hg;cases hg
  |some k0=>
   rw[ha]at hg;simp only[Xs]at hg;refine⟨k0,?_⟩
   have:=main k0 (fun k=>cu (K:=Nam) m k) (fun k v=>bP (K:=Nam) m k v) (fun k=>mix (K:=Nam) m k) (EO hV ha)
    (fun hn=>⟨mv hn,fun v=>mw hn,oF hn⟩) (fun j v hj=>⟨rJ h.keys hj,fun u=>rK h.keys hj,xJ h.keys hj⟩)
   rw[<-hg];simpa[gL,vO,ha]using this
section
variable {P:Program} {C:Cfg} {o:Oper}
theorem sK(hT:aR P C.tbl){e:Nat}{re:TR}(hre:aB C.tbl e=some re){τ:Ty}(hty:re.ty=some τ){z:den τ}(hz:r6 τ re.zero=some z)(Ω:Om) :
  ∃i v,P.info? e=some i/\i.zero=some v/\V Ω (inj τ z) v/\VL Ω (cells τ z) v.cells.toList:=by
 obtain⟨i,v,i1,i2,i3,i4,i5⟩:=(hT _ _ hre).info;have hag:=(hT _ _ hre).zagg i v i1 i4;have hst:=((hT _ _ hre).ty τ hty).2;have hvl:VL Ω (cells τ z) v.cells.toList:=by have:=sx Ω v.cells.toList;rw[i5]at this;exact this.rd (kB τ hz)
 refine⟨i,v,i1,i4,?_,hvl⟩
 cases τ with
 |st n=>
  have:Cq v=true:=by rw[hag,<-hst];rfl
  cases v<;>simp[Cq]at this;rename_i cs;have e:(Value.agg cs).cells.toList.toArray=cs:=by simp[Value.cells]
  have:=V.st (Ω:=Ω) n z (.agg (Value.agg cs).cells.toList.toArray) (V.of_agg hvl);rw[e]at this;exact this
 |_=>
  have:Cq v=false:=by rw[hag,<-hst];rfl
  have hc:v.cells.toList=[v]:=by cases v<;>simp[Cq]at this<;>rfl
  rw[hc]at hvl;exact hvl.head
theorem FQ(hT:aR P C.tbl){t:Nat}{x k:Operand}{ok:Bool}(hop:o.op=.lookup t x k ok):cv P C o:=by
 refine cv.pure fun F s a Ω eff h he ho=>?_;simp only[au,hop,js]at he;have hx:=b9 h x;have hk:=b9 h k;split at he
 ·rename_i kt e sz by' z0 ty id hr hxe
  rw[hxe]at hx;split at he
  ·rename_i rk re κ τ m hrk hre hm;split at he
   ·rename_i z g hz hg;split at he
    ·rename_i hc;simp only[NZ,O1]at hc;obtain⟨hko,hty⟩:=hc;simp only[Xs]at he;subst he;obtain⟨d,hd1,hd2⟩:=az hT hr rfl;cases d<;>simp[aD]at hd2;obtain⟨rfl,rfl⟩:=hd2;obtain⟨dk,hk1,hk2⟩:=az hT hrk rfl;generalize hxv:a.eval x=xv at hx
     cases hx with
     |map _ r her=>
      obtain⟨r',e1,e2,es,clock,e3,e4⟩:=h.slots _ _ hm;rw[her]at e1;simp only[Xs,CObj.obj.injEq]at e1;subst e1;obtain⟨k0,hkv,_,hck,_,hf⟩:=e4.find hT hrk hko hk hg;obtain⟨i,zv,i1,i4,zV,_⟩:=sK hT hre hty hz Ω;have hgo:=QE (P:=P) e3;rw[hkv]at hck hf;rcases hf with⟨h1,h2,h3,h4⟩|⟨j,en,v,h1,h2,h3,h4,h5,h6⟩
      ·have hfk:=h1;subst h2
       cases ok with
       |true=>
        refine⟨rfl,.tuple #[zv,.bool false],?_,?_⟩
        ·simp[execOp,hop,hxv,hkv,Instr.lookup,ay hd1,hgo,hck,hfk,eU i1 i4]
        ·exact V.of_tup (VL.cons zV (VL.cons (.bool false) .nil))
       |false=>refine⟨rfl,zv,?_,zV⟩;simp[execOp,hop,hxv,hkv,Instr.lookup,ay hd1,hgo,hck,hfk,eU i1 i4]
      ·have hfk:=h1;subst h4;have hv:=(e4.ent j en _ h2 h3).2
       cases ok with
       |true=>
        refine⟨rfl,.tuple #[en.val,.bool true],?_,?_⟩
        ·simp[execOp,hop,hxv,hkv,Instr.lookup,ay hd1,hgo,hck,hfk]
        ·exact V.of_tup (VL.cons hv (VL.cons (.bool true) .nil))
       |false=>refine⟨rfl,en.val,?_,hv⟩;simp[execOp,hop,hxv,hkv,Instr.lookup,ay hd1,hgo,hck,hfk]
    ·simp at he
   ·simp at he
  ·simp at he
 ·rename_i kt e sz by' z0 ty hr hxe
  rw[hxe]at hx;split at he
  ·rename_i rk re hrk hre;split at he
   ·rename_i κ τ hκ hτ;split at he
    ·rename_i z hz hg;split at he
     ·rename_i hko;simp only[Xs]at he;subst he;obtain⟨d,hd1,hd2⟩:=az hT hr rfl;cases d<;>simp[aD]at hd2;obtain⟨rfl,rfl⟩:=hd2;generalize hxv:a.eval x=xv at hx;cases hx;have e4:MapOK Ω κ τ [] #[] 0:=⟨rfl,fun i e x hi=>by simp at hi,List.nodup_nil,fun i e hi=>by simp at hi,fun i j e f hi=>by simp at hi,fun i e hi=>by simp at hi,rfl⟩;obtain⟨k0,hkv,_,hck,_,hf⟩:=e4.find hT hrk hko hk hg;obtain⟨i,zv,i1,i4,zV,_⟩:=sK hT hre hτ hz Ω;rw[hkv]at hck hf;rcases hf with⟨h1,h2,h3,h4⟩|⟨j,en,v,h1,h2,h3,h4,h5,h6⟩
      ·have hfk:=h1
       cases ok with
       |true=>
        refine⟨rfl,.tuple #[zv,.bool false],?_,?_⟩
        ·simp[execOp,hop,hxv,hkv,Instr.lookup,ay hd1,hck,hfk,eU i1 i4]
        ·exact V.of_tup (VL.cons zV (VL.cons (.bool false) .nil))
       |false=>refine⟨rfl,zv,?_,zV⟩;simp[execOp,hop,hxv,hkv,Instr.lookup,ay hd1,hck,hfk,eU i1 i4]
      ·simp at h2
     ·simp at he
    ·simp at he
   ·simp at he
  ·simp at he
 ·simp at he
theorem zr{f:Fn}{first caps:Array Operand}(hop:o.op=.makeFunc f first caps):cv P C o:=by
 refine cv.pure fun F s a Ω eff h he ho=>?_
 cases f with
 |func f=>
  simp only[au,hop]at he;split at he
  ·rename_i hem;simp only[Xs]at he;subst he;have hf0:first=#[]:=by simpa using hem
   subst hf0;refine⟨rfl,.func (.func f) #[] (caps.map a.eval),by simp[execOp,hop,Instr.makeFunc],?_⟩;have:(caps.map a.eval)=(caps.toList.map a.eval).toArray:=by apply Pj;simp
   rw[this];refine V.fn f _ _ (by simp) (fun j c v hc hv=>?_);simp only[OD,Ov]at hc hv;obtain⟨y,hy,rfl⟩:=hc;obtain⟨y',hy',rfl⟩:=hv;rw[hy]at hy';simp at hy';subst hy';exact b9 h y
  ·simp at he
 |_=>simp[au,hop]at he
theorem pB(hT:aR P C.tbl){t:Nat}{x:Operand}(hop:o.op=.makeInterface t x):cv P C o:=by
 refine cv.pure fun F s a Ω eff h he ho=>?_;simp only[au,hop]at he;split at he
 ·rename_i r hr;split at he
  ·cases he
  ·rename_i hti;simp only[Xs]at he;subst he;obtain⟨d,hd1,hd2⟩:=az hT hr rfl;refine⟨rfl,.iface t (a.eval x),?_,.iface t _ _ (b9 h x)⟩;have hn:∀ms,d≠.interface ms:=by intro ms e;subst e;generalize r.ti=ti at hti hd2;cases ti<;>first|exact hti rfl|cases hd2
   simp only[execOp,hop,Instr.makeInterface,Ou,ay hd1,O6];cases d<;>first|exact absurd rfl (hn _)|rfl
 ·simp at he
theorem vb(hT:aR P C.tbl){t t':Nat}{b:Bool}{x:Operand}(hop:o.op=.typeAssert x t' t b):cv P C o:=by
 refine cv.pure fun F s a Ω eff h he ho=>?_
 cases b with
 |false=>simp[au,hop]at he
 |true=>
  simp only[au,hop]at he;split at he
  ·rename_i t1 c r hx0 hr;have hx:=b9 h x;rw[hx0]at hx;split at he
   ·cases he
   ·rename_i hti;split at he
    ·rename_i et;subst et;simp only[Xs]at he;subst he;obtain⟨d,hd1,hd2⟩:=az hT hr rfl;have hn:∀ms,d≠.interface ms:=by intro ms e;subst e;generalize r.ti=ti at hti hd2;cases ti<;>first|exact hti rfl|cases hd2
     generalize hxv:a.eval x=xv at hx
     cases hx with
     |iface _ _ v hv=>
      refine⟨rfl,.tuple #[v,.bool true],?_,?_⟩
      ·simp only[execOp,hop,hxv,Instr.typeAssert,Ou,ay hd1,O6];cases d<;>first|exact absurd rfl (hn _)|simp
      ·exact .tup [c,.bool true] [v,.bool true] rfl (VL.cons hv (VL.cons (.bool true) .nil)).2
    ·cases he
  ·simp at he
theorem Ix{k:IntKind}{m n:Int}{w:World}:(Builtin.min2 (.int k m) (.int k n)).run P w=.ok (.int k (min m n)) w:=by simp only[Builtin.min2,OR];congr 2;split<;>omega
theorem Iy{k:IntKind}{m n:Int}{w:World}:(Builtin.max2 (.int k m) (.int k n)).run P w=.ok (.int k (max m n)) w:=by simp only[Builtin.max2,OR];congr 2;split<;>omega
theorem ME{args:Array Operand}{ts:Array Nat}(hop:o.op=.call {callee:=.builtin .max,args:=args,argTypes:=ts}):cv P C o:=by
 refine cv.pure fun F s a Ω eff h he ho=>?_;simp only[au,hop]at he;split at he
 ·rename_i x y hargs;have ha:args=#[x,y]:=by apply Pj;simpa using hargs
  subst ha;have hx:=b9 h x;have hy:=b9 h y;split at he
  ·rename_i k m k' n hm hn;rw[hm]at hx;rw[hn]at hy;split at he
   ·rename_i hk;subst hk;simp only[Xs]at he;subst he;obtain⟨hx1,hx2,hx3⟩:=hx.int_inv;obtain⟨hy1,hy2,hy3⟩:=hy.int_inv;refine⟨rfl,.int k (max m n),?_,.int k _ (by omega) (by omega)⟩;simp[execOp,hop,resolve,invoke,builtin,hx1,hy1,Builtin.max_,Iy]
   ·cases he
  ·cases he
 ·cases he
theorem MF{args:Array Operand}{ts:Array Nat}(hop:o.op=.call {callee:=.builtin .min,args:=args,argTypes:=ts}):cv P C o:=by
 refine cv.pure fun F s a Ω eff h he ho=>?_;simp only[au,hop]at he;split at he
 ·rename_i x y hargs;have ha:args=#[x,y]:=by apply Pj;simpa using hargs
  subst ha;have hx:=b9 h x;have hy:=b9 h y;split at he
  ·rename_i k m k' n hm hn;rw[hm]at hx;rw[hn]at hy;split at he
   ·rename_i hk;subst hk;simp only[Xs]at he;subst he;obtain⟨hx1,hx2,hx3⟩:=hx.int_inv;obtain⟨hy1,hy2,hy3⟩:=hy.int_inv;refine⟨rfl,.int k (min m n),?_,.int k _ (by omega) (by omega)⟩;simp[execOp,hop,resolve,invoke,builtin,hx1,hy1,Builtin.min_,Ix]
   ·cases he
  ·cases he
 ·cases he
theorem xK{t:Nat}{w:World}:(Instr.makeMap t none).run P w=.ok (.map (some w.heap.size)) (w.alloc (.map #[] 0)):=rfl
theorem xL{t k e:Nat}(hu:P.underlying t=some (.map k e)){i:IntKind}{n:Int}{w:World}:(Instr.makeMap t (some (.int i n))).run P w=.ok (.map (some w.heap.size)) (w.alloc (.map #[] 0)):=by unfold Instr.makeMap;simp only[Ou,ay hu,O6];rfl
theorem CF(hT:aR P C.tbl){t:Nat}{hint:Option Operand}(hop:o.op=.makeMap t hint):cv P C o:=by
 intro F s a Ω eff next Q h hd he ho hn
 simp only[au,hop]at he;split at he
 ·rename_i d k e sz by' z ty hdst hr
  split at he
  ·rename_i _ _ _ _ κ _ _ _ _ τ hrk hre hB;obtain⟨dd,hd1,hd2⟩:=az hT hr rfl;cases dd<;>simp[aD]at hd2
   have hh:Holds F ⟨bz s.T o.dst (.map d),bB s.B [(d,.map κ τ [])]⟩ (a.put o.dst (.map (some Ω.w.heap.size)))
     ⟨fun i=>if d=i then some (.obj Ω.w.heap.size)else Ω.e i,Ω.w.alloc (.map #[] 0),fun b o=>Ω.pub b o∨(b=Ω.w.heap.size/\False)⟩:=by
    refine h.alloc (p:=fun _=>False) (Or.inl (h.dom d hB)) (fun b o hb=>hb) (fun hx=>?_) (fun _ hf=>hf.elim) (fun hx=>?_) hd
    ·refine⟨Ω.w.heap.size,by simp,fun _=>Or.inl h.frame.size,#[],0,bG _ _,⟨rfl,fun i e x he=>by simp at he,by simp,fun i e he=>by simp at he,fun i j e f he=>by simp at he,fun i e he=>by simp at he,rfl⟩⟩
    ·exact .map d _ (by simp)
   split at he
   ·simp only[Xs]at he;subst he;rename_i hh';have hnone:hint=none:=by cases hint with|none=>rfl|some y=>simp at hh'
    subst hnone;exact aq (v:=.map (some Ω.w.heap.size)) (w':=Ω.w.alloc (.map #[] 0)) (by simp[execOp,hop,xK]) (hn _ _ hh)
   ·simp only[Xs]at he;subst he;rename_i kk nn hh'
    cases hint with
    |none=>cases hh'
    |some y=>simp only[Pr,Xs]at hh';have hy:=b9 h y;rw[hh']at hy;exact aq (v:=.map (some Ω.w.heap.size)) (w':=Ω.w.alloc (.map #[] 0)) (by simp[execOp,hop,hy.int_inv.1,xL hd1]) (hn _ _ hh)
   ·cases he
  ·cases he
 ·cases he
theorem zu{es:Array MapEntry}{clock:Nat}(h:∀(i:Nat)(e:MapEntry),es[i]?=some e->e.born=i)(ht:clock=es.size)(x:MapEntry)(hx:x.born=clock) :
  ∀(i:Nat)(e:MapEntry),(es.push x)[i]?=some e->e.born=i:=by
 intro i e hi;rw[PL]at hi;split at hi
 ·rename_i hh;cases hi;rw[hx,ht,hh]
 ·exact h i e hi
theorem j7{es:Array MapEntry}(h:∀(i:Nat)(e:MapEntry),es[i]?=some e->e.born=i)(j:Nat)(f:MapEntry->MapEntry)(hf:∀e,(f e).born=e.born) :
  ∀(i:Nat)(e:MapEntry),(es.modify j f)[i]?=some e->e.born=i:=by
 intro i e hi;rw[Pl]at hi;split at hi
 ·cases hh:es[i]? with
  |none=>rw[hh]at hi;cases hi
  |some x=>rw[hh]at hi;cases hi;rw[hf];exact h i x hh
 ·exact h i e hi
theorem sL(hT:aR P C.tbl){t:Nat}{x k v:Operand}(hop:o.op=.mapUpdate t x k v∨o.op=.insert t x k v){F:Fr}{s:AS}{a:Act}{Ω:Om}{eff:Eff}{next:Act->World->Prop}{Q:Exit->Act->World->Prop}
 (h:Holds F s a Ω)(hd:∀d,o.dst=some d->d<F.n)(he:au C o s.T s.B=some eff)
 (hn:∀a' Ω',Holds F (s.put o.dst eff) a' Ω'->a'=a.put o.dst undef->(∀id,opd s.T x=.map id->∀r,Ω.e id=some (.obj r)->∀b,b≠r->Ω'.w.heap[b]?=Ω.w.heap[b]?)->(∀i,Ω'.e i=Ω.e i)->(∀b o,Ω'.pub b o↔Ω.pub b o)->next a' Ω'.w):o.wp P a Ω.w next Q:=by
 have he:ko C t (opd s.T x) (opd s.T k) (opd s.T v) s.B=some eff:=by rcases hop with hop|hop<;>simpa only[au,hop]using he
 have hex:∀w,(execOp a.eval o).run P w=((Instr.mapUpdate t (a.eval x) (a.eval k) (a.eval v)).run P w).andThen fun _ w'=>.ok .skip w':=by intro w;rcases hop with hop|hop<;>simp[execOp,hop]
 unfold ko at he;have hx:=b9 h x;have hk:=b9 h k;have hv:=b9 h v;split at he
 ·rename_i kt e sz by' z0 ty id hr hxe
  rw[hxe]at hx;split at he
  ·rename_i rk κ τ m hrk hm;split at he
   ·rename_i u hu;split at he
    ·rename_i m' hm';split at he
     ·rename_i hko;simp only[Xs]at he;subst he;obtain⟨d,hd1,hd2⟩:=az hT hr rfl;cases d<;>simp[aD]at hd2;obtain⟨rfl,rfl⟩:=hd2;obtain⟨dk,hk1,hk2⟩:=az hT hrk rfl;have hvu:=EO hv hu;generalize hxv:a.eval x=xv at hx
      cases hx with
      |map _ r her=>
       obtain⟨r',e1,e2,es,clock,e3,e4⟩:=h.slots _ _ hm;rw[her]at e1;simp only[Xs,CObj.obj.injEq]at e1;subst e1
       obtain⟨g,hg⟩:∃g,gg κ τ m (opd s.T k)=some g:=by
        rcases eX hko with⟨_,rfl⟩|⟨i,_,rfl⟩|⟨fs,_,rfl,_⟩
        ·cases hkk:opd s.T k<;>rw[hkk]at hm'<;>simp[gL]at hm';exact⟨_,rfl⟩
        ·cases hkk:opd s.T k<;>rw[hkk]at hm'<;>simp[gL]at hm';exact⟨_,by simp[gg,hm'.1];rfl⟩
        ·simp only[gL]at hm'
         cases ha:arg (.st .nm) (opd s.T k)with
         |none=>rw[ha]at hm';cases hm'
         |some k0=>exact⟨_,by simp only[gg,ha];rfl⟩
       obtain⟨k0,hkv,hkV,hck,hst,hf⟩:=e4.find hT hrk hko hk hg;rw[hkv]at hck hst hf;have hgo:=QE (P:=P) e3
       have fin:∀(es':Array MapEntry)(clock':Nat),MapOK Ω κ τ m' es' clock'->(Instr.mapUpdate t (a.eval x) (a.eval k) (a.eval v)).run P Ω.w=.ok () {Ω.w with heap:=Ω.w.heap.setIfInBounds r (.map es' clock')}->
         o.wp P a Ω.w next Q:=by
        intro es' clock' hmo hrun;have hheap:=MapKept.heap_set (o':=.map es' clock') e3;have hpne:∀b o,Ω.pub b o->b≠r:=by intro b o hp e;subst e;obtain⟨v,hv⟩:=h.pubok b o hp;simp[World.cell?,e3]at hv
        have hxx:Ext Ω ⟨fun i=>if id=i then some (.obj r)else Ω.e i,{Ω.w with heap:=Ω.w.heap.setIfInBounds r (.map es' clock')},Ω.pub⟩:=by
         refine⟨fun i c hc=>?_,fun _ _ p=>p,fun b o hp=>ai (hheap.2 b (hpne b o hp)) o⟩;by_cases hid:id=i
         ·subst hid;rw[her]at hc;simp at hc;subst hc;exact⟨.obj r,by simp,CLe.refl _⟩
         ·exact⟨c,by simp[hid,hc],CLe.refl _⟩
        have hsz:(Ω.w.heap.setIfInBounds r (.map es' clock')).size=Ω.w.heap.size:=by simp
        have hh:=h.slot (k:=id) (c:=.obj r) (obj:=.map κ τ m') (dst:=o.dst) (val:=.undef) (v:=undef) hxx
         ⟨r,by simp,e2,es',clock',hheap.1,hmo.ext hxx⟩
         (fun i c' hi hc=>jV.of_blocks fun b o hb=>⟨hheap.2 b (fun e=>by
          subst e;exact hi (h.inj i id _ _ b o hc her hb rfl)),fun _ p=>p⟩)
         (fun i c' b o hi hc hb hb'=>absurd (h.inj i id _ _ b o hc her hb hb') hi)
         (fun b o hp=>by
          obtain⟨v,hv⟩:=h.pubok b o hp;exact⟨v,by rw[ai (hheap.2 b (hpne b o hp)) o,hv]⟩)
         (by
          have hold:∀b,b<F.w0.heap.size->(¬∀o,F.br b o)->b≠r:=by
           intro b hb hnb e;subst e;refine hnb (fun o=>?_);rcases e2 o with k|k
           ·omega
           ·exact k
          exact⟨h.frame.os,h.frame.tape,h.frame.output,by simpa using h.frame.size,
           fun b hb hnb=>(hheap.2 b (hold b hb (fun k=>hnb 0 (k 0)))).trans (h.frame.block b hb hnb),
           fun b o hb hnb=>(ai (hheap.2 b (hold b hb (fun k=>hnb (k o)))) o).trans (h.frame.cell b o hb hnb),
           fun b hb hnb=>⟨(aT (hheap.2 b (hold b hb hnb))).trans (h.frame.kind b hb hnb).1,fun o=>(aK (hheap.2 b (hold b hb hnb)) o).trans ((h.frame.kind b hb hnb).2 o)⟩,
           h.frame.pub,h.frame.old,fun b o hp=>(hxx.cell b o (h.frame.old b o hp)).trans (h.frame.pcell b o hp)⟩)
         (.undef undef) hd
        exact j0 (w':={Ω.w with heap:=Ω.w.heap.setIfInBounds r (.map es' clock')}) (by rw[hex,hrun];rfl) (hn _ _ hh rfl (fun id' hid' r' hr' b hb=>by
         rw[hxe]at hid';cases hid';rw[her]at hr';cases hr';exact hheap.2 b hb) (fun i=>by
         show(if id=i then some (CObj.obj r)else Ω.e i)=Ω.e i;by_cases hid:id=i
         ·subst hid;simp[her]
         ·simp[hid]) (fun b o=>Iff.rfl))
       rcases hf with⟨h1,h2,h3,h4⟩|⟨j,en,v0,h1,h2,h3,h4,h5,h6⟩
       ·have hfk:=h1;have hmm:m'=m++[(k0,u)]:=by have:=h4.1 u;rw[hm']at this;exact OG this
        subst hmm;refine fin (es.push {key:=jn κ k0,val:=a.eval v,born:=clock}) (clock+1) ⟨by simp[e4.size],fun i en x hen hx=>?_,?_,fun i en hen=>?_,fun i j en en' hen hen' hij=>?_,zu e4.idx e4.top _ rfl,by simp[e4.top]⟩ ?_
        ·rw[PL]at hen;split at hen
         ·rename_i hi;simp at hen;subst hen;rw[Oe (by rw[<-e4.size];omega),hi,e4.size]at hx;simp at hx;subst hx;rw[<-hkv];exact⟨hkV,hvu⟩
         ·have hi:i<es.size:=by
           rcases O5 i es.size with k|k
           ·exact k
           ·rw[OM k]at hen;cases hen
          rw[Ob (by rw[<-e4.size];exact hi)]at hx;exact e4.ent i en x hen hx
        ·rw[Q1];refine RB.2 ⟨e4.keys,by simp,fun y hy z hz=>?_⟩;obtain⟨x,hx,rfl⟩:=OC.1 hy;simp at hz;subst hz;exact h3 x hx
        ·rw[PL]at hen;split at hen
         ·simp at hen;subst hen;simp
         ·have:=e4.born i en hen;omega
        ·rw[PL]at hen hen';split at hen'
         ·rename_i hj;simp at hen';subst hen';split at hen
          ·omega
          ·exact e4.born i en hen
         ·split at hen
          ·rename_i hi
           have:j<es.size:=by
            rcases O5 j es.size with k|k
            ·exact k
            ·rw[OM k]at hen';cases hen'
           omega
          ·exact e4.rise i j en en' hen hen' hij
        ·rw[hxv,hkv];simp[Instr.mapUpdate,ay hd1,hgo,hck,hfk,Qc _ e3]
       ·have hfk:=h1;have hmm:m'=m.set j (k0,u):=by have:=h6.1 u;rw[hm']at this;exact OG this
        subst hmm
        have hjl:j<es.size:=by
         rcases O5 j es.size with k|k
         ·exact k
         ·rw[OM k]at h2;cases h2
        have hkk:((m.set j (k0,u)).map (·.1))=m.map (·.1):=by
         rw[List.map_set];apply Qr;intro i;rw[RD];by_cases hij:j=i
         ·subst hij;simp only[P3,OD,h3,Pr,P1];rw[O3 (by rw[<-e4.size];exact hjl)]
         ·simp[hij]
        refine fin (es.modify j fun e=>{e with key:=jn κ k0,val:=a.eval v}) clock ⟨by simp[e4.size],fun i en' x hen hx=>?_,by rw[hkk];exact e4.keys,fun i en' hen=>?_,fun i i' en1 en2 hen hen' hij=>?_,j7 e4.idx j _ (fun _=>rfl),by simp[e4.top]⟩ ?_
        ·rw[Pl]at hen;rw[RD]at hx;by_cases hij:j=i
         ·subst hij;simp[h2]at hen;simp[<-e4.size,hjl]at hx;subst hen hx;rw[<-hkv];exact⟨hkV,hvu⟩
         ·simp[hij]at hen hx;exact e4.ent i en' x hen hx
        ·rw[Pl]at hen;by_cases hij:j=i
         ·subst hij;simp[h2]at hen;subst hen;exact e4.born j en h2
         ·simp[hij]at hen;exact e4.born i en' hen
        ·have hb:∀(i:Nat)(e1:MapEntry),(es.modify j fun e=>{e with key:=jn κ k0,val:=a.eval v})[i]?=some e1->∃e2,es[i]?=some e2/\e2.born=e1.born:=by
          intro i e1 h1;rw[Pl]at h1;by_cases hij:j=i
          ·subst hij;simp[h2]at h1;subst h1;exact⟨en,h2,rfl⟩
          ·simp[hij]at h1;exact⟨e1,h1,rfl⟩
         obtain⟨f1,g1,g2⟩:=hb i en1 hen;obtain⟨f2,g3,g4⟩:=hb i' en2 hen';rw[<-g2,<-g4];exact e4.rise i i' f1 f2 g1 g3 hij
        ·rw[hxv,hkv];simp[Instr.mapUpdate,ay hd1,hgo,hck,hfk,h2,h5,hst,Qc _ e3]
     ·cases he
    ·cases he
   ·cases he
  ·cases he
 ·cases he
theorem vY(hT:aR P C.tbl){t:Nat}{x k v:Operand}(hop:o.op=.mapUpdate t x k v∨o.op=.insert t x k v):cv P C o:=
 fun _ _ _ _ _ _ _ h hd he _ hn=>sL hT hop h hd he fun a' Ω' hh _ _ _ _=>hn a' Ω' hh
theorem vZ{k:IntKind}{n:Int}{w:World}:(Go.asInt (.int k n)).run P w=.ok n w:=by simp[Go.asInt,asIntOf]
theorem zw{F:Fr}{s:AS}{a:Act}{Ω:Om}(h:Holds F s a Ω){o:Oper}(hd:∀d,o.dst=some d->d<F.n){id r:Nat}{κ τ:Ty}{es es':Array MapEntry}{clock clock':Nat}{m':List (den κ×den τ)}
 (her:Ω.e id=some (.obj r))(e2:∀o,F.own r o)(e3:Ω.w.heap[r]?=some (.map es clock))(hmo:MapOK Ω κ τ m' es' clock'){val:AV}{v:Value}
 (hv:V Ω val v) :
  ∃Ω',Ω'.w={Ω.w with heap:=Ω.w.heap.setIfInBounds r (.map es' clock')}/\Holds F (s.put o.dst ⟨none,val,[(id,.map κ τ m')]⟩) (a.put o.dst v) Ω':=by
 have hheap:=MapKept.heap_set (o':=.map es' clock') e3;have hpne:∀b o,Ω.pub b o->b≠r:=by intro b o hp e;subst e;obtain⟨v,hv⟩:=h.pubok b o hp;simp[World.cell?,e3]at hv
 have hxx:Ext Ω ⟨fun i=>if id=i then some (.obj r)else Ω.e i,{Ω.w with heap:=Ω.w.heap.setIfInBounds r (.map es' clock')},Ω.pub⟩:=by
  refine⟨fun i c hc=>?_,fun _ _ p=>p,fun b o hp=>ai (hheap.2 b (hpne b o hp)) o⟩;by_cases hid:id=i
  ·subst hid;rw[her]at hc;simp at hc;subst hc;exact⟨.obj r,by simp,CLe.refl _⟩
  ·exact⟨c,by simp[hid,hc],CLe.refl _⟩
 have hh:=h.slot (k:=id) (c:=.obj r) (obj:=.map κ τ m') (dst:=o.dst) (val:=val) (v:=v) hxx
  ⟨r,by simp,e2,es',clock',hheap.1,hmo.ext hxx⟩
  (fun i c' hi hc=>jV.of_blocks fun b o hb=>⟨hheap.2 b (fun e=>by
   subst e;exact hi (h.inj i id _ _ b o hc her hb rfl)),fun _ p=>p⟩)
  (fun i c' b o hi hc hb hb'=>absurd (h.inj i id _ _ b o hc her hb hb') hi)
  (fun b o hp=>by
   obtain⟨v,hv⟩:=h.pubok b o hp;exact⟨v,by rw[ai (hheap.2 b (hpne b o hp)) o,hv]⟩)
  (by
   have hold:∀b,b<F.w0.heap.size->(¬∀o,F.br b o)->b≠r:=by
    intro b hb hnb e;subst e;refine hnb (fun o=>?_);rcases e2 o with k|k
    ·omega
    ·exact k
   exact⟨h.frame.os,h.frame.tape,h.frame.output,by simpa using h.frame.size,
    fun b hb hnb=>(hheap.2 b (hold b hb (fun k=>hnb 0 (k 0)))).trans (h.frame.block b hb hnb),
    fun b o hb hnb=>(ai (hheap.2 b (hold b hb (fun k=>hnb (k o)))) o).trans (h.frame.cell b o hb hnb),
    fun b hb hnb=>⟨(aT (hheap.2 b (hold b hb hnb))).trans (h.frame.kind b hb hnb).1,fun o=>(aK (hheap.2 b (hold b hb hnb)) o).trans ((h.frame.kind b hb hnb).2 o)⟩,
    h.frame.pub,h.frame.old,fun b o hp=>(hxx.cell b o (h.frame.old b o hp)).trans (h.frame.pcell b o hp)⟩)
  (hv.ext hxx) hd
 exact⟨_,rfl,hh⟩
theorem zx(hT:aR P C.tbl){t:Nat}{x k:Operand}(hop:o.op=.mapEntry t x k):cv P C o:=by
 intro F s a Ω eff next Q h hd he ho hn
 simp only[au,hop,sb]at he;have hx:=b9 h x;have hk:=b9 h k;split at he
 ·rename_i kt e sz by' z0 ty id hr hxe
  rw[hxe]at hx;split at he
  ·rename_i rk re κ τ m hrk hre hm;split at he
   ·rename_i z g hz hg;split at he
    ·rename_i m' ix hm' hix;split at he
     ·rename_i hc;simp only[NZ,O1]at hc;obtain⟨hko,hty⟩:=hc;simp only[Xs]at he;subst he;have hlen:m.length<=9223372036854775807:=ho;obtain⟨d,hd1,hd2⟩:=az hT hr rfl;cases d<;>simp[aD]at hd2;obtain⟨rfl,rfl⟩:=hd2;generalize hxv:a.eval x=xv at hx
      cases hx with
      |map _ r her=>
       obtain⟨r',e1,e2,es,clock,e3,e4⟩:=h.slots _ _ hm;rw[her]at e1;simp only[Xs,CObj.obj.injEq]at e1;subst e1;obtain⟨k0,hkv,hkV,hck,hst,hf⟩:=e4.find hT hrk hko hk hg;obtain⟨i,zv,i1,i4,zV,_⟩:=sK hT hre hty hz Ω;rw[hkv]at hck hst hf;have hgo:=QE (P:=P) e3;have hii:∀n:Nat,n<=m.length->V Ω (.int .i64 (n:Int)) (goInt (n:Int)):=fun n hn=>.int .i64 _ (by show(-9223372036854775808:Int)<=_;omega) (by show _<=(9223372036854775807:Int);omega)
       have fin:∀(es':Array MapEntry)(clock':Nat)(v:Value),MapOK Ω κ τ m' es' clock'->V Ω (.tup [inj τ (g.getD z),.int .i64 (ix:Int)]) v->
         (Instr.mapEntry t (a.eval x) (a.eval k)).run P Ω.w=.ok v {Ω.w with heap:=Ω.w.heap.setIfInBounds r (.map es' clock')}->o.wp P a Ω.w next Q:=by
        intro es' clock' v hmo hv hrun;obtain⟨Ω',hw,hh⟩:=zw h hd her e2 e3 hmo hv;exact aq (v:=v) (w':={Ω.w with heap:=Ω.w.heap.setIfInBounds r (.map es' clock')}) (by simp[execOp,hop,hrun]) (hw ▸ hn _ _ hh)
       rcases hf with⟨h1,h2,h3,h4,h5⟩|⟨j,en,v0,h1,h2,h3,h4,h5,h6,h7⟩
       ·have hfk:=h1;subst h2;have hmm:m'=m++[(k0,z)]:=by have:=h4 z;simp only[Option.getD_none]at hm';rw[hm']at this;exact OG this
        subst hmm;refine fin (es.push {key:=jn κ k0,val:=zv,born:=clock}) (clock+1) (.tuple #[zv,goInt clock]) ⟨by simp[e4.size],fun i en x hen hx=>?_,?_,fun i en hen=>?_,fun i j en en' hen hen' hij=>?_,zu e4.idx e4.top _ rfl,by simp[e4.top]⟩ ?_ ?_
        ·rw[PL]at hen;split at hen
         ·rename_i hi;simp at hen;subst hen;rw[Oe (by rw[<-e4.size];omega),hi,e4.size]at hx;simp at hx;subst hx;rw[<-hkv];exact⟨hkV,zV⟩
         ·have hi:i<es.size:=by
           rcases O5 i es.size with k|k
           ·exact k
           ·rw[OM k]at hen;cases hen
          rw[Ob (by rw[<-e4.size];exact hi)]at hx;exact e4.ent i en x hen hx
        ·rw[Q1];refine RB.2 ⟨e4.keys,by simp,fun y hy z hz=>?_⟩;obtain⟨x,hx,rfl⟩:=OC.1 hy;simp at hz;subst hz;exact h3 x hx
        ·rw[PL]at hen;split at hen
         ·simp at hen;subst hen;simp
         ·have:=e4.born i en hen;omega
        ·rw[PL]at hen hen';split at hen'
         ·rename_i hj;simp at hen';subst hen';split at hen
          ·omega
          ·exact e4.born i en hen
         ·split at hen
          ·rename_i hi
           have:j<es.size:=by
            rcases O5 j es.size with k|k
            ·exact k
            ·rw[OM k]at hen';cases hen'
           omega
          ·exact e4.rise i j en en' hen hen' hij
        ·have ej:ix=m.length:=OG (hix.symm.trans h5);rw[ej,Option.getD_none];refine V.of_tup (VL.cons zV (VL.cons ?_ .nil));have:=hii m.length (Od _);rw[e4.top,e4.size];exact this
        ·rw[hxv,hkv];simp[Instr.mapEntry,ay hd1,hgo,hck,hfk,eU i1 i4,Qc _ e3]
       ·have hfk:=h1;subst h4;have hmm:m'=m.set j (k0,v0):=by have:=h6 v0;simp only[OX]at hm';rw[hm']at this;exact OG this
        have hme:m'=m:=by
         rw[hmm];apply Qr;intro i;rw[RD];by_cases hij:j=i
         ·subst hij
          have hjl:j<m.length:=by
           rcases O5 j m.length with q|q
           ·exact q
           ·rw[O2 q]at h3;cases h3
          rw[O3 rfl,O3 hjl,h3]
         ·simp[hij]
        subst hme
        have hse:(es.modify j fun e=>{e with key:=jn κ k0})=es:=by
         apply Array.ext_getElem?;intro i;rw[Pl];by_cases hij:j=i
         ·subst hij;simp only[P1,h2,Pr];show some ({en with key:=jn κ k0}:MapEntry)=some en;rw[<-h5]
         ·simp[hij]
        refine fin es clock (.tuple #[en.val,goInt (en.born:Int)]) e4 ?_ ?_
        ·have ej:ix=j:=OG (hix.symm.trans h7);rw[ej,OX];refine V.of_tup (VL.cons (e4.ent j en _ h2 h3).2 (VL.cons ?_ .nil));rw[e4.idx j en h2];refine hii j ?_;rcases O5 j m'.length with q|q
         ·omega
         ·rw[O2 q]at h3;cases h3
        ·rw[hxv,hkv];simp[Instr.mapEntry,ay hd1,hgo,hck,hfk,h2,h5,hst,Qc _ e3,hse]
     ·cases he
    ·cases he
   ·cases he
  ·cases he
 ·cases he
theorem vc{t:Nat}{x s v:Operand}(hop:o.op=.entryStore t x s v):cv P C o:=by
 intro F st a Ω eff next Q h hd he ho hn
 simp only[au,hop,lq]at he;have hx:=b9 h x;have hs:=b9 h s;have hv:=b9 h v;split at he
 ·rename_i id j n hxe hse;rw[hxe]at hx;rw[hse]at hs;split at he
  ·rename_i κ τ m hm;split at he
   ·rename_i u hu;simp only[Xs]at he;subst he;obtain⟨hn0,hnl⟩:0<=n/\n.toNat<m.length:=ho;have hvu:=EO hv hu;generalize hxv:a.eval x=xv at hx
    cases hx with
    |map _ r her=>
     obtain⟨r',e1,e2,es,clock,e3,e4⟩:=h.slots _ _ hm;rw[her]at e1;simp only[Xs,CObj.obj.injEq]at e1;subst e1;have hgo:=QE (P:=P) e3;have hl:n.toNat<es.size:=by rw[e4.size];exact hnl
     have hfi:es.findIdx? (fun e=>(e.born:Int) ==n)=some n.toNat:=by
      rw[Array.findIdx?_eq_some_iff_getElem];refine⟨hl,?_,fun i hi=>?_⟩
      ·rw[e4.idx n.toNat es[n.toNat] (Oz hl)];simp;omega
      ·have hi':i<es.size:=by omega
       rw[e4.idx i es[i] (Oz hi')];simp;omega
     have hmo:MapOK Ω κ τ (iG m n.toNat u) (es.modify n.toNat fun e=>{e with val:=a.eval v}) clock:=by
      refine⟨by simp[iG,e4.size],fun i en x hen hx=>?_,?_,fun i en hen=>?_,fun i j en en' hen hen' hij=>?_,j7 e4.idx _ _ (fun _=>rfl),by simp[e4.top]⟩
      ·rw[Pl]at hen;rw[iG,List.getElem?_modify]at hx;by_cases hij:n.toNat=i
       ·subst hij;simp only[P1]at hen hx;rw[Oz hl]at hen;rw[NY hnl]at hx;cases hen;cases hx;exact⟨(e4.ent _ _ _ (Oz hl) (NY hnl)).1,hvu⟩
       ·simp only[hij,OL]at hen hx;exact e4.ent i en x hen (by revert hx;cases m[i]?<;>exact fun q=>q)
      ·have:(iG m n.toNat u).map (·.1)=m.map (·.1):=by
        apply Qr;intro i;rw[iG,OD,OD,List.getElem?_modify];by_cases hij:n.toNat=i
        ·subst hij;simp only[P1];cases m[n.toNat]?<;>rfl
        ·simp only[hij,OL];cases m[i]?<;>rfl
       rw[this];exact e4.keys
      ·have:=j7 e4.idx n.toNat (fun e=>{e with val:=a.eval v}) (fun _=>rfl) i en hen
       have hi:i<es.size:=by
        rcases O5 i (es.modify n.toNat fun e=>{e with val:=a.eval v}).size with q|q
        ·simpa using q
        ·rw[OM q]at hen;cases hen
       rw[this,e4.top];exact hi
      ·rw[j7 e4.idx n.toNat (fun e=>{e with val:=a.eval v}) (fun _=>rfl) i en hen,j7 e4.idx n.toNat (fun e=>{e with val:=a.eval v}) (fun _=>rfl) j en' hen'];exact hij
     have hsv:a.eval s=.int j n:=hs.int_inv.1;have hrun:(Instr.entryStore t (a.eval x) (a.eval s) (a.eval v)).run P Ω.w=.ok () {Ω.w with heap:=Ω.w.heap.setIfInBounds r (.map (es.modify n.toNat fun e=>{e with val:=a.eval v}) clock)}:=by rw[hxv,hsv];simp[Instr.entryStore,hgo,vZ,hfi,Qc _ e3]
     obtain⟨Ω',hw,hh⟩:=zw h hd her e2 e3 hmo (.undef undef);exact j0 (w':={Ω.w with heap:=Ω.w.heap.setIfInBounds r (.map (es.modify n.toNat fun e=>{e with val:=a.eval v}) clock)}) (by simp[execOp,hop,hrun]) (hw ▸ hn _ _ hh)
   ·cases he
  ·cases he
 ·cases he
theorem lB(τ:Ty):∀(xs:List (den τ))(q:Nat)(c:AV),(flat τ xs)[q]?=some c->∃i x j,xs[i]?=some x/\(cells τ x)[j]?=some c/\q=i *ab τ+j/\j<ab τ
 |[],q,c,h=>by simp[flat]at h
 |x::xs,q,c,h=>by
  simp only[flat,PM]at h;by_cases hq:q<(cells τ x).length
  ·rw[Ob hq]at h;exact⟨0,x,q,rfl,h,by simp,by rw[<-aQ τ x];exact hq⟩
  ·rw[Oe (by omega)]at h;obtain⟨i,y,j,h1,h2,h3,h4⟩:=lB τ xs _ c h;rw[aQ]at h3 hq;exact⟨i+1,y,j,by simpa using h1,h2,by rw[OU];omega,h4⟩
theorem jJ{t e:Nat}{i:TypeInfo}{z:Value}{a b:Int}{w:World}(hu:P.underlying t=some (.slice e))(hi:P.info? e=some i)(hz:i.zero=some z)
 (h0:0<=a)(h1:a<=b)(h2:b *i.bytes<=140737488355328)(hb:0<i.bytes) :
  ∃cs:Array Value,(Instr.makeSlice t (.int .i64 a) (.int .i64 b)).run P w=.ok (.slice (some ⟨w.heap.size,0,none⟩) a.toNat b.toNat) (w.alloc (.cells cs e))/\
   cs.size=b.toNat *i.size/\∀q,q<cs.size->cs[q]?=some (z.cells[q%z.cells.size]!):=by
 have hbb:b<=140737488355328:=by have:b *1<=b *i.bytes:=Int.mul_le_mul_of_nonneg_left (by omega) (by omega);omega
 have w1:IntKind.i64.wrap a=a:=jv _ _ (by simp[IntKind.min,IntKind.signed,IntKind.bits];omega) (by simp[IntKind.max,IntKind.signed,IntKind.bits];omega);have w2:IntKind.i64.wrap b=b:=jv _ _ (by simp[IntKind.min,IntKind.signed,IntKind.bits];omega) (by simp[IntKind.max,IntKind.signed,IntKind.bits];omega);have hmul:(i.bytes:Int) *b=b *i.bytes:=Int.mul_comm _ _;have c1:¬(2 ^ 48<(i.bytes:Int) *b):=by rw[hmul];omega
 have c2:¬(b<0):=by omega
 have c3:¬(a<0):=by omega
 have c4:¬(b<a):=by omega
 have hask:(askRoom (b.toNat *i.bytes)).run P w=.ok () w:=by
  have:¬(140737488355328<b.toNat *i.bytes):=by
   have e:((b.toNat *i.bytes:Nat):Int)=b *i.bytes:=by rw[Int.natCast_mul,Int.toNat_of_nonneg (by omega)]
   omega
  simp[askRoom,roomBytes,this]
 refine⟨(Array.range (b.toNat *i.size)).map fun q=>(if b.toNat *i.size=0 then #[]else z.cells)[q%(if b.toNat *i.size=0 then #[]else z.cells).size]!,?_,by simp,fun q hq=>?_⟩
 ·simp only[Instr.makeSlice,Ou,ay hu,O6,vZ,sy hi,w1,w2];simp only[gt_iff_lt,c1,c2,c3,c4,R0,Bool.or_false,Bool.or_self,P4,OL,hask,O6,Ou,OR,cZ hi];by_cases hn:b.toNat *i.size=0
  ·simp only[hn,P1,OR,O6,newRow,Ou];rfl
  ·simp only[hn,OL,Ou,eU hi hz,OR,O6,newRow];rfl
 ·have hq':q<b.toNat *i.size:=by simpa using hq
  have hn:¬b.toNat *i.size=0:=by omega
  simp[hq',hn]
theorem xM(hT:aR P C.tbl){t:Nat}{x y:Operand}(hop:o.op=.makeSlice t x y):cv P C o:=by
 intro F s a Ω eff next Q h hd he ho hn
 simp only[au,hop]at he;split at he
 ·rename_i d e sz by' z0 ty m n hdst hr hxe hye
  have hx:=b9 h x;have hy:=b9 h y;rw[hxe]at hx;rw[hye]at hy;obtain⟨hx1,_⟩:=hx.int_inv;obtain⟨hy1,_⟩:=hy.int_inv;split at he
  ·rename_i ti size bytes zero τ hre hB;split at he
   ·rename_i z hz;obtain⟨dd,hd1,hd2⟩:=az hT hr rfl;cases dd<;>simp[aD]at hd2;subst hd2;obtain⟨i,zv,i1,i4,zV,zvl⟩:=sK hT hre rfl hz Ω;obtain⟨i',zv',j1,j2,j3,j4,_⟩:=(hT _ _ hre).info;rw[i1]at j1;simp at j1;subst j1;have hw:ab τ=size:=((hT _ _ hre).ty τ rfl).1;have hpos:=(hT _ _ hre).pos rfl;have hbpos:0<i.bytes:=by rw[j3];exact(hT _ _ hre).bps rfl
    have hsz:i.size=ab τ:=by rw[j2,hw]
    have hzs:zv.cells.size=ab τ:=by have:=zvl.1;rw[aQ]at this;simpa using this.symm
    have hmax:0<=n->n *bytes<=140737488355328->n.toNat<=bj:=by intro h0 h1;have:n *1<=n *bytes:=Int.mul_le_mul_of_nonneg_left (by have:=(hT _ _ hre).bps rfl;simp at this;omega) h0;unfold bj;omega
    split at he
    ·rename_i kk;simp only[Xs]at he;subst he;obtain⟨h0,h1⟩:=ho
     have hm0:m=0:=by
      have:opd s.T (.const (.int kk (.ofNat 0)))=.int .i64 m:=hxe;simp only[opd,oh,cm]at this;split at this
      ·simp at this;exact this.2.symm
      ·cases this
     subst hm0;obtain⟨cs,r1,r2,r3⟩:=jJ (P:=P) (w:=Ω.w) hd1 i1 i4 (Int.le_refl 0) h0 (by rw[j3];exact h1) hbpos
     have hh:Holds F ⟨bz s.T o.dst (.lst τ [] (some d)),bB s.B [(d,.tail τ 0)]⟩ (a.put o.dst (.slice (some ⟨Ω.w.heap.size,0,none⟩) 0 n.toNat))
       ⟨fun i=>if d=i then some (.tail 0 (some Ω.w.heap.size) n.toNat)else Ω.e i,Ω.w.alloc (.cells cs e),fun b o=>Ω.pub b o∨(b=Ω.w.heap.size/\False)⟩:=by
      refine h.alloc (p:=fun _=>False) (Or.inl (h.dom d hB)) (fun b o hb=>by simp[occ]at hb;exact hb.symm) (fun hx=>?_) (fun _ hf=>hf.elim) (fun hx=>?_) hd
      ·refine⟨some Ω.w.heap.size,n.toNat,by simp,Of _,hmax h0 h1,by simp,fun b hb=>?_⟩;simp at hb;subst hb;refine⟨fun _=>Or.inl h.frame.size,cs,e,(0,0),bG _ _,rfl,by rw[r2,hsz];exact Od _,fun o _ hp=>?_⟩;rcases hp with hp|⟨_,hp⟩
       ·have:=h.cell_lt hp;omega
       ·exact hp
      ·refine .lst τ [] (some d) _ 0 n.toNat (fun _ _=>undef) (Of _) (hmax h0 h1) ?_ (fun i x hx=>by simp at hx) (fun i x hx=>by simp at hx);intro id hid;simp at hid;subst hid;exact⟨0,some Ω.w.heap.size,n.toNat,by simp,Od _,fun _=>rfl⟩
     exact aq (by simp only[execOp,hop,hx1,hy1,Ou,r1,O6,OR];rfl) (hn _ _ hh)
    ·split at he
     ·simp only[Xs]at he;subst he;obtain⟨h0,h1,h2⟩:=ho;obtain⟨cs,r1,r2,r3⟩:=jJ (P:=P) (w:=Ω.w) hd1 i1 i4 h0 h1 (by rw[j3];exact h2) hbpos;have hmn:m.toNat<=n.toNat:=by omega
      have hmulle:m.toNat *ab τ<=n.toNat *ab τ:=OP _ hmn
      have hh:Holds F ⟨bz s.T o.dst (.arr d m.toNat size),bB s.B [(d,.box (.row τ (List.replicate m.toNat z)))]⟩ (a.put o.dst (.slice (some ⟨Ω.w.heap.size,0,none⟩) m.toNat n.toNat))
        ⟨fun i=>if d=i then some (.box Ω.w.heap.size 0 (m.toNat *ab τ))else Ω.e i,Ω.w.alloc (.cells cs e),fun b o=>Ω.pub b o∨(b=Ω.w.heap.size/\False)⟩:=by
       refine h.alloc (p:=fun _=>False) (Or.inl (h.dom d hB)) (fun b o hb=>hb.1) (fun hx=>?_) (fun _ hf=>hf.elim) (fun hx=>?_) hd
       ·refine⟨Ω.w.heap.size,0,by simp[ae,aY],fun q c hc=>?_⟩;obtain⟨i2,x2,j,q1,q2,q3,q4⟩:=lB τ _ q c hc;have hxz:x2=z:=by have:=Ot q1;exact(QW.1 this).2
        subst hxz
        have hi2:i2<m.toNat:=by
         rcases O5 i2 m.toNat with k|k
         ·exact k
         ·rw[O2 (by simpa using k)]at q1;cases q1
        have hqlt:q<cs.size:=by have:(i2+1) *ab τ<=m.toNat *ab τ:=OP _ hi2;rw[OU]at this;rw[r2,hsz,q3];omega
        have hmod:q%ab τ=j:=by rw[q3,PW,Rl,R8 q4]
        have hcells:(Ω.w.alloc (.cells cs e)).heap[Ω.w.heap.size]?=some (.cells cs e (0,0)):=bG _ _;refine⟨Or.inl h.frame.size,fun hp=>?_,ez hcells _,zv.cells[j]!,?_,?_⟩
        ·rcases hp with hp|⟨_,hp⟩
         ·have:=h.cell_lt hp;omega
         ·exact hp
        ·rw[al hcells,P0,r3 q hqlt,hzs,hmod]
        ·have hj:j<zv.cells.toList.length:=by simp[hzs,q4]
         refine V.ext hx (zvl.2 j c _ q2 ?_);rw[NY hj];simp[hzs,q4]
       ·refine .arr d m.toNat size Ω.w.heap.size (m.toNat *ab τ) n.toNat _ (by simp) (Nat.le_of_eq (PT (m.toNat * ·) hw.symm)) hmn (hmax (by omega) h2) (.inl rfl)
      exact aq (by simp only[execOp,hop,hx1,hy1,Ou,r1,O6,OR]) (hn _ _ hh)
     ·simp only[Xs]at he;subst he;obtain⟨h0,h1,h2⟩:=ho;obtain⟨cs,r1,r2,r3⟩:=jJ (P:=P) (w:=Ω.w) hd1 i1 i4 h0 h1 (by rw[j3];exact h2) hbpos;have hmn:m.toNat<=n.toNat:=by omega
      have hmulle:m.toNat *ab τ<=n.toNat *ab τ:=OP _ hmn;have hcells:(Ω.w.alloc (.cells cs e)).heap[Ω.w.heap.size]?=some (.cells cs e (0,0)):=bG _ _
      have hh:Holds F ⟨bz s.T o.dst (.glst m.toNat (List.replicate m.toNat z).length d),bB s.B [(d,.grow τ m.toNat (List.replicate m.toNat z))]⟩ (a.put o.dst (.slice (some ⟨Ω.w.heap.size,0,none⟩) m.toNat n.toNat))
        ⟨fun i=>if d=i then some (.tail m.toNat (some Ω.w.heap.size) n.toNat)else Ω.e i,Ω.w.alloc (.cells cs e),fun b o=>Ω.pub b o∨(b=Ω.w.heap.size/\False)⟩:=by
       refine h.alloc (p:=fun _=>False) (Or.inl (h.dom d hB)) (fun b o hb=>by simpa[occ]using hb.symm) (fun hx=>?_) (fun _ hf=>hf.elim) (fun hx=>?_) hd
       ·refine⟨some Ω.w.heap.size,n.toNat,by simp,by simpa using hmn,hmax (by omega) h2,by simp,fun b hb=>?_⟩;simp only[Xs]at hb;subst hb;refine⟨fun _=>Or.inl h.frame.size,⟨cs,e,(0,0),hcells,rfl,by rw[r2,hsz];exact Od _⟩,fun o hp=>?_,fun q c hc=>?_⟩
        ·rcases hp with hp|⟨_,hp⟩
         ·have:=h.cell_lt hp;omega
         ·exact hp
        ·obtain⟨i2,x2,j,q1,q2,q3,q4⟩:=lB τ _ q c hc;have hxz:x2=z:=by have:=Ot q1;exact(QW.1 this).2
         subst hxz
         have hi2:i2<m.toNat:=by
          rcases O5 i2 m.toNat with k|k
          ·exact k
          ·rw[O2 (by simpa using k)]at q1;cases q1
         have hqlt:q<cs.size:=by have:(i2+1) *ab τ<=m.toNat *ab τ:=OP _ hi2;rw[OU]at this;rw[r2,hsz,q3];omega
         have hmod:q%ab τ=j:=by rw[q3,PW,Rl,R8 q4]
         refine⟨zv.cells[j]!,?_,?_⟩
         ·rw[al hcells,r3 q hqlt,hzs,hmod]
         ·have hj:j<zv.cells.toList.length:=by simp[hzs,q4]
          refine V.ext hx (zvl.2 j c _ q2 ?_);rw[NY hj];simp[hzs,q4]
       ·have:=V.glst (Ω:=⟨fun i=>if d=i then some (.tail m.toNat (some Ω.w.heap.size) n.toNat)else Ω.e i,Ω.w.alloc (.cells cs e),fun b o=>Ω.pub b o∨(b=Ω.w.heap.size/\False)⟩) m.toNat m.toNat d n.toNat (some ⟨Ω.w.heap.size,0,none⟩) hmn (hmax (by omega) h2) (.inl ⟨_,rfl⟩) ⟨m.toNat,some Ω.w.heap.size,_,by simp,Od _,fun _=>⟨rfl,rfl⟩⟩;simpa using this
      exact aq (by simp only[execOp,hop,hx1,hy1,Ou,r1,O6,OR]) (hn _ _ hh)
   ·cases he
  ·cases he
 ·cases he
theorem Iz(hT:aR P C.tbl){args:Array Operand}{ts:Array Nat}(hop:o.op=.call {callee:=.builtin .clear,args:=args,argTypes:=ts}):cv P C o:=by
 intro F s a Ω eff next Q h hd he ho hn
 simp only[au,hop]at he;split at he
 ·rename_i x t hargs hts;have ha:args=#[x]:=by apply Pj;simpa using hargs
  have ht:ts=#[t]:=by apply Pj;simpa using hts
  subst ha ht;have hx:=b9 h x;split at he
  ·rename_i k s1 i w m hopx;rw[hopx]at hx;unfold Cj at he;split at he
   ·rename_i e sz by' z0 ty0 τ s2 xs hr hB
    split at he
    ·rename_i re hre;split at he
     ·rename_i z hz;split at he
      ·rename_i hw;obtain⟨hty,rfl⟩:=hw;simp only[Xs]at he;subst he;obtain⟨hs,hm,hm0⟩:s1=s2/\i+m=xs.length/\0<m:=ho;obtain⟨g,c,hxv,hxb⟩:=hx.gsuf_inv;obtain⟨dd,hd1,hd2⟩:=az hT hr rfl;cases dd<;>simp[aD]at hd2;subst hd2;obtain⟨cap,e1,e2,e3,hown,⟨cur,ty,fz,hg,hfz,hfit⟩,hpub,hcell⟩:=(h.slots k _ hB).grow_at hxb hs;obtain⟨ii,zv,i1,i4,zV,zvl⟩:=sK hT hre hty hz Ω;have hzs:zv.cells.size=ab τ:=by have:=zvl.1;rw[aQ]at this;simpa using this.symm
       have hone:=zvl.leaf_one (kr τ z);obtain⟨vs,hvs⟩:∃vs,vs=(Builtin.zeroCells zv.cells m).toList:=⟨_,rfl⟩;have hvl:vs.length=m *ab τ:=by rw[hvs];simp[Builtin.zeroCells,hzs]
       have hvg:∀q,q<vs.length->vs[q]?=some (zv.cells[q%ab τ]!):=by intro q hq;rw[hvl]at hq;rw[hvs,Oh];simp[Builtin.zeroCells,hzs,hq]
       have hv1:∀v∈vs,v.oneCell'=true:=by
        intro v hv;obtain⟨q,hq,rfl⟩:=PZ hv;have h1:=hvg q hq;rw[NY hq]at h1;simp only[Xs]at h1;rw[h1]
        have hpos:0<ab τ:=by
         rcases Qg (ab τ)with z0|z0
         ·rw[hvl,z0]at hq;simp at hq
         ·exact z0
        have hlt:q%ab τ<zv.cells.size:=by rw[hzs];exact RO _ hpos
        refine hone _ ?_;rw[PX zv.cells _ hlt];simp
       have hmul:(i+m) *ab τ<=cap *ab τ:=OP _ (by omega);have hadd:(i+m) *ab τ=i *ab τ+m *ab τ:=OU _ _ _;have hrun:=QD P g (i *ab τ) ty fz vs 0 cur Ω.w hg (by omega) (by omega) hv1;simp only[PR]at hrun
       have hh:=h.setGrow (dst:=o.dst) (val:=.tup []) (v:=.tuple #[]) (zs:=xs.take i++List.replicate m z) (arr:=(cur.toList.take (i *ab τ)++vs++cur.toList.drop (i *ab τ+vs.length)).toArray)
        e1 (Od _) hown hg hfz hfit hpub (by simp;omega) e3 (by simp;omega) (fun j c hc=>by
         have hft:flat τ (xs.take i++List.replicate m z)=flat τ (xs.take i)++flat τ (List.replicate m z):=cJ _ _ _;have hfl:(flat τ (xs.take i)).length=i *ab τ:=by rw[aY,Pt,Nat.min_eq_left (by omega)]
         have hct:(cur.toList.take (i *ab τ)).length=i *ab τ:=by simp;omega
         rw[hft]at hc;simp only[Pk];rw[OE];rcases O5 j (i *ab τ)with k1|k1
         ·rw[Ob (by omega)]at hc;rw[Ob (by omega),Oy,O3 k1];obtain⟨v,v1,v2⟩:=hcell j c (vU hc);rw[al hg]at v1;exact⟨v,by rw[Oh];exact v1,v2⟩
         ·rw[Oe (by omega),hfl]at hc;rw[Oe (by omega),hct];obtain⟨i2,x2,j2,q1,q2,q3,q4⟩:=lB τ _ _ c hc;have hxz:x2=z:=(QW.1 (Ot q1)).2;subst hxz
          have hi2:i2<m:=by
           rcases O5 i2 m with q|q
           ·exact q
           ·rw[O2 (by simpa using q)]at q1;cases q1
          have hqlt:j-i *ab τ<vs.length:=by have:(i2+1) *ab τ<=m *ab τ:=OP _ hi2;rw[OU]at this;omega
          have hmod:(j-i *ab τ)%ab τ=j2:=by rw[q3,PW,Rl,R8 q4]
          rw[Ob hqlt];refine⟨zv.cells[j2]!,by rw[hvg _ hqlt,hmod],?_⟩;refine zvl.2 j2 c _ q2 ?_;have hj:j2<zv.cells.toList.length:=by simp[hzs,q4]
          rw[NY hj];simp[hzs,q4]) (fun Ω' _ _=>.tup [] [] rfl (fun j c v hc=>by simp at hc)) hd
       refine aq (v:=.tuple #[]) (w':=Ω.w.setRow g (cur.toList.take (i *ab τ)++vs++cur.toList.drop (i *ab τ+vs.length)).toArray) ?_ (hn _ _ hh);obtain⟨m',rfl⟩:∃m',m=m'+1:=⟨m-1,by omega⟩;simp[execOp,hop,resolve,invoke,builtin,hxv,Builtin.clear_,ay hd1,eU i1 i4,<-hvs,hrun]
      ·cases he
     ·cases he
    ·cases he
   ·cases he
  ·cases he
 ·cases he
theorem gP{w:World}:∀(xs:List Int)(b:List UInt8),xs.foldl (fun(r:ByteArray) n=>r.push (UInt8.ofNat n.toNat)) ⟨b.toArray⟩=⟨(b++km xs).toArray⟩
 |[],b=>by simp[km]
 |n::r,b=>by
  rw[QV];have e:(⟨b.toArray⟩:ByteArray).push (UInt8.ofNat n.toNat)=⟨(b++[UInt8.ofNat n.toNat]).toArray⟩:=by simp[ByteArray.push]
  rw[e,gP (w:=w) r];simp[km]
theorem Holds.row{F:Fr}{s:AS}{a:Act}{Ω:Om}{w':World}{p:Nat->Prop}{dst:Option Nat}{val:AV}{v:Value}
 (h:Holds F s a Ω)(os:w'.os=Ω.w.os)(tape:w'.tape=Ω.w.tape)(output:w'.output=Ω.w.output)(size:Ω.w.heap.size<=w'.heap.size)(old:∀b,b<Ω.w.heap.size->w'.heap[b]?=Ω.w.heap[b]?)
 (hcell:∀o,p o->∃v,w'.cell? ⟨Ω.w.heap.size,o,none⟩=some v)
 (hv:Ext Ω ⟨Ω.e,w',fun b o=>Ω.pub b o∨(b=Ω.w.heap.size/\p o)⟩->V ⟨Ω.e,w',fun b o=>Ω.pub b o∨(b=Ω.w.heap.size/\p o)⟩ val v)(hd:∀d,dst=some d->d<F.n) :
  Holds F ⟨bz s.T dst val,s.B⟩ (a.put dst v) ⟨Ω.e,w',fun b o=>Ω.pub b o∨(b=Ω.w.heap.size/\p o)⟩:=by
 have hx:Ext Ω ⟨Ω.e,w',fun b o=>Ω.pub b o∨(b=Ω.w.heap.size/\p o)⟩:=⟨fun _ c hc=>⟨c,hc,CLe.refl c⟩,fun _ _ p=>.inl p,fun b o hp=>ai (old b (h.cell_lt hp)) o⟩;refine h.step hx (hv hx) hd (fun id o ho=>(h.slots id o ho).keep hx rfl (fun c hc=>jV.of_blocks fun b o hb=>?_)) h.dom h.inj (fun b o hp=>?_) ?_
 ·have hlt:=h.blk hc hb;exact⟨old b hlt,fun o ho=>ho.resolve_right (fun e=>by omega)⟩
 ·rcases hp with hp|⟨rfl,hp⟩
  ·obtain⟨v,hv⟩:=h.pubok b o hp;exact⟨v,by rw[ai (old b (h.cell_lt hp)),hv]⟩
  ·exact hcell o hp
 ·have hsz:=h.frame.size;refine⟨os.trans h.frame.os,tape.trans h.frame.tape,output.trans h.frame.output,OT hsz size,fun b hb hnb=>(old b (by omega)).trans (h.frame.block b hb hnb),fun b o hb hnb=>(ai (old b (by omega)) o).trans (h.frame.cell b o hb hnb),fun b hb=>?_,fun b o hp=>?_,fun b o hp=>Or.inl (h.frame.old b o hp),fun b o hp=>(hx.cell b o (h.frame.old b o hp)).trans (h.frame.pcell b o hp)⟩
  ·intro hnb;obtain⟨k1,k2⟩:=h.frame.kind b hb hnb;exact⟨(aT (old b (by omega))).trans k1,fun o=>(aK (old b (by omega)) o).trans (k2 o)⟩
  ·rcases hp with hp|⟨rfl,hp⟩
   ·exact h.frame.pub b o hp
   ·exact Or.inr (Or.inl h.frame.size)
theorem CG(hT:aR P C.tbl){t t':Nat}{x:Operand}(hop:o.op=.convert t t' x):cv P C o:=by
 intro F s a Ω eff next Q h hd he ho hn
 simp only[au,hop]at he;have hx:=b9 h x;split at he
 ·rename_i r k sz by' z ty k' n h1 h2 hn'
  rw[hn']at hx;obtain⟨d,hd1,hd2⟩:=az hT h2 rfl;cases d<;>simp[aD]at hd2;subst hd2;obtain⟨d',hd3,hd4⟩:=(hT _ _ h1).desc;split at he
  ·simp only[Xs]at he;subst he;refine aq (v:=.int k (k.wrap n)) ?_ (hn _ _ (h.pure (.int k _ (bS k n).1 (bS k n).2) hd));simp[execOp,hop,hx.int_inv.1,convert,ay hd1,ay hd3,Conv.intToInt]
  simp only[Xs]at he;subst he;obtain⟨h3,h4⟩:=ho;refine aq (v:=.int k n) ?_ (hn _ _ (h.pure (.int k _ h3 h4) hd));simp[execOp,hop,hx.int_inv.1,convert,ay hd1,ay hd3,Conv.intToInt,jv k _ h3 h4]
 ·rename_i e sz by' z ty sz2 by2 z2 ty2 s1 n k h1 h2 hn'
  rw[hn']at hx;unfold I3 at he;split at he
  ·rename_i sz3 by3 z3 t' xs h3 hB;simp only[Xs]at he;subst he;obtain⟨d,hd1,hd2⟩:=az hT h1 rfl;cases d<;>simp[aD]at hd2;subst hd2;obtain⟨d',hd3,hd4⟩:=az hT h2 rfl;cases d'<;>simp[aD]at hd4;obtain⟨d2,hd5,hd6⟩:=az hT h3 rfl;cases d2<;>simp[aD]at hd6;subst hd6;obtain⟨rfl,rfl⟩:=ho;obtain⟨base,cap,q1,q2,q3,q4,q5⟩:=h.slots k _ hB;obtain⟨cap0,a0,hxv,hc1,hc2,hc3,m0,qW,c0,r1,r2,r3⟩:=hx.glst_inv;rw[q1]at r1;simp only[Xs,CObj.tail.injEq]at r1;obtain⟨rfl,rfl,rfl⟩:=r1;obtain⟨rfl,rfl⟩:=r3 rfl
   have hval:V Ω (.str (nw xs)) (.string ⟨(nw xs).toArray⟩):=.str _ (by
    have:(nw xs).length=xs.length:=by simp[nw]
    omega)
   refine aq (v:=.string ⟨(nw xs).toArray⟩) ?_ (hn _ _ (h.pure hval hd))
   cases base with
   |none=>have hx0:xs=[]:=Oc (by have:=q4 rfl;omega);simp only[execOp,hop,hxv,Ou,run_convert_bytes_string Ω.w t _ e _ _ _ hd1 hd5 hd3];rw[hx0];simp[Conv.bytesToString,nw,OR,dC];rfl
   |some g=>
    obtain⟨p1,⟨cur,bt,fz,p2,pf,p3⟩,p4,p5⟩:=q5 g rfl;have e1:flat (.int .u8) xs=xs.map (AV.int .u8):=by unfold flat;rw[QS];rfl
    have hld:(loadCells ⟨g,0,none⟩ xs.length).run P Ω.w=.ok (xs.map (Value.int .u8)).toArray Ω.w:=by
     have:=Rv (P:=P) Ω.w ⟨g,0,none⟩ (xs.map (Value.int .u8)) (fun j u hj=>by
      rw[OD]at hj
      cases hq:xs[j]? with
      |none=>rw[hq]at hj;cases hj
      |some z=>
       rw[hq]at hj;cases hj;obtain⟨v,v1,v2⟩:=p5 j (.int .u8 z) (by rw[e1,OD,hq];rfl);rw[gO,P0,v1,v2.int_inv.1])
     simpa using this
    have hr:=run_bytesToString (P:=P) Ω.w ⟨g,0,none⟩ xs.length cap0 xs hld;have e0:=gP (w:=Ω.w) xs [];simp only[Pn]at e0;have e2:(ByteArray.empty:ByteArray)=⟨([]:List UInt8).toArray⟩:=rfl;rw[e2,e0]at hr;simp only[execOp,hop,hxv,dC,Ou,run_convert_bytes_string Ω.w t _ e _ _ _ hd1 hd5 hd3,hr,O6,OR];rfl
  ·cases he
 ·rename_i r sz by' z ty s' h1 h2 hn'
  rw[hn']at hx;simp only[Xs]at he;subst he;obtain⟨d,hd1,hd2⟩:=az hT h2 rfl;cases d<;>simp[aD]at hd2;obtain⟨d',hd3,hd4⟩:=(hT _ _ h1).desc;refine aq ?_ (hn _ _ (h.pure hx hd));simp[execOp,hop,hx.str_inv.1,convert,ay hd1,ay hd3]
 ·unfold Mi at he;split at he
  ·rename_i e sz1 by1 z1 ty1 sz2 by2 z2 ty2 xs o' h1 h2 hn';rw[hn']at hx;split at he
   ·rename_i sz3 by3 z3 h3;simp only[Xs]at he;subst he;obtain⟨d,hd1,hd2⟩:=az hT h1 rfl;cases d<;>simp[aD]at hd2;subst hd2;obtain⟨d',hd3,hd4⟩:=az hT h2 rfl;cases d'<;>simp[aD]at hd4;obtain⟨d2,hd5,hd6⟩:=az hT h3 rfl;cases d2<;>simp[aD]at hd6;subst hd6
    have hlen:xs.length<=bj:=by
     rcases hx.lst_inv with⟨h1,hv,_⟩|⟨h1,_,a0,hv⟩|⟨b,off,cap,vals,hv,h1,h2,h3,h4,h5⟩
     ·rw[h1];exact Of _
     ·rw[h1];exact Of _
     ·omega
    have hval:V Ω (.str (km xs)) (.string ⟨(km xs).toArray⟩):=.str _ (by simpa[km]using hlen);refine aq (v:=.string ⟨(km xs).toArray⟩) ?_ (hn _ _ (h.pure hval hd));rcases hx.src with⟨hxv,hx0⟩|⟨ya,yc,us,hxv,hxl,hxvl,hxc,hx1⟩
    ·simp only[execOp,hop,hxv,Ou,run_convert_bytes_string Ω.w t t' e _ _ _ hd1 hd5 hd3];rw[hx0];simp[Conv.bytesToString,km,OR];rfl
    ·have hus:us=xs.map (Value.int .u8):=by
      have e1:flat (.int .u8) xs=xs.map (AV.int .u8):=by unfold flat;rw[QS];rfl
      rw[e1]at hxvl;obtain⟨l1,l2⟩:=hxvl;refine Qr fun j=>?_;rcases O5 j xs.length with hj|hj
      ·have hj':j<us.length:=by rw[<-l1];simpa using hj
       have:=l2 j (.int .u8 xs[j]) us[j] (by simp[hj]) (by simp[hj']);rw[NY hj',this.int_inv.1];simp[hj]
      ·rw[O2 (by rw[<-l1];simpa using hj),O2 (by simpa using hj)]
     have hld:(loadCells ya xs.length).run P Ω.w=.ok (xs.map (Value.int .u8)).toArray Ω.w:=by have:=Rv (P:=P) Ω.w ya us hxc;rw[hus]at this;simpa using this
     have hr:=run_bytesToString (P:=P) Ω.w ya xs.length yc xs hld;have e0:=gP (w:=Ω.w) xs [];simp only[Pn]at e0;have e2:(ByteArray.empty:ByteArray)=⟨([]:List UInt8).toArray⟩:=rfl;rw[e2,e0]at hr;simp only[execOp,hop,hxv,Ou,run_convert_bytes_string Ω.w t t' e _ _ _ hd1 hd5 hd3,hr,O6,OR]
   ·cases he
  ·rename_i sz1 by1 z1 ty1 e sz2 by2 z2 ty2 s' h1 h2 hn';rw[hn']at hx;split at he
   ·rename_i sz3 by3 z3 h3;simp only[Xs]at he;subst he;obtain⟨d,hd1,hd2⟩:=az hT h1 rfl;cases d<;>simp[aD]at hd2;obtain⟨d',hd3,hd4⟩:=az hT h2 rfl;cases d'<;>simp[aD]at hd4;subst hd4;obtain⟨d2,hd5,hd6⟩:=az hT h3 rfl;cases d2<;>simp[aD]at hd6;subst hd6;obtain⟨hxv,hlen⟩:=hx.str_inv;have hr:=Lib.run_convert_string_bytes (P:=P) Ω.w t t' e ⟨s'.toArray⟩ hd1 hd3 hd5;have hcap:=fE Ω.w (⟨s'.toArray⟩:ByteArray).size 0 e (by simpa[ByteArray.size]using hlen);have hsz:(⟨s'.toArray⟩:ByteArray).size=s'.length:=by simp[ByteArray.size]
    have hcellat:∀j,j<s'.length->(Lib.bytesWorld Ω.w e ⟨s'.toArray⟩).cell? ⟨Ω.w.heap.size,j,none⟩=some (.int .u8 (s'.getD j 0).toNat):=by intro j hj;have:=Lib.bytesWorld_cell Ω.w e ⟨s'.toArray⟩ j (by rw[hsz];exact hj);simpa using this
    have hh:=h.row (w':=Lib.bytesWorld Ω.w e ⟨s'.toArray⟩) (p:=fun o=>o<s'.length) (dst:=o.dst) (val:=.lst (.int .u8) (db s') none) (v:=.slice (some ⟨Ω.w.heap.size,0,none⟩) s'.length (grownCap Ω.w s'.length 0 e))
     rfl rfl rfl (by rw[Lib.bytesWorld_size];omega) (fun b hb=>Lib.bytesWorld_at_old Ω.w e _ b hb) (fun o ho=>⟨_,hcellat o ho⟩) (fun hx=>by
      have hb1:(db s').length=s'.length:=by simp[db]
      have:=sG (Ω:=⟨Ω.e,Lib.bytesWorld Ω.w e ⟨s'.toArray⟩,fun b o=>Ω.pub b o∨(b=Ω.w.heap.size/\o<s'.length)⟩) (τ:=.int .u8) (xs:=db s') (o:=none) (cap:=grownCap Ω.w s'.length 0 e) (vs:=s'.map fun b=>Value.int .u8 b.toNat)
       (Lib.bytesWorld_at_new Ω.w e ⟨s'.toArray⟩)
       (by
        have e1:(db s').length *ab (.int .u8)=s'.length:=by rw[hb1];exact RE _
        rw[e1];unfold Lib.bytesCells;simp)
       (EP _ s') (by rw[hb1];rw[hsz]at hcap;exact hcap.1) (by rw[hsz]at hcap;exact hcap.2) (fun i hi=>Or.inr ⟨rfl,by rw[hb1]at hi;simpa[ab]using hi⟩) (fun id hid=>by cases hid)
      rw[hb1]at this;exact this) hd
    refine aq (v:=.slice (some ⟨Ω.w.heap.size,0,none⟩) s'.length (grownCap Ω.w s'.length 0 e)) (w':=Lib.bytesWorld Ω.w e ⟨s'.toArray⟩) ?_ (hn _ _ hh);rw[hsz]at hr;simp only[execOp,hop,hxv,Ou,hr,O6,OR]
   ·cases he
  ·cases he
end
end Go.AL
end
noncomputable section
namespace Go.AL
variable [Tabs]
section
variable {fp:Nat->Nat->Option (Nat×Nat)} {fi ft:Nat->Option Nat}
theorem kE:∀{cs ds:List AV},mapVs fp fi ft cs=some ds->cs.length=ds.length/\∀(j:Nat)(c d:AV),cs[j]?=some c->ds[j]?=some d->mapV fp fi ft c=some d
 |[],ds,h=>by simp[mapVs]at h;subst h;exact⟨rfl,fun j c d hc=>by simp at hc⟩
 |a::r,ds,h=>by
  simp only[mapVs]at h;split at h
  ·rename_i a' r' ha hr;simp at h;subst h;obtain⟨h1,h2⟩:=kE hr;refine⟨by simp[h1],fun j c d hc hd=>?_⟩
   cases j with|zero=>simp at hc hd;subst hc hd;exact ha|succ j=>exact h2 j c d (by simpa using hc) (by simpa using hd)
  ·cases h
theorem gQ(τ:Ty)(x:den τ):∀c∈cells τ x,mapV fp fi ft c=some c:=by
 cases τ with
 |st n=>cases n<;>simp[cells,de,dN,dW,eI,eJ,fh,cG,eL,hZ,fJ,fK,fL,ib,ic,fY,fM,jq,eM,ie,fZ,ig,ij,fN,dF,fO,eP,ik,il,mapV]
 |_=>simp[cells,mapV]
theorem FR(τ:Ty)(xs:List (den τ)):∀c∈flat τ xs,mapV fp fi ft c=some c:=by intro c hc;simp only[flat,Pp]at hc;obtain⟨x,_,hx⟩:=hc;exact gQ τ x c hx
theorem j8{c c':AV}(h:mapV fp fi ft c=some c'):(ae c).length=(ae c').length/\
  ∀(j:Nat)(a b:AV),(ae c)[j]?=some a->(ae c')[j]?=some b->mapV fp fi ft a=some b:=by
 have one:∀{a b:AV},ae a=[a]->ae b=[b]->mapV fp fi ft a=some b->(ae a).length=(ae b).length/\
   ∀(j:Nat)(x y:AV),(ae a)[j]?=some x->(ae b)[j]?=some y->mapV fp fi ft x=some y:=by
  intro a b ha hb h;rw[ha,hb];refine⟨rfl,fun j x y hx hy=>?_⟩
  cases j with|zero=>simp at hx hy;subst hx hy;exact h|succ j=>simp at hx
 cases c with
 |agg cs=>
  simp only[mapV]at h;split at h
  ·rename_i ds hds;simp at h;subst h;exact kE hds
  ·cases h
 |st n x=>simp only[mapV,Xs]at h;subst h;exact⟨rfl,fun j a b ha hb=>by rw[ha]at hb;simp at hb;subst hb;exact gQ (.st n) x a (Ot ha)⟩
 |row τ xs=>simp only[mapV,Xs]at h;subst h;exact⟨rfl,fun j a b ha hb=>by rw[ha]at hb;simp at hb;subst hb;exact FR τ xs a (Ot ha)⟩
 |ptr i o=>
  have h0:=h;simp only[mapV]at h;split at h
  ·simp at h;subst h;exact one rfl rfl h0
  ·cases h
 |lst τ xs o=>
  have h0:=h;simp only[mapV]at h;split at h
  ·simp at h;subst h;exact one rfl rfl h0
  ·simp at h;subst h;exact one rfl rfl h0
 |cptr c=>
  have h0:=h;simp only[mapV]at h;split at h
  ·simp at h;subst h;exact one rfl rfl h0
  ·cases h
 |tup cs=>
  have h0:=h;simp only[mapV]at h;split at h
  ·simp at h;subst h;exact one rfl rfl h0
  ·cases h
 |fn f cs=>
  have h0:=h;simp only[mapV]at h;split at h
  ·simp at h;subst h;exact one rfl rfl h0
  ·cases h
 |arr i n w=>
  have h0:=h;simp only[mapV]at h;split at h
  ·simp at h;subst h;exact one rfl rfl h0
  ·cases h
 |aptr i n w o=>
  have h0:=h;simp only[mapV]at h;split at h
  ·simp at h;subst h;exact one rfl rfl h0
  ·cases h
 |map i=>
  have h0:=h;simp only[mapV]at h;split at h
  ·simp at h;subst h;exact one rfl rfl h0
  ·cases h
 |bptr i=>
  have h0:=h;simp only[mapV]at h;split at h
  ·simp at h;subst h;exact one rfl rfl h0
  ·cases h
 |glst s n k=>
  have h0:=h;simp only[mapV]at h;split at h
  ·simp at h;subst h;exact one rfl rfl h0
  ·cases h
 |gsuf k s i w m=>
  have h0:=h;simp only[mapV]at h;split at h
  ·simp at h;subst h;exact one rfl rfl h0
  ·cases h
 |gptr k s i w o=>
  have h0:=h;simp only[mapV]at h;split at h
  ·simp at h;subst h;exact one rfl rfl h0
  ·cases h
 |iface t a=>
  have h0:=h;simp only[mapV]at h;split at h
  ·simp at h;subst h;exact one rfl rfl h0
  ·cases h
 |lstp τ xs k=>simp[mapV]at h
 |tptr τ n k=>simp[mapV]at h
 |_=>simp only[mapV,Xs]at h;subst h;exact one rfl rfl (by simp[mapV])
structure Names(fp:Nat->Nat->Option (Nat×Nat))(fi ft:Nat->Option Nat)(e e':Nat->Option CObj):Prop where
 p:∀i o i' o',fp i o=some (i',o')->∀b p l,e i=some (.box b p l)->∃p' l',e' i'=some (.box b p' l')/\p+o=p'+o'
 i:∀i i',fi i=some i'->∀c,e i=some c->e' i'=some c
 t:∀i i',ft i=some i'->∀c,e i=some c->e' i'=some c
theorem V.mapV{Ω:Om}{e':Nat->Option CObj}(hn:Names fp fi ft Ω.e e'){a:AV}{v:Value}(h:V Ω a v):∀{a':AV},AL.mapV fp fi ft a=some a'->V ⟨e',Ω.w,Ω.pub⟩ a' v:=by
 have tok:∀{o:Option Nat} {n:Nat} {v:Value},iu Ω o n v->iu ⟨e',Ω.w,Ω.pub⟩ (o.bind ft) n v:=by
  intro o n v ht id hid
  cases o with
  |none=>simp at hid
  |some k=>obtain⟨m,base,cap,h1,h2,h3⟩:=ht k rfl;exact⟨m,base,cap,hn.t k id hid _ h1,h2,h3⟩
 have many:∀{cs ds:List AV} {vs:List Value},cs.length=vs.length->(∀(j:Nat)(c:AV)(v:Value),cs[j]?=some c->vs[j]?=some v->∀{a':AV},AL.mapV fp fi ft c=some a'->V ⟨e',Ω.w,Ω.pub⟩ a' v)->
   mapVs fp fi ft cs=some ds->ds.length=vs.length/\∀(j:Nat)(c:AV)(v:Value),ds[j]?=some c->vs[j]?=some v->V ⟨e',Ω.w,Ω.pub⟩ c v:=by
  intro cs ds vs hl ih hm;obtain⟨m1,m2⟩:=kE hm;refine⟨by omega,fun j d v hd hv=>?_⟩
  have hj:j<cs.length:=by
   rw[m1];rcases O5 j ds.length with k|k
   ·exact k
   ·rw[O2 k]at hd;cases hd
  exact ih j _ v (NY hj) hv (m2 j _ d (NY hj) hd)
 induction h with
 |undef v=>intro a' h;simp[AL.mapV]at h;subst h;exact .undef v
 |int k n h1 h2=>intro a' h;simp[AL.mapV]at h;subst h;exact .int k n h1 h2
 |bool b=>intro a' h;simp[AL.mapV]at h;subst h;exact .bool b
 |str s h1=>intro a' h;simp[AL.mapV]at h;subst h;exact .str s h1
 |lstNil τ o ht=>
  intro a' h
  cases o with|none=>simp[AL.mapV]at h;subst h;exact .lstNil τ none (fun id hid=>by simp at hid)|some k=>simp[AL.mapV]at h;subst h;exact .lstNil τ _ (tok ht)
 |lstVoid τ a=>intro a' h;simp[AL.mapV]at h;subst h;exact .lstVoid τ a
 |lst τ xs o b off cap vals h1 h2 h3 h4 h5 ih=>
  intro a' h
  have hc:∀(i:Nat)(x:den τ),xs[i]?=some x->∀(j:Nat)(c:AV),(cells τ x)[j]?=some c->V ⟨e',Ω.w,Ω.pub⟩ c (vals i j):=
   fun i x hx j c hcj=>ih i x hx j c hcj (gQ τ x c (Ot hcj))
  cases o with|none=>simp[AL.mapV]at h;subst h;exact .lst τ xs none b off cap vals h1 h2 (fun id hid=>by simp at hid) h4 hc|some k=>simp[AL.mapV]at h;subst h;exact .lst τ xs _ b off cap vals h1 h2 (tok h3) h4 hc
 |nils=>intro a' h;simp[AL.mapV]at h;subst h;exact .nils
 |ptr id off b o len he=>
  intro a' h;simp only[AL.mapV]at h;split at h
  ·rename_i j p hj;simp at h;subst h;obtain⟨p',l',q1,q2⟩:=hn.p _ _ _ _ hj _ _ _ he;rw[q2];exact .ptr j p b p' l' q1
  ·cases h
 |cptr c b off vals h1 h2 ih=>
  intro a' h;simp only[AL.mapV]at h;split at h
  ·rename_i d hd;simp at h;subst h;obtain⟨m1,m2⟩:=j8 hd
   have hj:∀(j:Nat)(d':AV),(ae d)[j]?=some d'->∃c',(ae c)[j]?=some c':=by
    intro j d' hd'
    have:j<(ae c).length:=by
     rw[m1];rcases O5 j (ae d).length with k|k
     ·exact k
     ·rw[O2 k]at hd';cases hd'
    exact⟨_,NY this⟩
   refine .cptr d b off vals (fun j d' hd'=>?_) (fun j d' hd'=>?_)
   ·obtain⟨c',hc'⟩:=hj j d' hd';exact h1 j c' hc'
   ·obtain⟨c',hc'⟩:=hj j d' hd';exact ih j c' hc' (m2 j c' d' hc' hd')
  ·cases h
 |nilp=>intro a' h;simp[AL.mapV]at h;subst h;exact .nilp
 |ptNone n=>intro a' h;simp[AL.mapV]at h;subst h;exact .ptNone n
 |ptSome n x v _ ih=>intro a' h;simp[AL.mapV]at h;subst h;exact .ptSome n x v (ih (by simp[AL.mapV]))
 |arr id n w b len cap a he h1 h2 h3 h4=>
  intro a' h;simp only[AL.mapV]at h;split at h
  ·rename_i j hj;simp at h;subst h;exact .arr j n w b len cap a (hn.i _ _ hj _ he) h1 h2 h3 h4
  ·cases h
 |aptr id i w off b o len he=>
  intro a' h;simp only[AL.mapV]at h;split at h
  ·rename_i j hj;simp at h;subst h;exact .aptr j i w off b o len (hn.i _ _ hj _ he)
  ·cases h
 |map id r he=>
  intro a' h;simp only[AL.mapV]at h;split at h
  ·rename_i j hj;simp at h;subst h;exact .map j r (hn.i _ _ hj _ he)
  ·cases h
 |bptr id b g he=>
  intro a' h;simp only[AL.mapV]at h;split at h
  ·rename_i j hj;simp at h;subst h;exact .bptr j b g (hn.i _ _ hj _ he)
  ·cases h
 |glst s n k cap a h1 h2 h3 h4=>
  intro a' h;simp only[AL.mapV]at h;split at h
  ·rename_i j hj;simp at h;subst h;obtain⟨m,base,c,q1,q2,q3⟩:=h4;exact .glst s n j cap a h1 h2 h3 ⟨m,base,c,hn.i _ _ hj _ q1,q2,q3⟩
  ·cases h
 |gsuf k s i w m' b c' h1=>
  intro a' h;simp only[AL.mapV]at h;split at h
  ·rename_i j hj;simp at h;subst h;obtain⟨m,base,c,q1,q2,q3⟩:=h1;exact .gsuf j s i w m' b c' ⟨m,base,c,hn.i _ _ hj _ q1,q2,q3⟩
  ·cases h
 |gptr k s i w off b h1=>
  intro a' h;simp only[AL.mapV]at h;split at h
  ·rename_i j hj;simp at h;subst h;obtain⟨m,base,c,q1,q2,q3⟩:=h1;exact .gptr j s i w off b ⟨m,base,c,hn.i _ _ hj _ q1,q2,q3⟩
  ·cases h
 |lstp τ xs k b off cap vals h1 h2 h3 h4 h5 _=>intro a' h;simp[AL.mapV]at h
 |tptr τ n k p hp=>intro a' h;simp[AL.mapV]at h
 |iface t a v _ ih=>
  intro a' h;simp only[AL.mapV]at h;split at h
  ·rename_i d hd;simp at h;subst h;exact .iface t d v (ih hd)
  ·cases h
 |nilif=>intro a' h;simp[AL.mapV]at h;subst h;exact .nilif
 |nilm=>intro a' h;simp[AL.mapV]at h;subst h;exact .nilm
 |st n x v _ ih=>
  intro a' h;simp only[AL.mapV,Xs]at h;subst h;refine .st n x v (ih ?_)
  have:∀cs:List AV,(∀c∈cs,AL.mapV fp fi ft c=some c)->mapVs fp fi ft cs=some cs:=by
   intro cs
   induction cs with
   |nil=>intro _;rfl
   |cons c r ih=>intro hc;simp only[mapVs,hc c (by simp),ih (fun d hd=>hc d (by simp[hd]))]
  simp only[AL.mapV,this _ (gQ (.st n) x)]
 |agg cs vs hl _ ih=>
  intro a' h;simp only[AL.mapV]at h;split at h
  ·rename_i ds hds;simp at h;subst h;obtain⟨q1,q2⟩:=many hl ih hds;exact .agg ds vs q1 q2
  ·cases h
 |tup cs vs hl _ ih=>
  intro a' h;simp only[AL.mapV]at h;split at h
  ·rename_i ds hds;simp at h;subst h;obtain⟨q1,q2⟩:=many hl ih hds;exact .tup ds vs q1 q2
  ·cases h
 |fn f cs vs hl _ ih=>
  intro a' h;simp only[AL.mapV]at h;split at h
  ·rename_i ds hds;simp at h;subst h;obtain⟨q1,q2⟩:=many hl ih hds;exact .fn f ds vs q1 q2
  ·cases h
theorem VL.mapVs{Ω:Om}{e':Nat->Option CObj}(hn:Names fp fi ft Ω.e e'){cs ds:List AV}{vs:List Value}(h:VL Ω cs vs)(hm:AL.mapVs fp fi ft cs=some ds):VL ⟨e',Ω.w,Ω.pub⟩ ds vs:=by
 obtain⟨m1,m2⟩:=kE hm;refine⟨by rw[<-m1,h.1],fun j d v hd hv=>?_⟩
 have hj:j<cs.length:=by
  rw[m1];rcases O5 j ds.length with k|k
  ·exact k
  ·rw[O2 k]at hd;cases hd
 exact(h.2 j _ v (NY hj) hv).mapV hn (m2 j _ d (NY hj) hd)
end
theorem V.data{Ω:Om}{e':Nat->Option CObj}{τ:Ty}{x:den τ}{v:Value}(h:V Ω (inj τ x) v):V ⟨e',Ω.w,Ω.pub⟩ (inj τ x) v:=by have hn:Names (fun _ _=>none) (fun _=>none) (fun _=>none) Ω.e e':=⟨fun _ _ _ _ h=>by simp at h,fun _ _ h=>by simp at h,fun _ _ h=>by simp at h⟩;refine h.mapV hn ?_;cases τ<;>simp[inj,AL.mapV]
theorem V.flat{Ω:Om}{e':Nat->Option CObj}{τ:Ty}{xs:List (den τ)}{j:Nat}{c:AV}{v:Value}(hc:(flat τ xs)[j]?=some c)(h:V Ω c v):V ⟨e',Ω.w,Ω.pub⟩ c v:=by have hn:Names (fun _ _=>none) (fun _=>none) (fun _=>none) Ω.e e':=⟨fun _ _ _ _ h=>by simp at h,fun _ _ h=>by simp at h,fun _ _ h=>by simp at h⟩;obtain⟨x,_,hx⟩:=Pp.1 (Ot hc);exact h.mapV hn (gQ τ x c hx)
theorem MapOK.data{Ω:Om}{e':Nat->Option CObj}{κ τ:Ty}{m:List (den κ×den τ)}{es:Array MapEntry}{clock:Nat}(h:MapOK Ω κ τ m es clock):MapOK ⟨e',Ω.w,Ω.pub⟩ κ τ m es clock:=
 ⟨h.size,fun i e x he hx=>⟨(h.ent i e x he hx).1.data,(h.ent i e x he hx).2.data⟩,h.keys,h.born,h.rise,h.idx,h.top⟩
def jx(w:World)(pub:Nat->Nat->Prop):Prop:=∀b o,pub b o->∃v,w.cell? ⟨b,o,none⟩=some v
def Inj(e:Nat->Option CObj):Prop:=∀i j c d b o,e i=some c->e j=some d->occ c b o->occ d b o->i=j
structure After(w:World)(pub:Nat->Nat->Prop)(e:Nat->Option CObj)(B:Nat->Option SObj)(w':World)(pub':Nat->Nat->Prop)(e':Nat->Option CObj):Prop where
 os:w'.os=w.os
 tape:w'.tape=w.tape
 output:w'.output=w.output
 size:w.heap.size<=w'.heap.size
 block:∀b,b<w.heap.size->(∀o,¬gM e b o)->w'.heap[b]?=w.heap[b]?
 cell:∀b o,b<w.heap.size->¬gM e b o->w'.cell? ⟨b,o,none⟩=w.cell? ⟨b,o,none⟩
 kind:∀b,b<w.heap.size->¬(∀o,gM e b o)->w'.shape? b=w.shape? b/\∀o,w'.frozen? ⟨b,o,none⟩=w.frozen? ⟨b,o,none⟩
 ext:Ext ⟨e,w,pub⟩ ⟨e',w',pub'⟩
 fresh:∀b o,pub' b o->pub b o∨w.heap.size<=b∨gM e b o
 ok:jx w' pub'
 slots:∀id o,B id=some o->bn ⟨e',w',pub'⟩ (fun b o=>w.heap.size<=b∨gM e b o) id o
 dom:∀id,B id=none->e' id=none
 inj:Inj e'
def ak(P:Program)(f:Nat)(args:List AV)(S:List (Nat×SObj))(A:Ans):Prop:=
 ∀w pub e vs,jx w pub->ec w pub e->VL ⟨e,w,pub⟩ args vs->(∀id o,aj S id=some o->bn ⟨e,w,pub⟩ (fun _ _=>True) id o)->(∀id,aj S id=none->e id=none)->Inj e->
  Calls P f vs.toArray w fun en w'=>∃pub' e',match en with
   |.returned v=>(∀b pv u,A.pan=some (b,pv,u)->b=false)/\V ⟨e',w',pub'⟩ A.val v/\After w pub e (aj (cr S A.upd)) w' pub' e'
   |.panicked ch=>∃pv u v,A.pan=some (true,pv,u)/\ch=[{v,recovered:=false}]/\V ⟨e',w',pub'⟩ pv v/\After w pub e (aj (cr S u)) w' pub' e'
   |.outgrown=>False
def Enters(P:Program)(f:Nat):Prop:=∃fn,P.funcs[f]?=some fn/\fn.body.isNone=false/\(fn.name == "runtime.NumGoroutine")=false
def bJ(P:Program)(spec:Nat->List AV->List (Nat×SObj)->Option Ans):Prop:=
 ∀f args S A,spec f args S=some A->(∀q,A.ob=some q->q)->(aM S).all bd=true->Enters P f/\ak P f args S A
end Go.AL
end
