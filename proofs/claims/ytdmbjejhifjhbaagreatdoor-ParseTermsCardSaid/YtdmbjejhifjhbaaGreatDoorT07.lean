/- Plain facts. What the functions' conditions say, proved. The contracts of the functions. No condition. -/
import Derived.Test.YtdmbjejhifjhbaaGreatDoorT06
set_option linter.all false
set_option maxRecDepth 100000
section
namespace Go.AL
variable [Tabs]
section
variable {P:Program} {f:Nat}
def L7(F:List Tokn->Int->Trm->List Str->Nat->Ans):Pat
 |[.lst (.st .token) l none,.int .i64 a,.agg [.int .i64 k,.str g,.str q,.int .i64 z,.nils,.nils,.nils,.nils,.int .i64 pp],.lst .str ws (some 900)],[(900,.tail .str mw)]=>some (F l a ⟨k,g,q,z,[],[],[],[],pp⟩ ws mw)
 |_,_=>none
theorem L8{F:List Tokn->Int->Trm->List Str->Nat->Ans}(he:aA P f)
 (h:∀l a x ws mw,x.names=[]->x.vars=[]->x.shapes=[]->x.parts=[]->(∀q,(F l a x ws mw).ob=some q->q)->aB P f [.lst (.st .token) l none,.int .i64 a,.agg [.int .i64 (x).kind,.str (x).pkg,.str (x).name,.int .i64 (x).n,.nils,.nils,.nils,.nils,.int .i64 (x).pos],.lst .str ws (some 900)] [(900,.tail .str mw)] (F l a x ws mw)):ab P f (L7 F):=by
 intro args S A hA ho _;unfold L7 at hA;split at hA
 ·simp only[Xs]at hA;subst hA;exact⟨he,h _ _ _ _ _ rfl rfl rfl rfl ho⟩
 ·cases hA
def yr(F:List Tokn->Int->Trm->List Str->Nat->Nat->Nat->Ans):Pat
 |[.lst (.st .token) l none,.int .i64 a,.agg [.int .i64 k,.str g,.str q,.int .i64 z,.lst .str ns (some 900),.nils,.lst (.st .shape) ss (some 901),.nils,.int .i64 pp],.lst .str ws (some 902)],[(900,.tail .str mn),(901,.tail (.st .shape) ms),(902,.tail .str mw)]=>some (F l a ⟨k,g,q,z,ns,[],ss,[],pp⟩ ws mn ms mw)
 |_,_=>none
theorem E6{F:List Tokn->Int->Trm->List Str->Nat->Nat->Nat->Ans}(he:aA P f)
 (h:∀l a x ws mn ms mw,x.vars=[]->x.parts=[]->(∀q,(F l a x ws mn ms mw).ob=some q->q)->aB P f [.lst (.st .token) l none,.int .i64 a,.agg [.int .i64 (x).kind,.str (x).pkg,.str (x).name,.int .i64 (x).n,.lst .str (x).names (some 900),.nils,.lst (.st .shape) (x).shapes (some 901),.nils,.int .i64 (x).pos],.lst .str ws (some 902)] [(900,.tail .str mn),(901,.tail (.st .shape) ms),(902,.tail .str mw)] (F l a x ws mn ms mw)):ab P f (yr F):=by
 intro args S A hA ho _;unfold yr at hA;split at hA
 ·simp only[Xs]at hA;subst hA;exact⟨he,h _ _ _ _ _ _ _ rfl rfl ho⟩
 ·cases hA
def yt(F:List Tokn->Int->Trm->List Str->Nat->Nat->Nat->Ans):Pat
 |[.lst (.st .token) l none,.int .i64 a,.agg [.int .i64 k,.str g,.str q,.int .i64 z,.lst .str ns (some 900),.nils,.nils,.lst (.st .term) ps (some 901),.int .i64 pp],.lst .str ws (some 902)],[(900,.tail .str mn),(901,.tail (.st .term) mp),(902,.tail .str mw)]=>some (F l a ⟨k,g,q,z,ns,[],[],ps,pp⟩ ws mn mp mw)
 |_,_=>none
theorem E7{F:List Tokn->Int->Trm->List Str->Nat->Nat->Nat->Ans}(he:aA P f)
 (h:∀l a x ws mn mp mw,x.vars=[]->x.shapes=[]->(∀q,(F l a x ws mn mp mw).ob=some q->q)->aB P f [.lst (.st .token) l none,.int .i64 a,.agg [.int .i64 (x).kind,.str (x).pkg,.str (x).name,.int .i64 (x).n,.lst .str (x).names (some 900),.nils,.nils,.lst (.st .term) (x).parts (some 901),.int .i64 (x).pos],.lst .str ws (some 902)] [(900,.tail .str mn),(901,.tail (.st .term) mp),(902,.tail .str mw)] (F l a x ws mn mp mw)):ab P f (yt F):=by
 intro args S A hA ho _;unfold yt at hA;split at hA
 ·simp only[Xs]at hA;subst hA;exact⟨he,h _ _ _ _ _ _ _ rfl rfl ho⟩
 ·cases hA
def qO(F:List Tokn->Int->Trm->List Str->Nat->Nat->Nat->Nat->Nat->Ans):Pat
 |[.lst (.st .token) l none,.int .i64 a,.agg [.int .i64 k,.str g,.str q,.int .i64 z,.lst .str ns (some 900),.lst .str vs (some 901),.lst (.st .shape) ss (some 902),.lst (.st .term) ps (some 903),.int .i64 pp],.lst .str ws (some 904)],[(900,.tail .str mn),(901,.tail .str mv),(902,.tail (.st .shape) ms),(903,.tail (.st .term) mp),(904,.tail .str mw)]=>some (F l a ⟨k,g,q,z,ns,vs,ss,ps,pp⟩ ws mn mv ms mp mw)
 |_,_=>none
theorem yu{F:List Tokn->Int->Trm->List Str->Nat->Nat->Nat->Nat->Nat->Ans}(he:aA P f)
 (h:∀l a x ws mn mv ms mp mw,True->(∀q,(F l a x ws mn mv ms mp mw).ob=some q->q)->aB P f [.lst (.st .token) l none,.int .i64 a,.agg [.int .i64 (x).kind,.str (x).pkg,.str (x).name,.int .i64 (x).n,.lst .str (x).names (some 900),.lst .str (x).vars (some 901),.lst (.st .shape) (x).shapes (some 902),.lst (.st .term) (x).parts (some 903),.int .i64 (x).pos],.lst .str ws (some 904)] [(900,.tail .str mn),(901,.tail .str mv),(902,.tail (.st .shape) ms),(903,.tail (.st .term) mp),(904,.tail .str mw)] (F l a x ws mn mv ms mp mw)):ab P f (qO F):=by
 intro args S A hA ho _;unfold qO at hA;split at hA
 ·simp only[Xs]at hA;subst hA;exact⟨he,h _ _ _ _ _ _ _ _ _ trivial ho⟩
 ·cases hA
def E8(F:List Tokn->Int->Trm->Flt->Str->Nat->Ans):Pat
 |[.lst (.st .token) l none,.int .i64 a,.agg [.int .i64 k,.str g,.str q,.int .i64 z,.nils,.nils,.nils,.lst (.st .term) ps (some 900),.int .i64 pp],cft,.str en],[(900,.tail (.st .term) mp)]=>(match arg (.st .fault) cft with|some ft=>some (F l a ⟨k,g,q,z,[],[],[],ps,pp⟩ ft en mp)|none=>none)
 |_,_=>none
theorem HT{F:List Tokn->Int->Trm->Flt->Str->Nat->Ans}(he:aA P f)
 (h:∀l a x ft en mp,x.names=[]->x.vars=[]->x.shapes=[]->(∀q,(F l a x ft en mp).ob=some q->q)->aB P f [.lst (.st .token) l none,.int .i64 a,.agg [.int .i64 (x).kind,.str (x).pkg,.str (x).name,.int .i64 (x).n,.nils,.nils,.nils,.lst (.st .term) (x).parts (some 900),.int .i64 (x).pos],.st .fault ft,.str en] [(900,.tail (.st .term) mp)] (F l a x ft en mp)):ab P f (E8 F):=by
 intro args S A hA ho _;unfold E8 at hA;split at hA
 ·split at hA
  ·rename_i hh;simp only[Xs]at hA;subst hA;exact⟨he,aB.args (.cons (Rd.refl _) (.cons (Rd.refl _) (.cons (Rd.refl _) (.cons (Rd.arg hh) (.cons (Rd.refl _) .nil))))) (h _ _ _ _ _ _ rfl rfl rfl ho)⟩
  ·cases hA
 ·cases hA
def yw(F:List Tokn->Int->Trm->Flt->Str->Nat->Nat->Ans):Pat
 |[.lst (.st .token) l none,.int .i64 a,.agg [.int .i64 k,.str g,.str q,.int .i64 z,.lst .str ns (some 900),.nils,.lst (.st .shape) ss (some 901),.nils,.int .i64 pp],cft,.str en],[(900,.tail .str mn),(901,.tail (.st .shape) ms)]=>(match arg (.st .fault) cft with|some ft=>some (F l a ⟨k,g,q,z,ns,[],ss,[],pp⟩ ft en mn ms)|none=>none)
 |_,_=>none
theorem E9{F:List Tokn->Int->Trm->Flt->Str->Nat->Nat->Ans}(he:aA P f)
 (h:∀l a x ft en mn ms,x.vars=[]->x.parts=[]->(∀q,(F l a x ft en mn ms).ob=some q->q)->aB P f [.lst (.st .token) l none,.int .i64 a,.agg [.int .i64 (x).kind,.str (x).pkg,.str (x).name,.int .i64 (x).n,.lst .str (x).names (some 900),.nils,.lst (.st .shape) (x).shapes (some 901),.nils,.int .i64 (x).pos],.st .fault ft,.str en] [(900,.tail .str mn),(901,.tail (.st .shape) ms)] (F l a x ft en mn ms)):ab P f (yw F):=by
 intro args S A hA ho _;unfold yw at hA;split at hA
 ·split at hA
  ·rename_i hh;simp only[Xs]at hA;subst hA;exact⟨he,aB.args (.cons (Rd.refl _) (.cons (Rd.refl _) (.cons (Rd.refl _) (.cons (Rd.arg hh) (.cons (Rd.refl _) .nil))))) (h _ _ _ _ _ _ _ rfl rfl ho)⟩
  ·cases hA
 ·cases hA
def qP(F:List Tokn->Int->Trm->Flt->Str->Nat->Nat->Nat->Nat->Ans):Pat
 |[.lst (.st .token) l none,.int .i64 a,.agg [.int .i64 k,.str g,.str q,.int .i64 z,.lst .str ns (some 900),.lst .str vs (some 901),.lst (.st .shape) ss (some 902),.lst (.st .term) ps (some 903),.int .i64 pp],cft,.str en],[(900,.tail .str mn),(901,.tail .str mv),(902,.tail (.st .shape) ms),(903,.tail (.st .term) mp)]=>(match arg (.st .fault) cft with|some ft=>some (F l a ⟨k,g,q,z,ns,vs,ss,ps,pp⟩ ft en mn mv ms mp)|none=>none)
 |_,_=>none
theorem yx{F:List Tokn->Int->Trm->Flt->Str->Nat->Nat->Nat->Nat->Ans}(he:aA P f)
 (h:∀l a x ft en mn mv ms mp,True->(∀q,(F l a x ft en mn mv ms mp).ob=some q->q)->aB P f [.lst (.st .token) l none,.int .i64 a,.agg [.int .i64 (x).kind,.str (x).pkg,.str (x).name,.int .i64 (x).n,.lst .str (x).names (some 900),.lst .str (x).vars (some 901),.lst (.st .shape) (x).shapes (some 902),.lst (.st .term) (x).parts (some 903),.int .i64 (x).pos],.st .fault ft,.str en] [(900,.tail .str mn),(901,.tail .str mv),(902,.tail (.st .shape) ms),(903,.tail (.st .term) mp)] (F l a x ft en mn mv ms mp)):ab P f (qP F):=by
 intro args S A hA ho _;unfold qP at hA;split at hA
 ·split at hA
  ·rename_i hh;simp only[Xs]at hA;subst hA;exact⟨he,aB.args (.cons (Rd.refl _) (.cons (Rd.refl _) (.cons (Rd.refl _) (.cons (Rd.arg hh) (.cons (Rd.refl _) .nil))))) (h _ _ _ _ _ _ _ _ _ trivial ho)⟩
  ·cases hA
 ·cases hA
def L9(F:List Tokn->Int->Trm->Str->Ans):Pat
 |[.lst (.st .token) l none,.int .i64 a,.agg [.int .i64 k,.str g,.str q,.int .i64 z,.nils,.nils,.nils,.nils,.int .i64 pp],.str en],[]=>some (F l a ⟨k,g,q,z,[],[],[],[],pp⟩ en)
 |_,_=>none
theorem La{F:List Tokn->Int->Trm->Str->Ans}(he:aA P f)
 (h:∀l a x en,x.names=[]->x.vars=[]->x.shapes=[]->x.parts=[]->(∀q,(F l a x en).ob=some q->q)->aB P f [.lst (.st .token) l none,.int .i64 a,.agg [.int .i64 (x).kind,.str (x).pkg,.str (x).name,.int .i64 (x).n,.nils,.nils,.nils,.nils,.int .i64 (x).pos],.str en] [] (F l a x en)):ab P f (L9 F):=by
 intro args S A hA ho _;unfold L9 at hA;split at hA
 ·simp only[Xs]at hA;subst hA;exact⟨he,h _ _ _ _ rfl rfl rfl rfl ho⟩
 ·cases hA
def Ea(F:List Tokn->Int->Trm->Str->Nat->Ans):Pat
 |[.lst (.st .token) l none,.int .i64 a,.agg [.int .i64 k,.str g,.str q,.int .i64 z,.nils,.nils,.nils,.lst (.st .term) ps (some 900),.int .i64 pp],.str en],[(900,.tail (.st .term) mp)]=>some (F l a ⟨k,g,q,z,[],[],[],ps,pp⟩ en mp)
 |_,_=>none
theorem HU{F:List Tokn->Int->Trm->Str->Nat->Ans}(he:aA P f)
 (h:∀l a x en mp,x.names=[]->x.vars=[]->x.shapes=[]->(∀q,(F l a x en mp).ob=some q->q)->aB P f [.lst (.st .token) l none,.int .i64 a,.agg [.int .i64 (x).kind,.str (x).pkg,.str (x).name,.int .i64 (x).n,.nils,.nils,.nils,.lst (.st .term) (x).parts (some 900),.int .i64 (x).pos],.str en] [(900,.tail (.st .term) mp)] (F l a x en mp)):ab P f (Ea F):=by
 intro args S A hA ho _;unfold Ea at hA;split at hA
 ·simp only[Xs]at hA;subst hA;exact⟨he,h _ _ _ _ _ rfl rfl rfl ho⟩
 ·cases hA
def Bt(F:List Tokn->Int->Trm->Ans):Pat
 |[.lst (.st .token) l none,.int .i64 a,.agg [.int .i64 k,.str g,.str q,.int .i64 z,.nils,.nils,.nils,.nils,.int .i64 pp]],[]=>some (F l a ⟨k,g,q,z,[],[],[],[],pp⟩)
 |_,_=>none
theorem uv{F:List Tokn->Int->Trm->Ans}(he:aA P f)
 (h:∀l a x,x.names=[]->x.vars=[]->x.shapes=[]->x.parts=[]->(∀q,(F l a x).ob=some q->q)->aB P f [.lst (.st .token) l none,.int .i64 a,.agg [.int .i64 (x).kind,.str (x).pkg,.str (x).name,.int .i64 (x).n,.nils,.nils,.nils,.nils,.int .i64 (x).pos]] [] (F l a x)):ab P f (Bt F):=by
 intro args S A hA ho _;unfold Bt at hA;split at hA
 ·simp only[Xs]at hA;subst hA;exact⟨he,h _ _ _ rfl rfl rfl rfl ho⟩
 ·cases hA
def Eb(F:List Tokn->Int->Trm->Nat->Ans):Pat
 |[.lst (.st .token) l none,.int .i64 a,.agg [.int .i64 k,.str g,.str q,.int .i64 z,.nils,.nils,.nils,.lst (.st .term) ps (some 900),.int .i64 pp]],[(900,.tail (.st .term) mp)]=>some (F l a ⟨k,g,q,z,[],[],[],ps,pp⟩ mp)
 |_,_=>none
theorem HV{F:List Tokn->Int->Trm->Nat->Ans}(he:aA P f)
 (h:∀l a x mp,x.names=[]->x.vars=[]->x.shapes=[]->(∀q,(F l a x mp).ob=some q->q)->aB P f [.lst (.st .token) l none,.int .i64 a,.agg [.int .i64 (x).kind,.str (x).pkg,.str (x).name,.int .i64 (x).n,.nils,.nils,.nils,.lst (.st .term) (x).parts (some 900),.int .i64 (x).pos]] [(900,.tail (.st .term) mp)] (F l a x mp)):ab P f (Eb F):=by
 intro args S A hA ho _;unfold Eb at hA;split at hA
 ·simp only[Xs]at hA;subst hA;exact⟨he,h _ _ _ _ rfl rfl rfl ho⟩
 ·cases hA
def Lb(F:List Tokn->Int->Trm->Int->Ans):Pat
 |[.lst (.st .token) l none,.int .i64 a,.agg [.int .i64 k,.str g,.str q,.int .i64 z,.nils,.nils,.nils,.nils,.int .i64 pp],.int .i64 kk],[]=>some (F l a ⟨k,g,q,z,[],[],[],[],pp⟩ kk)
 |_,_=>none
theorem Lc{F:List Tokn->Int->Trm->Int->Ans}(he:aA P f)
 (h:∀l a x kk,x.names=[]->x.vars=[]->x.shapes=[]->x.parts=[]->(∀q,(F l a x kk).ob=some q->q)->aB P f [.lst (.st .token) l none,.int .i64 a,.agg [.int .i64 (x).kind,.str (x).pkg,.str (x).name,.int .i64 (x).n,.nils,.nils,.nils,.nils,.int .i64 (x).pos],.int .i64 kk] [] (F l a x kk)):ab P f (Lb F):=by
 intro args S A hA ho _;unfold Lb at hA;split at hA
 ·simp only[Xs]at hA;subst hA;exact⟨he,h _ _ _ _ rfl rfl rfl rfl ho⟩
 ·cases hA
end
end Go.AL
end
section
namespace Go.Pd
open Go.AL
def tP(x:Trm)(ps:List Trm):Trm:=⟨x.kind,x.pkg,x.name,x.n,x.names,x.vars,x.shapes,ps,x.pos⟩
def tS(x:Trm)(ss:List Shape):Trm:=⟨x.kind,x.pkg,x.name,x.n,x.names,x.vars,ss,x.parts,x.pos⟩
def tNS(x:Trm)(ns:List Str)(ss:List Shape):Trm:=⟨x.kind,x.pkg,x.name,x.n,ns,x.vars,ss,x.parts,x.pos⟩
def tNP(x:Trm)(ns:List Str)(ps:List Trm):Trm:=⟨x.kind,x.pkg,x.name,x.n,ns,x.vars,x.shapes,ps,x.pos⟩
def t4(x:Trm)(ns vs:List Str)(ss:List Shape)(ps:List Trm):Trm:=⟨x.kind,x.pkg,x.name,x.n,ns,vs,ss,ps,x.pos⟩
theorem gx(x:Trm):tP x x.parts=x:=by cases x;rfl
theorem Fx(x:Trm):tS x x.shapes=x:=by cases x;rfl
theorem Fy(x:Trm):t4 x x.names x.vars x.shapes x.parts=x:=by cases x;rfl
section
variable {l:List Tokn} {R:Int->TR3} {x:Trm} {a:Int}
theorem NO(h:¬(R a).2.2.err=0):cH R x a=(x,(R a).2.1,(R a).2.2):=by unfold cH;rw[OA h]
theorem NP(h:(R a).2.2.err=0):cH R x a=(ar x (R a).1,(R a).2.1,okF):=by unfold cH;rw[OB h]
theorem im:∀(ws:List Str)(x:Trm)(a:Int),tP x (aD l R ws x a).1.parts=(aD l R ws x a).1
 |[],x,a=>gx x
 |w::ws,x,a=>by
  rw[aD];by_cases e:(ad l a w).2.err=0
  ·rw[OB e];by_cases d:(R (ad l a w).1).2.2.err=0
   ·rw[OB d];exact im ws (ar x (R (ad l a w).1).1) (R (ad l a w).1).2.1
   ·rw[OA d];exact gx x
  ·rw[OA e];exact gx x
theorem pV:∀(ws:List Str)(x:Trm)(a:Int),(aD l R ws x a).1.parts.length<=x.parts.length+ws.length
 |[],x,a=>ON _
 |w::ws,x,a=>by
  rw[aD];by_cases e:(ad l a w).2.err=0
  ·rw[OB e];by_cases d:(R (ad l a w).1).2.2.err=0
   ·rw[OB d];have:=pV ws (ar x (R (ad l a w).1).1) (R (ad l a w).1).2.1;have e2:(ar x (R (ad l a w).1).1).parts.length=x.parts.length+1:=by show(x.parts++[_]).length=_;rw[OE];rfl
    rw[e2]at this;rw[OP];omega
   ·rw[OA d];show x.parts.length<=_;rw[OP];omega
  ·rw[OA e];show x.parts.length<=_;rw[OP];omega
theorem gA(f:Flt)(w:Str):tS x (aV l a x f w).1.shapes=(aV l a x f w).1:=by
 unfold aV;by_cases e:f.err=0
 ·rw[OB e];by_cases d:(ad l a w).2.err=0
  ·rw[OB d];rfl
  ·rw[OA d];exact Fx x
 ·rw[OA e];exact Fx x
theorem oV(f:Flt)(w:Str):(aV l a x f w).1.shapes.length<=x.shapes.length+1:=by
 unfold aV;by_cases e:f.err=0
 ·rw[OB e];by_cases d:(ad l a w).2.err=0
  ·rw[OB d];show(x.shapes++[_]).length<=_;rw[OE];exact ON _
  ·rw[OA d];exact Nat.le_succ _
 ·rw[OA e];exact Nat.le_succ _
theorem rE{σ:Type}{r:σ->Int->σ×Int×Flt}{p:σ->Prop}(h:∀x a,p x->p (r x a).1)(btw en:Str):∀(k:Nat)(x:σ)(a:Int),p x->p (aP l r btw en k x a).1
 |0,x,a,hx=>hx
 |k+1,x,a,hx=>by
  rw[aP];by_cases e:(r x a).2.2.err=0
  ·rw[OB e];by_cases s:aG l (r x a).2.1 en=true
   ·rw[OB s];exact h x a hx
   ·rw[OA s];by_cases d:(ad l (r x a).2.1 btw).2.err=0
    ·rw[OB d];exact rE h btw en k _ _ (h x a hx)
    ·rw[OA d];exact h x a hx
  ·rw[OA e];exact h x a hx
theorem wC{σ:Type}{r:σ->Int->σ×Int×Flt}{p:σ->Prop}(h:∀x a,p x->p (r x a).1)(btw en:Str){x:σ}{a:Int}(hx:p x):p (dM (aw l r btw en x a)).1:=by
 have:(dM (aw l r btw en x a)).1=(aw l r btw en x a).1:=by unfold dM;split<;>rfl
 rw[this];unfold aw;by_cases s:aG l a en=true
 ·rw[OB s];exact hx
 ·rw[OA s];exact rE h btw en _ _ _ hx
theorem wD(en:Str):tP x (dU l R a x en).1.parts=(dU l R a x en).1:=by
 have:=wC (l:=l) (r:=cH R) (p:=fun y:Trm=>tP x y.parts=y) (fun y a hy=>by
  by_cases e:(R a).2.2.err=0
  ·rw[NP e];show tP x (y.parts++[_])=ar y _;rw[<-hy];rfl
  ·rw[NO e];exact hy) [44] en (x:=x) (a:=a) (gx x)
 exact this
end
theorem Ld{l:List Tokn}{a:Int}(h0:0<=a)(h:¬(az l a).kind=0):az l a∈l:=by have hl:=fj h;unfold az;rw[OB hl];exact bO l a.toNat _ (by omega)
theorem wE{t:Str}(h:∀c∈t,48<=c.toNat/\c.toNat<=57):∀k,k<=t.length->0<=ei (t.take k)/\ei (t.take k)<10 ^ k
 |0,_=>by rw[List.take_zero];exact⟨P8 _,by decide⟩
 |k+1,hk=>by
  obtain⟨i1,i2⟩:=wE h k (by omega);have hm:=h _ (bO t k 0 (by omega));have e:ei (t.take (k+1))=10 *ei (t.take k)+(((t.getD k 0).toNat:Int)-48):=by unfold ei;rw[dW t k 0 (by omega),QJ];rfl
  have e2:(10:Int) ^ (k+1)=10 *10 ^ k:=by rw[Int.pow_succ,Int.mul_comm]
  rw[e,e2];omega
theorem HW{t:Str}{k:Nat}(hk:k<t.length):10 *ei (t.take k)+(((t.getD k 0).toNat:Int)-48)=ei (t.take (k+1)):=by unfold ei;rw[dW t k 0 hk,QJ];rfl
theorem HX{t:Str}(h:ld t){k:Nat}(hk:k<t.length):0<=ei (t.take k)/\ei (t.take k)<100000000000000:=by
 obtain⟨i1,i2⟩:=wE h.2.2 k (by omega);refine⟨i1,Int.lt_of_lt_of_le i2 ?_⟩;have h15:=h.2.1;have:(10:Nat) ^ k<=10 ^ 14:=Rl (by decide) (by omega);have e:((10 ^ k:Nat):Int)=(10:Int) ^ k:=by simp
 rw[<-e];omega
theorem uw{l:List Tokn}{R:Int->TR3}{p:Int}{x:TR3}(h:x.2.2.err=0->¬aG l x.2.1 [40]=true/\¬aG l x.2.1 [46]=true):∀j,eV l R p j x=x
 |0=>rfl
 |j+1=>by rw[eV,OA (fun q=>(h q.1).1 q.2),OA (fun q=>(h q.1).2 q.2)]
theorem Ec{l:List Tokn}{R:Int->TR3}{p:Int}{x:TR3}{j:Nat}(h:x.2.2.err=0)(s:aG l x.2.1 [40]=true) :
  eV l R p (j+1) x=eV l R p j (dU l R (x.2.1+1) ⟨7,[],[],0,[],[],[],[x.1],p⟩ [41]):=by rw[eV,OB ⟨h,s⟩]
theorem Bu{l:List Tokn}{R:Int->TR3}{p:Int}{x:TR3}{j:Nat}(h:x.2.2.err=0)(s:¬aG l x.2.1 [40]=true)(s2:aG l x.2.1 [46]=true) :
  eV l R p (j+1) x=eV l R p j (⟨9,[],(aL l (x.2.1+1) 1).1,0,[],[],[],[x.1],p⟩,(aL l (x.2.1+1) 1).2.1,(aL l (x.2.1+1) 1).2.2):=by
 rw[eV,OA (fun q=>s q.2),OB ⟨h,s2⟩]
theorem Le{l:List Tokn}(hl:l.length<=4097)(hN:aO l)(n:Nat):OnR l (n+1) (gq l (aa l n)):=MO hl hN (rD n) (dR n) (nz l n)
section
variable {l:List Tokn} {R:Int->TR3} {x:Trm} {a:Int}
theorem rf_1(h:¬(ag l a x.names).2.2.err=0):cO l R x a=(x,(ag l a x.names).2.1,(ag l a x.names).2.2):=by unfold cO;dsimp only;rw[OA h]
theorem rf_2(h:(ag l a x.names).2.2.err=0):cO l R x a=aD l R [[61]] (bc x (ag l a x.names).1) (ag l a x.names).2.1:=by unfold cO;dsimp only;rw[OB h]
theorem ru_1(h:¬(ag l a x.names).2.2.err=0):dj l x a=(x,(ag l a x.names).2.1,(ag l a x.names).2.2):=by unfold dj;dsimp only;rw[OA h]
theorem ru_2(h:(ag l a x.names).2.2.err=0):dj l x a=aV l (ag l a x.names).2.1 (bc x (ag l a x.names).1) okF [58]:=by unfold dj;dsimp only;rw[OB h]
theorem Lf{t:Trm}{f:Flt}{w:Str}(h:f.err=0):aV l a t f w=aV l a t okF w:=by unfold aV;rw[OB h,OB (show okF.err=0 from rfl)]
theorem rw_1(h:¬(ag l a x.names).2.2.err=0):cr l R x a=(x,(ag l a x.names).2.1,(ag l a x.names).2.2):=by unfold cr;dsimp only;rw[OA h]
theorem rw_2(h:(ag l a x.names).2.2.err=0)(d:¬(ad l (ag l a x.names).2.1 [40]).2.err=0) :
  cr l R x a=(bc x (ag l a x.names).1,(ad l (ag l a x.names).2.1 [40]).1,(ad l (ag l a x.names).2.1 [40]).2):=by unfold cr;dsimp only;rw[OB h,OA d]
def Bv(l:List Tokn)(x:Trm)(s:Str)(b:Int):TR3:=aV l (aL l b 1).2.1 (cK (bc x s) (aL l b 1).1) (aL l b 1).2.2 [58]
theorem rw_3(h:(ag l a x.names).2.2.err=0)(d:(ad l (ag l a x.names).2.1 [40]).2.err=0) :
  cr l R x a=if(cn l [41] (Bv l x (ag l a x.names).1 (ad l (ag l a x.names).2.1 [40]).1)).2.2.err=0
   then aD l R [[45,62]] (cn l [41] (Bv l x (ag l a x.names).1 (ad l (ag l a x.names).2.1 [40]).1)).1 (cn l [41] (Bv l x (ag l a x.names).1 (ad l (ag l a x.names).2.1 [40]).1)).2.1
   else cn l [41] (Bv l x (ag l a x.names).1 (ad l (ag l a x.names).2.1 [40]).1):=by unfold cr;dsimp only;rw[OB h,OB d];rfl
end
def wyN(l:List Tokn)(A:Int)(ns:List Str):Int×Flt:=ad l (ag l A ns).2.1 [40]
def wyK(l:List Tokn)(A:Int)(ns:List Str):Str×Int×Flt:=aL l (wyN l A ns).1 1
def wyT(l:List Tokn)(x:Trm)(A:Int)(ns vs:List Str)(ss:List Shape)(ps:List Trm):TR3:=
 aV l (wyK l A ns).2.1 ⟨x.kind,x.pkg,x.name,x.n,ns++[(ag l A ns).1],vs++[(wyK l A ns).1],ss,ps,x.pos⟩ (wyK l A ns).2.2 [58]
def wyM(l:List Tokn)(x:Trm)(A:Int)(ns vs:List Str)(ss:List Shape)(ps:List Trm):Int×Flt:=ad l (wyT l x A ns vs ss ps).2.1 [41]
def wyR(l:List Tokn)(R:Int->TR3)(x:Trm)(A:Int)(ns vs:List Str)(ss:List Shape)(ps:List Trm):TR3:=
 aD l R [[45,62]] ⟨x.kind,x.pkg,x.name,x.n,ns++[(ag l A ns).1],vs++[(wyK l A ns).1],(wyT l x A ns vs ss ps).1.shapes,ps,x.pos⟩ (wyM l x A ns vs ss ps).1
def wyV(l:List Tokn)(R:Int->TR3)(x:Trm)(A:Int)(ns vs:List Str)(ss:List Shape)(ps:List Trm):TR3:=
 aD l R [[45,62]] ⟨x.kind,x.pkg,x.name,x.n,ns++[(ag l A ns).1],vs++[(wyK l A ns).1],(wyT l x A ns vs ss ps).1.shapes,ps,x.pos⟩ (wyT l x A ns vs ss ps).2.1
def tmC(l:List Tokn)(R:Int->TR3)(a p:Int):TR3:=aD l R [[99,97,115,101]] ⟨13,[],[],0,[],[],[],[],p⟩ a
def NQ(l:List Tokn)(R:Int->TR3)(a p:Int):Int×Flt:=ad l (tmC l R a p).2.1 [111,102]
def tmC3(l:List Tokn)(R:Int->TR3)(a p:Int):Int×Flt:=ad l (NQ l R a p).1 [123]
def tmC4(l:List Tokn)(R:Int->TR3)(a p:Int):Int×Flt:=ad l (tmC l R a p).2.1 [123]
def tmW(l:List Tokn)(R:Int->TR3)(ps:List Trm)(p b:Int):TR3:=dN l R b ⟨13,[],[],0,[],[],[],ps,p⟩
def tmT(l:List Tokn)(W:TR3)(p:Int):TR3:=aV l W.2.1 ⟨13,[],[],0,W.1.names,W.1.vars,W.1.shapes,W.1.parts,p⟩ W.2.2 [97,115]
def tmI(l:List Tokn)(R:Int->TR3)(a p:Int):TR3:=aD l R [[105,102],[116,104,101,110],[101,108,115,101]] ⟨12,[],[],0,[],[],[],[],p⟩ a
def tmJ(l:List Tokn)(W:TR3)(k p:Int)(w:Str):TR3:=aV l W.2.1 ⟨k,[],[],0,[],[],[],W.1.parts,p⟩ W.2.2 w
def tmA(l:List Tokn)(R:Int->TR3)(a p:Int):TR3:=dU l R (a+1) ⟨11,[],[],0,[],[],[],[],p⟩ [93]
def tmL(l:List Tokn)(R:Int->TR3)(a p:Int):TR3:=aD l R [[61],[105,110]] ⟨14,[],(aL l (a+1) 1).1,0,[],[],[],[],p⟩ (aL l (a+1) 1).2.1
section
variable {l:List Tokn} {R:Int->TR3} {x:Trm} {a:Int}
theorem uA{σ:Type}{r:σ->Int->σ×Int×Flt}{m:σ->Nat}(h:∀x a,m (r x a).1<=m x+1)(btw en:Str):∀(k:Nat)(x:σ)(a:Int),m (aP l r btw en k x a).1<=m x+k
 |0,x,a=>ON _
 |k+1,x,a=>by
  rw[aP];have h1:=h x a;by_cases e:(r x a).2.2.err=0
  ·rw[OB e];by_cases s:aG l (r x a).2.1 en=true
   ·rw[OB s];show m (r x a).1<=_;omega
   ·rw[OA s];by_cases d:(ad l (r x a).2.1 btw).2.err=0
    ·rw[OB d];have:=uA h btw en k (r x a).1 (ad l (r x a).2.1 btw).1;omega
    ·rw[OA d];show m (r x a).1<=_;omega
  ·rw[OA e];omega
theorem Lg{σ:Type}{r:σ->Int->σ×Int×Flt}{m:σ->Nat}(h:∀x a,m (r x a).1<=m x+1)(btw en:Str)(x:σ)(a:Int):m (dM (aw l r btw en x a)).1<=m x+(l.length+2):=by
 have:(dM (aw l r btw en x a)).1=(aw l r btw en x a).1:=by unfold dM;split<;>rfl
 rw[this];unfold aw;by_cases s:aG l a en=true
 ·rw[OB s];exact Nat.le_add_right _ _
 ·rw[OA s];exact uA h btw en _ _ _
theorem Lh{α:Type}(t:Str)(b:α×Int×Flt):(cn l t b).1=b.1:=by unfold cn;split<;>rfl
theorem Fz(y:Trm)(a:Int)(hy:t4 x y.names y.vars y.shapes y.parts=y):t4 x (cr l R y a).1.names (cr l R y a).1.vars (cr l R y a).1.shapes (cr l R y a).1.parts=(cr l R y a).1/\(cr l R y a).1.shapes.length<=y.shapes.length+1:=by
 obtain⟨k,g,q,z,ns,vs,ss,ps,pp⟩:=y;have hy:(⟨x.kind,x.pkg,x.name,x.n,ns,vs,ss,ps,x.pos⟩:Trm)=⟨k,g,q,z,ns,vs,ss,ps,pp⟩:=hy;cases hy;by_cases f1:(ag l a ns).2.2.err=0
 ·by_cases d1:(ad l (ag l a ns).2.1 [40]).2.err=0
  ·rw[rw_3 (x:=⟨x.kind,x.pkg,x.name,x.n,ns,vs,ss,ps,x.pos⟩) f1 d1];have hset:=gA (l:=l) (a:=(aL l (ad l (ag l a ns).2.1 [40]).1 1).2.1) (x:=cK (bc ⟨x.kind,x.pkg,x.name,x.n,ns,vs,ss,ps,x.pos⟩ (ag l a ns).1) (aL l (ad l (ag l a ns).2.1 [40]).1 1).1) (aL l (ad l (ag l a ns).2.1 [40]).1 1).2.2 [58];have hlen:=oV (l:=l) (a:=(aL l (ad l (ag l a ns).2.1 [40]).1 1).2.1) (x:=cK (bc ⟨x.kind,x.pkg,x.name,x.n,ns,vs,ss,ps,x.pos⟩ (ag l a ns).1) (aL l (ad l (ag l a ns).2.1 [40]).1 1).1) (aL l (ad l (ag l a ns).2.1 [40]).1 1).2.2 [58];have ht:(cn l [41] (Bv l ⟨x.kind,x.pkg,x.name,x.n,ns,vs,ss,ps,x.pos⟩ (ag l a ns).1 (ad l (ag l a ns).2.1 [40]).1)).1=(Bv l ⟨x.kind,x.pkg,x.name,x.n,ns,vs,ss,ps,x.pos⟩ (ag l a ns).1 (ad l (ag l a ns).2.1 [40]).1).1:=Lh _ _;unfold Bv at ht;unfold Bv;generalize aV l (aL l (ad l (ag l a ns).2.1 [40]).1 1).2.1 (cK (bc ⟨x.kind,x.pkg,x.name,x.n,ns,vs,ss,ps,x.pos⟩ (ag l a ns).1) (aL l (ad l (ag l a ns).2.1 [40]).1 1).1) (aL l (ad l (ag l a ns).2.1 [40]).1 1).2.2 [58]=W at hset hlen ht⊢;dsimp only at ht⊢;generalize cn l [41] W=B at ht⊢;obtain⟨⟨wk,wg,wq,wz,wns,wvs,wss,wps,wpp⟩,wa,wf⟩:=W;obtain⟨b1,b2,b3⟩:=B;have ht:b1=_:=ht;subst ht;have hset:(⟨x.kind,x.pkg,x.name,x.n,ns++[(ag l a ns).1],vs++[(aL l (ad l (ag l a ns).2.1 [40]).1 1).1],wss,ps,x.pos⟩:Trm)=⟨wk,wg,wq,wz,wns,wvs,wss,wps,wpp⟩:=hset;cases hset;by_cases hb:b3.err=0
   ·rw[OB hb];have hs2:=im (l:=l) (R:=R) [[45,62]] ⟨x.kind,x.pkg,x.name,x.n,ns++[(ag l a ns).1],vs++[(aL l (ad l (ag l a ns).2.1 [40]).1 1).1],wss,ps,x.pos⟩ b2;dsimp only;generalize aD l R [[45,62]] ⟨x.kind,x.pkg,x.name,x.n,ns++[(ag l a ns).1],vs++[(aL l (ad l (ag l a ns).2.1 [40]).1 1).1],wss,ps,x.pos⟩ b2=U at hs2⊢;obtain⟨⟨uk,ug,uq,uz,uns,uvs,uss,ups,upp⟩,ua,uf⟩:=U;have hs2:(⟨x.kind,x.pkg,x.name,x.n,ns++[(ag l a ns).1],vs++[(aL l (ad l (ag l a ns).2.1 [40]).1 1).1],wss,ups,x.pos⟩:Trm)=⟨uk,ug,uq,uz,uns,uvs,uss,ups,upp⟩:=hs2;cases hs2;exact⟨rfl,hlen⟩
   ·rw[OA hb];exact⟨rfl,hlen⟩
  ·rw[rw_2 (x:=⟨x.kind,x.pkg,x.name,x.n,ns,vs,ss,ps,x.pos⟩) f1 d1];exact⟨rfl,Nat.le_succ _⟩
 ·rw[rw_1 (x:=⟨x.kind,x.pkg,x.name,x.n,ns,vs,ss,ps,x.pos⟩) f1];exact⟨rfl,Nat.le_succ _⟩
theorem HY:t4 x (dN l R a x).1.names (dN l R a x).1.vars (dN l R a x).1.shapes (dN l R a x).1.parts=(dN l R a x).1:=
 wC (l:=l) (r:=cr l R) (p:=fun y:Trm=>t4 x y.names y.vars y.shapes y.parts=y) (fun y a hy=>(Fz y a hy).1) [124] [125] (x:=x) (a:=a) (Fy x)
theorem HZ:(dN l R a x).1.shapes.length<=x.shapes.length+(l.length+2):=
 Lg (l:=l) (r:=cr l R) (m:=fun y:Trm=>y.shapes.length) (fun y a=>(Fz (x:=y) y a (Fy y)).2) [124] [125] x a
end
end Go.Pd
end
section
open Go Go.AL Go.Pd
namespace Go.AL.Seat
theorem Li(n:Nat)(l:List Tokn)(a:Int)(x:Trm)(ws:List Str)(ho:l.length<=4097/\aO l/\0<=a/\a<=(l.length:Int)/\((l.length:Int)-a).toNat+1<n+1/\x.parts.length+ws.length<=100000)(hn:x.names=[])(hv:x.vars=[])(hs:x.shapes=[])(hp:x.parts=[]) :
  let A:=(0:Int);let B:=(↑(List.length l):Int);let C:=(1:Nat);let D:=aa l n;let E:=x.kind=x.kind;let F:=x.pkg=x.pkg;let G:=x.name=x.name;let H:=x.n=x.n;let I:=x.pos=x.pos;let J:=List.length ws=List.length ws;let K:=A=A;let L:=dT UInt8=dT UInt8;let M:=True;let N:=J/\K/\L/\L/\K/\K/\K/\K/\M;let O:=(↑(List.length ws):Int);let P:=dfl Ty.str;let Q:=aD l D ws x a;(∃(x_1:Nat×Int×List Trm),(x_1.1<=List.length ws/\A<=x_1.2.1/\x_1.2.1<=B/\Int.toNat (B-x_1.2.1)+C<n+C/\List.length x_1.2.2=List.length x.parts+x_1.1/\aD l D (List.drop x_1.1 ws) (tP x x_1.2.2) x_1.2.1=aD l D ws x a)/\a=x_1.2.1/\A=(↑x_1.1:Int)/\l=l/\E/\F/\G/\H/\I/\ws=ws/\E/\F/\G/\H/\x_1.2.2=[]/\I/\List.length x_1.2.2=(0:Nat)/\N)/\∀(x_1:Nat×Int×List Trm),let R:=A<=x_1.2.1;let S:=(↑x_1.1:Int);let T:=ad l x_1.2.1 (List.getD ws (Int.toNat S) P);let U:=x_1.2.2=Q.1.parts;let V:=J/\List.length x_1.2.2=List.length Q.1.parts/\M;let W:=aa l n T.1;x_1.1<=List.length ws/\R/\x_1.2.1<=B/\Int.toNat (B-x_1.2.1)+C<n+C/\List.length x_1.2.2=List.length x.parts+x_1.1/\aD l D (List.drop x_1.1 ws) (tP x x_1.2.2) x_1.2.1=aD l D ws x a->if decide (S<O)=true then(A<=S/\S<O)/\R/\if(!decide (T.2.err=A))=true then M/\E/\F/\G/\H/\U/\I/\T.1=Q.2.1/\T.2=Q.2.2/\V else(List.length l<=(4097:Nat)/\aO l/\A<=T.1/\T.1<=B/\Int.toNat (B-T.1)+C<n)/\if(!decide (W.2.2.err=A))=true then M/\E/\F/\G/\H/\U/\I/\W.2.1=Q.2.1/\W.2.2=Q.2.2/\V else(List.length x_1.2.2=List.length x_1.2.2/\(List.length x_1.2.2+List.length [W.1])*(152:Nat)<=(140737488355328:Nat))/\inR IntKind.i64 (S+(1:Int))/\∃(y:Nat×Int×List Trm),(y.1<=List.length ws/\A<=y.2.1/\y.2.1<=B/\Int.toNat (B-y.2.1)+C<n+C/\List.length y.2.2=List.length x.parts+y.1/\aD l D (List.drop y.1 ws) (tP x y.2.2) y.2.1=aD l D ws x a)/\List.length ws-y.1<List.length ws-x_1.1/\W.2.1=y.2.1/\S+(1:Int)=(↑y.1:Int)/\l=l/\E/\F/\G/\H/\I/\ws=ws/\E/\F/\G/\H/\x_1.2.2++[W.1]=y.2.2/\I/\List.length (x_1.2.2++[W.1])=List.length y.2.2/\N else M/\E/\F/\G/\H/\U/\I/\x_1.2.1=Q.2.1/\A=Q.2.2.err/\A=Q.2.2.pos/\V:=by
 conv=>zeta
 obtain⟨g1,g2,h0,h1,hn,hl⟩:=ho;generalize hR:aD l (aa l n) ws x a=R;refine⟨⟨(0,a,x.parts),⟨OJ _,h0,h1,hn,rfl,by rw[Q0];show aD l _ ws (tP x x.parts) a=R;rw[gx];exact hR⟩,?_⟩,?_⟩
 ·repeat (first|exact trivial|refine⟨by first|rfl|trivial|assumption|(show _=_++_;rw[hs];rfl)|(show _=_++_;rw[hp];rfl)|(rw[hp];rfl)|(rw[hs];rfl)|(simp[ak,ar,tP, *];done),?_⟩)
 clear hR;rintro⟨k,A,ps⟩ ⟨i1,i2,i3,i4,i5,i6⟩;simp only[OH]at i1 i2 i3 i4 i5 i6⊢;apply a6<;>intro h
 ·have hk:k<ws.length:=by have:=Xo h;omega
  rw[aJ ws k (dfl .str) hk,aD]at i6;refine⟨⟨by omega,by omega⟩,i2,a6 (fun d=>?_) (fun d=>?_)⟩
  ·have d:¬(ad l A (ws.getD k (dfl .str))).2.err=0:=by simpa using d
   rw[OA d]at i6;subst i6
   repeat (first|exact trivial|refine⟨by first|rfl|trivial|assumption|(show _=_++_;rw[hs];rfl)|(show _=_++_;rw[hp];rfl)|(rw[hp];rfl)|(rw[hs];rfl)|(simp[ak,ar,tP, *];done),?_⟩)
  have d:(ad l A (ws.getD k (dfl .str))).2.err=0:=by simpa using d
  rw[OB d]at i6;obtain⟨w1,w2⟩:=bp d;refine⟨⟨g1,g2,by omega,by omega,by omega⟩,a6 (fun e=>?_) (fun e=>?_)⟩
  ·have e:¬(aa l n (ad l A (ws.getD k (dfl .str))).1).2.2.err=0:=by simpa using e
   rw[OA e]at i6;subst i6
   repeat (first|exact trivial|refine⟨by first|rfl|trivial|assumption|(show _=_++_;rw[hs];rfl)|(show _=_++_;rw[hp];rfl)|(rw[hp];rfl)|(rw[hs];rfl)|(simp[ak,ar,tP, *];done),?_⟩)
  have e:(aa l n (ad l A (ws.getD k (dfl .str))).1).2.2.err=0:=by simpa using e
  rw[OB e]at i6;obtain⟨s1,s2⟩:=fq g1 g2 n _ (by omega) (by omega) (by omega) e;refine⟨⟨by trivial,by simp only[OD];omega⟩,aj (by omega) (by omega),(k+1,(aa l n (ad l A (ws.getD k (dfl .str))).1).2.1,ps++[(aa l n (ad l A (ws.getD k (dfl .str))).1).1]),⟨hk,by show 0<=(aa l n _).2.1;omega,s2,by show((l.length:Int)-(aa l n _).2.1).toNat+1<n+1;omega,by show(ps++[_]).length=_;rw[OE,OD];omega,i6⟩,by show ws.length-(k+1)<_;omega,rfl,by show(k:Int)+1=((k+1:Nat):Int);omega,?_⟩
  repeat (first|exact trivial|refine⟨by first|rfl|trivial|assumption|(show _=_++_;rw[hs];rfl)|(show _=_++_;rw[hp];rfl)|(rw[hp];rfl)|(rw[hs];rfl)|(simp[ak,ar,tP, *];done),?_⟩)
 ·have hk:k=ws.length:=by have:¬(k:Int)<(ws.length:Int):=fun q=>h (Xd q);omega
  subst hk;rw[OO,aD]at i6;subst i6
  repeat (first|exact trivial|refine⟨by first|rfl|trivial|assumption|(show _=_++_;rw[hs];rfl)|(show _=_++_;rw[hp];rfl)|(rw[hp];rfl)|(rw[hs];rfl)|(simp[ak,ar,tP, *];done),?_⟩)
theorem Ed(n:Nat)(l:List Tokn)(a:Int)(x:Trm)(ws:List Str)(ho:l.length<=4097/\aO l/\0<=a/\a<=(l.length:Int)/\((l.length:Int)-a).toNat+1<n+1/\x.parts.length+ws.length<=100000)(hv:x.vars=[])(hp:x.parts=[]) :
  let A:=(0:Int);let B:=(↑(List.length l):Int);let C:=(1:Nat);let D:=aa l n;let E:=x.kind=x.kind;let F:=x.pkg=x.pkg;let G:=x.name=x.name;let H:=x.n=x.n;let I:=x.names=x.names;let J:=x.shapes=x.shapes;let K:=x.pos=x.pos;let L:=List.length x.names=List.length x.names;let M:=List.length x.shapes=List.length x.shapes;let N:=List.length ws=List.length ws;let O:=A=A;let P:=dT UInt8=dT UInt8;let Q:=True;let R:=L/\M/\N/\O/\P/\P/\O/\O/\O/\O/\Q;let S:=(↑(List.length ws):Int);let T:=dfl Ty.str;let U:=aD l D ws x a;(∃(x_1:Nat×Int×List Trm),(x_1.1<=List.length ws/\A<=x_1.2.1/\x_1.2.1<=B/\Int.toNat (B-x_1.2.1)+C<n+C/\List.length x_1.2.2=List.length x.parts+x_1.1/\aD l D (List.drop x_1.1 ws) (tP x x_1.2.2) x_1.2.1=aD l D ws x a)/\a=x_1.2.1/\A=(↑x_1.1:Int)/\l=l/\E/\F/\G/\H/\I/\J/\K/\ws=ws/\E/\F/\G/\H/\I/\J/\x_1.2.2=[]/\K/\List.length x_1.2.2=(0:Nat)/\R)/\∀(x_1:Nat×Int×List Trm),let V:=A<=x_1.2.1;let W:=(↑x_1.1:Int);let X:=ad l x_1.2.1 (List.getD ws (Int.toNat W) T);let Y:=x_1.2.2=U.1.parts;let Z:=L/\M/\N/\List.length x_1.2.2=List.length U.1.parts/\Q;let b:=aa l n X.1;x_1.1<=List.length ws/\V/\x_1.2.1<=B/\Int.toNat (B-x_1.2.1)+C<n+C/\List.length x_1.2.2=List.length x.parts+x_1.1/\aD l D (List.drop x_1.1 ws) (tP x x_1.2.2) x_1.2.1=aD l D ws x a->if decide (W<S)=true then(A<=W/\W<S)/\V/\if(!decide (X.2.err=A))=true then Q/\E/\F/\G/\H/\I/\J/\Y/\K/\X.1=U.2.1/\X.2=U.2.2/\Z else(List.length l<=(4097:Nat)/\aO l/\A<=X.1/\X.1<=B/\Int.toNat (B-X.1)+C<n)/\if(!decide (b.2.2.err=A))=true then Q/\E/\F/\G/\H/\I/\J/\Y/\K/\b.2.1=U.2.1/\b.2.2=U.2.2/\Z else(List.length x_1.2.2=List.length x_1.2.2/\(List.length x_1.2.2+List.length [b.1])*(152:Nat)<=(140737488355328:Nat))/\inR IntKind.i64 (W+(1:Int))/\∃(y:Nat×Int×List Trm),(y.1<=List.length ws/\A<=y.2.1/\y.2.1<=B/\Int.toNat (B-y.2.1)+C<n+C/\List.length y.2.2=List.length x.parts+y.1/\aD l D (List.drop y.1 ws) (tP x y.2.2) y.2.1=aD l D ws x a)/\List.length ws-y.1<List.length ws-x_1.1/\b.2.1=y.2.1/\W+(1:Int)=(↑y.1:Int)/\l=l/\E/\F/\G/\H/\I/\J/\K/\ws=ws/\E/\F/\G/\H/\I/\J/\x_1.2.2++[b.1]=y.2.2/\K/\List.length (x_1.2.2++[b.1])=List.length y.2.2/\R else Q/\E/\F/\G/\H/\I/\J/\Y/\K/\x_1.2.1=U.2.1/\A=U.2.2.err/\A=U.2.2.pos/\Z:=by
 conv=>zeta
 obtain⟨g1,g2,h0,h1,hn,hl⟩:=ho;generalize hR:aD l (aa l n) ws x a=R;refine⟨⟨(0,a,x.parts),⟨OJ _,h0,h1,hn,rfl,by rw[Q0];show aD l _ ws (tP x x.parts) a=R;rw[gx];exact hR⟩,?_⟩,?_⟩
 ·repeat (first|exact trivial|refine⟨by first|rfl|trivial|assumption|(show _=_++_;rw[hs];rfl)|(show _=_++_;rw[hp];rfl)|(rw[hp];rfl)|(rw[hs];rfl)|(simp[ak,ar,tP, *];done),?_⟩)
 clear hR;rintro⟨k,A,ps⟩ ⟨i1,i2,i3,i4,i5,i6⟩;simp only[OH]at i1 i2 i3 i4 i5 i6⊢;apply a6<;>intro h
 ·have hk:k<ws.length:=by have:=Xo h;omega
  rw[aJ ws k (dfl .str) hk,aD]at i6;refine⟨⟨by omega,by omega⟩,i2,a6 (fun d=>?_) (fun d=>?_)⟩
  ·have d:¬(ad l A (ws.getD k (dfl .str))).2.err=0:=by simpa using d
   rw[OA d]at i6;subst i6
   repeat (first|exact trivial|refine⟨by first|rfl|trivial|assumption|(show _=_++_;rw[hs];rfl)|(show _=_++_;rw[hp];rfl)|(rw[hp];rfl)|(rw[hs];rfl)|(simp[ak,ar,tP, *];done),?_⟩)
  have d:(ad l A (ws.getD k (dfl .str))).2.err=0:=by simpa using d
  rw[OB d]at i6;obtain⟨w1,w2⟩:=bp d;refine⟨⟨g1,g2,by omega,by omega,by omega⟩,a6 (fun e=>?_) (fun e=>?_)⟩
  ·have e:¬(aa l n (ad l A (ws.getD k (dfl .str))).1).2.2.err=0:=by simpa using e
   rw[OA e]at i6;subst i6
   repeat (first|exact trivial|refine⟨by first|rfl|trivial|assumption|(show _=_++_;rw[hs];rfl)|(show _=_++_;rw[hp];rfl)|(rw[hp];rfl)|(rw[hs];rfl)|(simp[ak,ar,tP, *];done),?_⟩)
  have e:(aa l n (ad l A (ws.getD k (dfl .str))).1).2.2.err=0:=by simpa using e
  rw[OB e]at i6;obtain⟨s1,s2⟩:=fq g1 g2 n _ (by omega) (by omega) (by omega) e;refine⟨⟨by trivial,by simp only[OD];omega⟩,aj (by omega) (by omega),(k+1,(aa l n (ad l A (ws.getD k (dfl .str))).1).2.1,ps++[(aa l n (ad l A (ws.getD k (dfl .str))).1).1]),⟨hk,by show 0<=(aa l n _).2.1;omega,s2,by show((l.length:Int)-(aa l n _).2.1).toNat+1<n+1;omega,by show(ps++[_]).length=_;rw[OE,OD];omega,i6⟩,by show ws.length-(k+1)<_;omega,rfl,by show(k:Int)+1=((k+1:Nat):Int);omega,?_⟩
  repeat (first|exact trivial|refine⟨by first|rfl|trivial|assumption|(show _=_++_;rw[hs];rfl)|(show _=_++_;rw[hp];rfl)|(rw[hp];rfl)|(rw[hs];rfl)|(simp[ak,ar,tP, *];done),?_⟩)
 ·have hk:k=ws.length:=by have:¬(k:Int)<(ws.length:Int):=fun q=>h (Xd q);omega
  subst hk;rw[OO,aD]at i6;subst i6
  repeat (first|exact trivial|refine⟨by first|rfl|trivial|assumption|(show _=_++_;rw[hs];rfl)|(show _=_++_;rw[hp];rfl)|(rw[hp];rfl)|(rw[hs];rfl)|(simp[ak,ar,tP, *];done),?_⟩)
theorem Ee(n:Nat)(l:List Tokn)(a:Int)(x:Trm)(ws:List Str)(ho:l.length<=4097/\aO l/\0<=a/\a<=(l.length:Int)/\((l.length:Int)-a).toNat+1<n+1/\x.parts.length+ws.length<=100000)(hv:x.vars=[])(hs:x.shapes=[]) :
  let A:=(0:Int);let B:=(↑(List.length l):Int);let C:=(1:Nat);let D:=aa l n;let E:=x.kind=x.kind;let F:=x.pkg=x.pkg;let G:=x.name=x.name;let H:=x.n=x.n;let I:=x.names=x.names;let J:=x.parts=x.parts;let K:=x.pos=x.pos;let L:=List.length x.names=List.length x.names;let M:=List.length ws=List.length ws;let N:=A=A;let O:=dT UInt8=dT UInt8;let P:=L/\M/\N/\O/\O/\N/\N/\N/\N/\True;let Q:=(↑(List.length ws):Int);let R:=dfl Ty.str;let S:=aD l D ws x a;let T:=M/\True;(∃(x_1:Nat×Int×List Trm),(x_1.1<=List.length ws/\A<=x_1.2.1/\x_1.2.1<=B/\Int.toNat (B-x_1.2.1)+C<n+C/\List.length x_1.2.2=List.length x.parts+x_1.1/\aD l D (List.drop x_1.1 ws) (tP x x_1.2.2) x_1.2.1=aD l D ws x a)/\a=x_1.2.1/\A=(↑x_1.1:Int)/\l=l/\E/\F/\G/\H/\I/\J/\K/\ws=ws/\E/\F/\G/\H/\I/\x.parts=x_1.2.2/\K/\List.length x.parts=List.length x_1.2.2/\P)/\∀(x_1:Nat×Int×List Trm),let U:=A<=x_1.2.1;let V:=(↑x_1.1:Int);let W:=ad l x_1.2.1 (List.getD ws (Int.toNat V) R);let X:=x_1.2.2=S.1.parts;let Y:=L/\List.length x_1.2.2=List.length S.1.parts/\T;let Z:=aa l n W.1;x_1.1<=List.length ws/\U/\x_1.2.1<=B/\Int.toNat (B-x_1.2.1)+C<n+C/\List.length x_1.2.2=List.length x.parts+x_1.1/\aD l D (List.drop x_1.1 ws) (tP x x_1.2.2) x_1.2.1=aD l D ws x a->if decide (V<Q)=true then(A<=V/\V<Q)/\U/\if(!decide (W.2.err=A))=true then True/\E/\F/\G/\H/\I/\X/\K/\W.1=S.2.1/\W.2=S.2.2/\Y else(List.length l<=(4097:Nat)/\aO l/\A<=W.1/\W.1<=B/\Int.toNat (B-W.1)+C<n)/\if(!decide (Z.2.2.err=A))=true then True/\E/\F/\G/\H/\I/\X/\K/\Z.2.1=S.2.1/\Z.2.2=S.2.2/\Y else(List.length x_1.2.2=List.length x_1.2.2/\(List.length x_1.2.2+List.length [Z.1])*(152:Nat)<=(140737488355328:Nat))/\inR IntKind.i64 (V+(1:Int))/\∃(y:Nat×Int×List Trm),(y.1<=List.length ws/\A<=y.2.1/\y.2.1<=B/\Int.toNat (B-y.2.1)+C<n+C/\List.length y.2.2=List.length x.parts+y.1/\aD l D (List.drop y.1 ws) (tP x y.2.2) y.2.1=aD l D ws x a)/\List.length ws-y.1<List.length ws-x_1.1/\Z.2.1=y.2.1/\V+(1:Int)=(↑y.1:Int)/\l=l/\E/\F/\G/\H/\I/\J/\K/\ws=ws/\E/\F/\G/\H/\I/\x_1.2.2++[Z.1]=y.2.2/\K/\List.length (x_1.2.2++[Z.1])=List.length y.2.2/\P else True/\E/\F/\G/\H/\I/\X/\K/\x_1.2.1=S.2.1/\A=S.2.2.err/\A=S.2.2.pos/\Y:=by
 conv=>zeta
 obtain⟨g1,g2,h0,h1,hn,hl⟩:=ho;generalize hR:aD l (aa l n) ws x a=R;refine⟨⟨(0,a,x.parts),⟨OJ _,h0,h1,hn,rfl,by rw[Q0];show aD l _ ws (tP x x.parts) a=R;rw[gx];exact hR⟩,?_⟩,?_⟩
 ·repeat (first|exact trivial|refine⟨by first|rfl|trivial|assumption|(show _=_++_;rw[hs];rfl)|(show _=_++_;rw[hp];rfl)|(rw[hp];rfl)|(rw[hs];rfl)|(simp[ak,ar,tP, *];done),?_⟩)
 clear hR;rintro⟨k,A,ps⟩ ⟨i1,i2,i3,i4,i5,i6⟩;simp only[OH]at i1 i2 i3 i4 i5 i6⊢;apply a6<;>intro h
 ·have hk:k<ws.length:=by have:=Xo h;omega
  rw[aJ ws k (dfl .str) hk,aD]at i6;refine⟨⟨by omega,by omega⟩,i2,a6 (fun d=>?_) (fun d=>?_)⟩
  ·have d:¬(ad l A (ws.getD k (dfl .str))).2.err=0:=by simpa using d
   rw[OA d]at i6;subst i6
   repeat (first|exact trivial|refine⟨by first|rfl|trivial|assumption|(show _=_++_;rw[hs];rfl)|(show _=_++_;rw[hp];rfl)|(rw[hp];rfl)|(rw[hs];rfl)|(simp[ak,ar,tP, *];done),?_⟩)
  have d:(ad l A (ws.getD k (dfl .str))).2.err=0:=by simpa using d
  rw[OB d]at i6;obtain⟨w1,w2⟩:=bp d;refine⟨⟨g1,g2,by omega,by omega,by omega⟩,a6 (fun e=>?_) (fun e=>?_)⟩
  ·have e:¬(aa l n (ad l A (ws.getD k (dfl .str))).1).2.2.err=0:=by simpa using e
   rw[OA e]at i6;subst i6
   repeat (first|exact trivial|refine⟨by first|rfl|trivial|assumption|(show _=_++_;rw[hs];rfl)|(show _=_++_;rw[hp];rfl)|(rw[hp];rfl)|(rw[hs];rfl)|(simp[ak,ar,tP, *];done),?_⟩)
  have e:(aa l n (ad l A (ws.getD k (dfl .str))).1).2.2.err=0:=by simpa using e
  rw[OB e]at i6;obtain⟨s1,s2⟩:=fq g1 g2 n _ (by omega) (by omega) (by omega) e;refine⟨⟨by trivial,by simp only[OD];omega⟩,aj (by omega) (by omega),(k+1,(aa l n (ad l A (ws.getD k (dfl .str))).1).2.1,ps++[(aa l n (ad l A (ws.getD k (dfl .str))).1).1]),⟨hk,by show 0<=(aa l n _).2.1;omega,s2,by show((l.length:Int)-(aa l n _).2.1).toNat+1<n+1;omega,by show(ps++[_]).length=_;rw[OE,OD];omega,i6⟩,by show ws.length-(k+1)<_;omega,rfl,by show(k:Int)+1=((k+1:Nat):Int);omega,?_⟩
  repeat (first|exact trivial|refine⟨by first|rfl|trivial|assumption|(show _=_++_;rw[hs];rfl)|(show _=_++_;rw[hp];rfl)|(rw[hp];rfl)|(rw[hs];rfl)|(simp[ak,ar,tP, *];done),?_⟩)
 ·have hk:k=ws.length:=by have:¬(k:Int)<(ws.length:Int):=fun q=>h (Xd q);omega
  subst hk;rw[OO,aD]at i6;subst i6
  repeat (first|exact trivial|refine⟨by first|rfl|trivial|assumption|(show _=_++_;rw[hs];rfl)|(show _=_++_;rw[hp];rfl)|(rw[hp];rfl)|(rw[hs];rfl)|(simp[ak,ar,tP, *];done),?_⟩)
theorem yy(n:Nat)(l:List Tokn)(a:Int)(x:Trm)(ws:List Str)(ho:l.length<=4097/\aO l/\0<=a/\a<=(l.length:Int)/\((l.length:Int)-a).toNat+1<n+1/\x.parts.length+ws.length<=100000) :
  let A:=(0:Int);let B:=(↑(List.length l):Int);let C:=(1:Nat);let D:=aa l n;let E:=x.kind=x.kind;let F:=x.pkg=x.pkg;let G:=x.name=x.name;let H:=x.n=x.n;let I:=x.names=x.names;let J:=x.vars=x.vars;let K:=x.shapes=x.shapes;let L:=x.parts=x.parts;let M:=x.pos=x.pos;let N:=List.length x.names=List.length x.names;let O:=List.length x.vars=List.length x.vars;let P:=List.length x.shapes=List.length x.shapes;let Q:=List.length ws=List.length ws;let R:=A=A;let S:=dT UInt8=dT UInt8;let T:=N/\O/\P/\Q/\R/\S/\S/\R/\R/\R/\R/\True;let U:=(↑(List.length ws):Int);let V:=dfl Ty.str;let W:=aD l D ws x a;let X:=Q/\True;(∃(x_1:Nat×Int×List Trm),(x_1.1<=List.length ws/\A<=x_1.2.1/\x_1.2.1<=B/\Int.toNat (B-x_1.2.1)+C<n+C/\List.length x_1.2.2=List.length x.parts+x_1.1/\aD l D (List.drop x_1.1 ws) (tP x x_1.2.2) x_1.2.1=aD l D ws x a)/\a=x_1.2.1/\A=(↑x_1.1:Int)/\l=l/\E/\F/\G/\H/\I/\J/\K/\L/\M/\ws=ws/\E/\F/\G/\H/\I/\J/\K/\x.parts=x_1.2.2/\M/\List.length x.parts=List.length x_1.2.2/\T)/\∀(x_1:Nat×Int×List Trm),let Y:=A<=x_1.2.1;let Z:=(↑x_1.1:Int);let b:=ad l x_1.2.1 (List.getD ws (Int.toNat Z) V);let c:=x_1.2.2=W.1.parts;let d:=N/\O/\P/\List.length x_1.2.2=List.length W.1.parts/\X;let e:=aa l n b.1;x_1.1<=List.length ws/\Y/\x_1.2.1<=B/\Int.toNat (B-x_1.2.1)+C<n+C/\List.length x_1.2.2=List.length x.parts+x_1.1/\aD l D (List.drop x_1.1 ws) (tP x x_1.2.2) x_1.2.1=aD l D ws x a->if decide (Z<U)=true then(A<=Z/\Z<U)/\Y/\if(!decide (b.2.err=A))=true then True/\E/\F/\G/\H/\I/\J/\K/\c/\M/\b.1=W.2.1/\b.2=W.2.2/\d else(List.length l<=(4097:Nat)/\aO l/\A<=b.1/\b.1<=B/\Int.toNat (B-b.1)+C<n)/\if(!decide (e.2.2.err=A))=true then True/\E/\F/\G/\H/\I/\J/\K/\c/\M/\e.2.1=W.2.1/\e.2.2=W.2.2/\d else(List.length x_1.2.2=List.length x_1.2.2/\(List.length x_1.2.2+List.length [e.1])*(152:Nat)<=(140737488355328:Nat))/\inR IntKind.i64 (Z+(1:Int))/\∃(y:Nat×Int×List Trm),(y.1<=List.length ws/\A<=y.2.1/\y.2.1<=B/\Int.toNat (B-y.2.1)+C<n+C/\List.length y.2.2=List.length x.parts+y.1/\aD l D (List.drop y.1 ws) (tP x y.2.2) y.2.1=aD l D ws x a)/\List.length ws-y.1<List.length ws-x_1.1/\e.2.1=y.2.1/\Z+(1:Int)=(↑y.1:Int)/\l=l/\E/\F/\G/\H/\I/\J/\K/\L/\M/\ws=ws/\E/\F/\G/\H/\I/\J/\K/\x_1.2.2++[e.1]=y.2.2/\M/\List.length (x_1.2.2++[e.1])=List.length y.2.2/\T else True/\E/\F/\G/\H/\I/\J/\K/\c/\M/\x_1.2.1=W.2.1/\A=W.2.2.err/\A=W.2.2.pos/\d:=by
 conv=>zeta
 obtain⟨g1,g2,h0,h1,hn,hl⟩:=ho;generalize hR:aD l (aa l n) ws x a=R;refine⟨⟨(0,a,x.parts),⟨OJ _,h0,h1,hn,rfl,by rw[Q0];show aD l _ ws (tP x x.parts) a=R;rw[gx];exact hR⟩,?_⟩,?_⟩
 ·repeat (first|exact trivial|refine⟨by first|rfl|trivial|assumption|(show _=_++_;rw[hs];rfl)|(show _=_++_;rw[hp];rfl)|(rw[hp];rfl)|(rw[hs];rfl)|(simp[ak,ar,tP, *];done),?_⟩)
 clear hR;rintro⟨k,A,ps⟩ ⟨i1,i2,i3,i4,i5,i6⟩;simp only[OH]at i1 i2 i3 i4 i5 i6⊢;apply a6<;>intro h
 ·have hk:k<ws.length:=by have:=Xo h;omega
  rw[aJ ws k (dfl .str) hk,aD]at i6;refine⟨⟨by omega,by omega⟩,i2,a6 (fun d=>?_) (fun d=>?_)⟩
  ·have d:¬(ad l A (ws.getD k (dfl .str))).2.err=0:=by simpa using d
   rw[OA d]at i6;subst i6
   repeat (first|exact trivial|refine⟨by first|rfl|trivial|assumption|(show _=_++_;rw[hs];rfl)|(show _=_++_;rw[hp];rfl)|(rw[hp];rfl)|(rw[hs];rfl)|(simp[ak,ar,tP, *];done),?_⟩)
  have d:(ad l A (ws.getD k (dfl .str))).2.err=0:=by simpa using d
  rw[OB d]at i6;obtain⟨w1,w2⟩:=bp d;refine⟨⟨g1,g2,by omega,by omega,by omega⟩,a6 (fun e=>?_) (fun e=>?_)⟩
  ·have e:¬(aa l n (ad l A (ws.getD k (dfl .str))).1).2.2.err=0:=by simpa using e
   rw[OA e]at i6;subst i6
   repeat (first|exact trivial|refine⟨by first|rfl|trivial|assumption|(show _=_++_;rw[hs];rfl)|(show _=_++_;rw[hp];rfl)|(rw[hp];rfl)|(rw[hs];rfl)|(simp[ak,ar,tP, *];done),?_⟩)
  have e:(aa l n (ad l A (ws.getD k (dfl .str))).1).2.2.err=0:=by simpa using e
  rw[OB e]at i6;obtain⟨s1,s2⟩:=fq g1 g2 n _ (by omega) (by omega) (by omega) e;refine⟨⟨by trivial,by simp only[OD];omega⟩,aj (by omega) (by omega),(k+1,(aa l n (ad l A (ws.getD k (dfl .str))).1).2.1,ps++[(aa l n (ad l A (ws.getD k (dfl .str))).1).1]),⟨hk,by show 0<=(aa l n _).2.1;omega,s2,by show((l.length:Int)-(aa l n _).2.1).toNat+1<n+1;omega,by show(ps++[_]).length=_;rw[OE,OD];omega,i6⟩,by show ws.length-(k+1)<_;omega,rfl,by show(k:Int)+1=((k+1:Nat):Int);omega,?_⟩
  repeat (first|exact trivial|refine⟨by first|rfl|trivial|assumption|(show _=_++_;rw[hs];rfl)|(show _=_++_;rw[hp];rfl)|(rw[hp];rfl)|(rw[hs];rfl)|(simp[ak,ar,tP, *];done),?_⟩)
 ·have hk:k=ws.length:=by have:¬(k:Int)<(ws.length:Int):=fun q=>h (Xd q);omega
  subst hk;rw[OO,aD]at i6;subst i6
  repeat (first|exact trivial|refine⟨by first|rfl|trivial|assumption|(show _=_++_;rw[hs];rfl)|(show _=_++_;rw[hp];rfl)|(rw[hp];rfl)|(rw[hs];rfl)|(simp[ak,ar,tP, *];done),?_⟩)
theorem I0(l:List Tokn)(a:Int)(x:Trm)(ft:Flt)(en:Str)(ho:l.length<=4097/\aO l/\(ft.err=0->0<=a/\a<=(l.length:Int))/\x.shapes.length<=100000)(hn:x.names=[])(hv:x.vars=[])(hs:x.shapes=[]) :
  let A:=(0:Int);let B:=x.kind=x.kind;let C:=x.pkg=x.pkg;let D:=x.name=x.name;let E:=x.n=x.n;let F:=aV l a x ft en;let G:=F.1.shapes=[];let H:=x.parts=x.parts;let I:=x.pos=x.pos;let J:=List.length x.parts=List.length x.parts;let K:=J/\List.length F.1.shapes=(0:Nat)/\True;let L:=ad l a en;let M:=dk l L.1;if(!decide (ft.err=A))=true then True/\B/\C/\D/\E/\G/\H/\I/\a=F.2.1/\ft=F.2.2/\K else A<=a/\if(!decide (L.2.err=A))=true then True/\B/\C/\D/\E/\G/\H/\I/\L.1=F.2.1/\L.2=F.2.2/\K else(List.length l<=(4097:Nat)/\aO l/\A<=L.1/\L.1<=(↑(List.length l):Int))/\List.length [M.1]*(88:Nat)<=(140737488355328:Nat)/\True/\B/\C/\D/\E/\[M.1]=F.1.shapes/\H/\I/\M.2.1=F.2.1/\M.2.2=F.2.2/\J/\List.length [M.1]=List.length F.1.shapes/\True:=by
 conv=>zeta
 obtain⟨g1,g2,hin,hl⟩:=ho;have hR:aV l a x ft en=if ft.err=0 then(if(ad l a en).2.err=0 then(ak x (dk l (ad l a en).1).1,(dk l (ad l a en).1).2.1,(dk l (ad l a en).1).2.2)else(x,(ad l a en).1,(ad l a en).2))else(x,a,ft):=rfl
 generalize aV l a x ft en=R at hR⊢;apply a6<;>intro f
 ·have f:¬ft.err=0:=by simpa using f
  rw[OA f]at hR;subst hR
  repeat (first|exact trivial|refine⟨by first|rfl|trivial|assumption|(show _=_++_;rw[hs];rfl)|(show _=_++_;rw[hp];rfl)|(rw[hp];rfl)|(rw[hs];rfl)|(simp[ak,ar,tP, *];done),?_⟩)
 have f:ft.err=0:=by simpa using f
 rw[OB f]at hR;obtain⟨h0,h1⟩:=hin f;refine⟨h0,a6 (fun d=>?_) (fun d=>?_)⟩
 ·have d:¬(ad l a en).2.err=0:=by simpa using d
  rw[OA d]at hR;subst hR
  repeat (first|exact trivial|refine⟨by first|rfl|trivial|assumption|(show _=_++_;rw[hs];rfl)|(show _=_++_;rw[hp];rfl)|(rw[hp];rfl)|(rw[hs];rfl)|(simp[ak,ar,tP, *];done),?_⟩)
 have d:(ad l a en).2.err=0:=by simpa using d
 rw[OB d]at hR;obtain⟨w1,w2⟩:=bp d;subst hR;refine⟨⟨g1,g2,by omega,by omega⟩,by first|(simp only[OD];omega)|exact⟨by trivial,by simp only[OD];omega⟩,?_⟩
 repeat (first|exact trivial|refine⟨by first|rfl|trivial|assumption|(show _=_++_;rw[hs];rfl)|(show _=_++_;rw[hp];rfl)|(rw[hp];rfl)|(rw[hs];rfl)|(simp[ak,ar,tP, *];done),?_⟩)
theorem Ef(l:List Tokn)(a:Int)(x:Trm)(ft:Flt)(en:Str)(ho:l.length<=4097/\aO l/\(ft.err=0->0<=a/\a<=(l.length:Int))/\x.shapes.length<=100000)(hv:x.vars=[])(hp:x.parts=[]) :
  let A:=(0:Int);let B:=x.kind=x.kind;let C:=x.pkg=x.pkg;let D:=x.name=x.name;let E:=x.n=x.n;let F:=x.names=x.names;let G:=aV l a x ft en;let H:=x.shapes=G.1.shapes;let I:=x.pos=x.pos;let J:=List.length x.names=List.length x.names;let K:=J/\List.length x.shapes=List.length G.1.shapes/\True;let L:=ad l a en;let M:=dk l L.1;if(!decide (ft.err=A))=true then True/\B/\C/\D/\E/\F/\H/\I/\a=G.2.1/\ft=G.2.2/\K else A<=a/\if(!decide (L.2.err=A))=true then True/\B/\C/\D/\E/\F/\H/\I/\L.1=G.2.1/\L.2=G.2.2/\K else(List.length l<=(4097:Nat)/\aO l/\A<=L.1/\L.1<=(↑(List.length l):Int))/\(List.length x.shapes=List.length x.shapes/\(List.length x.shapes+List.length [M.1])*(88:Nat)<=(140737488355328:Nat))/\True/\B/\C/\D/\E/\F/\x.shapes++[M.1]=G.1.shapes/\I/\M.2.1=G.2.1/\M.2.2=G.2.2/\J/\List.length (x.shapes++[M.1])=List.length G.1.shapes/\True:=by
 conv=>zeta
 obtain⟨g1,g2,hin,hl⟩:=ho;have hR:aV l a x ft en=if ft.err=0 then(if(ad l a en).2.err=0 then(ak x (dk l (ad l a en).1).1,(dk l (ad l a en).1).2.1,(dk l (ad l a en).1).2.2)else(x,(ad l a en).1,(ad l a en).2))else(x,a,ft):=rfl
 generalize aV l a x ft en=R at hR⊢;apply a6<;>intro f
 ·have f:¬ft.err=0:=by simpa using f
  rw[OA f]at hR;subst hR
  repeat (first|exact trivial|refine⟨by first|rfl|trivial|assumption|(show _=_++_;rw[hs];rfl)|(show _=_++_;rw[hp];rfl)|(rw[hp];rfl)|(rw[hs];rfl)|(simp[ak,ar,tP, *];done),?_⟩)
 have f:ft.err=0:=by simpa using f
 rw[OB f]at hR;obtain⟨h0,h1⟩:=hin f;refine⟨h0,a6 (fun d=>?_) (fun d=>?_)⟩
 ·have d:¬(ad l a en).2.err=0:=by simpa using d
  rw[OA d]at hR;subst hR
  repeat (first|exact trivial|refine⟨by first|rfl|trivial|assumption|(show _=_++_;rw[hs];rfl)|(show _=_++_;rw[hp];rfl)|(rw[hp];rfl)|(rw[hs];rfl)|(simp[ak,ar,tP, *];done),?_⟩)
 have d:(ad l a en).2.err=0:=by simpa using d
 rw[OB d]at hR;obtain⟨w1,w2⟩:=bp d;subst hR;refine⟨⟨g1,g2,by omega,by omega⟩,by first|(simp only[OD];omega)|exact⟨by trivial,by simp only[OD];omega⟩,?_⟩
 repeat (first|exact trivial|refine⟨by first|rfl|trivial|assumption|(show _=_++_;rw[hs];rfl)|(show _=_++_;rw[hp];rfl)|(rw[hp];rfl)|(rw[hs];rfl)|(simp[ak,ar,tP, *];done),?_⟩)
theorem yA(l:List Tokn)(a:Int)(x:Trm)(ft:Flt)(en:Str)(ho:l.length<=4097/\aO l/\(ft.err=0->0<=a/\a<=(l.length:Int))/\x.shapes.length<=100000) :
  let A:=(0:Int);let B:=x.kind=x.kind;let C:=x.pkg=x.pkg;let D:=x.name=x.name;let E:=x.n=x.n;let F:=x.names=x.names;let G:=x.vars=x.vars;let H:=aV l a x ft en;let I:=x.shapes=H.1.shapes;let J:=x.parts=x.parts;let K:=x.pos=x.pos;let L:=List.length x.names=List.length x.names;let M:=List.length x.vars=List.length x.vars;let N:=List.length x.parts=List.length x.parts/\True;let O:=L/\M/\List.length x.shapes=List.length H.1.shapes/\N;let P:=ad l a en;let Q:=dk l P.1;if(!decide (ft.err=A))=true then True/\B/\C/\D/\E/\F/\G/\I/\J/\K/\a=H.2.1/\ft=H.2.2/\O else A<=a/\if(!decide (P.2.err=A))=true then True/\B/\C/\D/\E/\F/\G/\I/\J/\K/\P.1=H.2.1/\P.2=H.2.2/\O else(List.length l<=(4097:Nat)/\aO l/\A<=P.1/\P.1<=(↑(List.length l):Int))/\(List.length x.shapes=List.length x.shapes/\(List.length x.shapes+List.length [Q.1])*(88:Nat)<=(140737488355328:Nat))/\True/\B/\C/\D/\E/\F/\G/\x.shapes++[Q.1]=H.1.shapes/\J/\K/\Q.2.1=H.2.1/\Q.2.2=H.2.2/\L/\M/\List.length (x.shapes++[Q.1])=List.length H.1.shapes/\N:=by
 conv=>zeta
 obtain⟨g1,g2,hin,hl⟩:=ho;have hR:aV l a x ft en=if ft.err=0 then(if(ad l a en).2.err=0 then(ak x (dk l (ad l a en).1).1,(dk l (ad l a en).1).2.1,(dk l (ad l a en).1).2.2)else(x,(ad l a en).1,(ad l a en).2))else(x,a,ft):=rfl
 generalize aV l a x ft en=R at hR⊢;apply a6<;>intro f
 ·have f:¬ft.err=0:=by simpa using f
  rw[OA f]at hR;subst hR
  repeat (first|exact trivial|refine⟨by first|rfl|trivial|assumption|(show _=_++_;rw[hs];rfl)|(show _=_++_;rw[hp];rfl)|(rw[hp];rfl)|(rw[hs];rfl)|(simp[ak,ar,tP, *];done),?_⟩)
 have f:ft.err=0:=by simpa using f
 rw[OB f]at hR;obtain⟨h0,h1⟩:=hin f;refine⟨h0,a6 (fun d=>?_) (fun d=>?_)⟩
 ·have d:¬(ad l a en).2.err=0:=by simpa using d
  rw[OA d]at hR;subst hR
  repeat (first|exact trivial|refine⟨by first|rfl|trivial|assumption|(show _=_++_;rw[hs];rfl)|(show _=_++_;rw[hp];rfl)|(rw[hp];rfl)|(rw[hs];rfl)|(simp[ak,ar,tP, *];done),?_⟩)
 have d:(ad l a en).2.err=0:=by simpa using d
 rw[OB d]at hR;obtain⟨w1,w2⟩:=bp d;subst hR;refine⟨⟨g1,g2,by omega,by omega⟩,by first|(simp only[OD];omega)|exact⟨by trivial,by simp only[OD];omega⟩,?_⟩
 repeat (first|exact trivial|refine⟨by first|rfl|trivial|assumption|(show _=_++_;rw[hs];rfl)|(show _=_++_;rw[hp];rfl)|(rw[hp];rfl)|(rw[hs];rfl)|(simp[ak,ar,tP, *];done),?_⟩)
theorem I1(n:Nat)(l:List Tokn)(a:Int)(x:Trm)(en:Str)(ho:l.length<=4097/\aO l/\0<=a/\a<=(l.length:Int)/\((l.length:Int)-a).toNat+1<n/\x.parts.length<=100000)(hn:x.names=[])(hv:x.vars=[])(hs:x.shapes=[])(hp:x.parts=[]) :
  let A:=(0:Int);let B:=(↑(List.length l):Int);let C:=(1:Nat);let D:=(2:Nat);let E:=cH (aa l n);let F:=([44]:Str);let G:=x.kind=x.kind;let H:=x.pkg=x.pkg;let I:=x.name=x.name;let J:=x.n=x.n;let K:=x.pos=x.pos;let L:=(0:Nat);let M:=A=A;let N:=dT UInt8=dT UInt8;let O:=True;let P:=M/\N/\N/\M/\M/\M/\M/\O;let Q:=dU l (aa l n) a x en;A<=a/\(∃(x_1:Nat×Int×List Trm×Bool),let R:=tP x x_1.2.2.1;(A<=x_1.2.1/\x_1.2.1<=B/\Int.toNat (B-x_1.2.1)+C<n/\B-x_1.2.1<(↑x_1.1:Int)/\List.length x_1.2.2.1+x_1.1=List.length x.parts+List.length l+D/\(x_1.2.2.2=false->aw l E F en x a=(R,x_1.2.1,okF)/\x_1.2.1<B)/\(x_1.2.2.2=true->aP l E F en x_1.1 (R) x_1.2.1=aw l E F en x a))/\a=x_1.2.1/\(!aG l a en)=x_1.2.2.2/\l=l/\G/\H/\I/\J/\K/\en=en/\G/\H/\I/\J/\x_1.2.2.1=[]/\K/\List.length x_1.2.2.1=L/\P)/\∀(x_1:Nat×Int×List Trm×Bool),let R:=A<=x_1.2.1;let S:=x_1.2.1<=B;let T:=Int.toNat (B-x_1.2.1)+C<n;let U:=tP x x_1.2.2.1;let V:=aa l n x_1.2.1;let W:=x_1.2.2.1=Q.1.parts;let X:=List.length x_1.2.2.1=List.length Q.1.parts/\O;let Y:=[V.1];let Z:=A<=V.2.1;let b:=!aG l V.2.1 en;let c:=ad l V.2.1 F;let d:=x_1.2.2.1++Y;let e:=if x_1.2.2.2=true then C else L;R/\S/\T/\B-x_1.2.1<(↑x_1.1:Int)/\List.length x_1.2.2.1+x_1.1=List.length x.parts+List.length l+D/\(x_1.2.2.2=false->aw l E F en x a=(U,x_1.2.1,okF)/\x_1.2.1<B)/\(x_1.2.2.2=true->aP l E F en x_1.1 (U) x_1.2.1=aw l E F en x a)->if x_1.2.2.2=true then(List.length l<=(4097:Nat)/\aO l/\R/\S/\T)/\if(!decide (V.2.2.err=A))=true then O/\G/\H/\I/\J/\W/\K/\V.2.1=Q.2.1/\V.2.2=Q.2.2/\X else(List.length x_1.2.2.1=List.length x_1.2.2.1/\(List.length x_1.2.2.1+List.length Y)*(152:Nat)<=(140737488355328:Nat))/\Z/\if b=true then Z/\if(!decide (c.2.err=A))=true then O/\G/\H/\I/\J/\x_1.2.2.1++Y=Q.1.parts/\K/\c.1=Q.2.1/\c.2=Q.2.2/\List.length d=List.length Q.1.parts/\O else ∃(y:Nat×Int×List Trm×Bool),let f:=tP x y.2.2.1;(A<=y.2.1/\y.2.1<=B/\Int.toNat (B-y.2.1)+C<n/\B-y.2.1<(↑y.1:Int)/\List.length y.2.2.1+y.1=List.length x.parts+List.length l+D/\(y.2.2.2=false->aw l E F en x a=(f,y.2.1,okF)/\y.2.1<B)/\(y.2.2.2=true->aP l E F en y.1 (f) y.2.1=aw l E F en x a))/\((y.1+if y.2.2.2=true then C else L)<x_1.1+e)/\c.1=y.2.1/\b=y.2.2.2/\l=l/\G/\H/\I/\J/\K/\en=en/\G/\H/\I/\J/\x_1.2.2.1++Y=y.2.2.1/\K/\List.length d=List.length y.2.2.1/\P else ∃(y:Nat×Int×List Trm×Bool),let f:=tP x y.2.2.1;(A<=y.2.1/\y.2.1<=B/\Int.toNat (B-y.2.1)+C<n/\B-y.2.1<(↑y.1:Int)/\List.length y.2.2.1+y.1=List.length x.parts+List.length l+D/\(y.2.2.2=false->aw l E F en x a=(f,y.2.1,okF)/\y.2.1<B)/\(y.2.2.2=true->aP l E F en y.1 (f) y.2.1=aw l E F en x a))/\((y.1+if y.2.2.2=true then C else L)<x_1.1+e)/\V.2.1=y.2.1/\b=y.2.2.2/\l=l/\G/\H/\I/\J/\K/\en=en/\G/\H/\I/\J/\x_1.2.2.1++Y=y.2.2.1/\K/\List.length d=List.length y.2.2.1/\P else inR IntKind.i64 (x_1.2.1+(1:Int))/\O/\G/\H/\I/\J/\W/\K/\x_1.2.1+(1:Int)=Q.2.1/\A=Q.2.2.err/\A=Q.2.2.pos/\X:=by
 conv=>zeta
 obtain⟨g1,g2,h0,h1,hn,hl⟩:=ho;have hG:dU l (aa l n) a x en=dM (aw l (cH (aa l n)) [44] en x a):=rfl;have hY:=oQ (l:=l) (r:=cH (aa l n)) (btw:=[44]) (en:=en) (x:=x) (a:=a);have hN:=uj (l:=l) (r:=cH (aa l n)) (btw:=[44]) (en:=en) (x:=x) (a:=a);generalize aw l (cH (aa l n)) [44] en x a=R0 at hG hY hN⊢;generalize dU l (aa l n) a x en=G at hG⊢;have hbad:∀{q:TR3},q=R0->¬q.2.2.err=0->G=q:=fun e hz=>by subst e;rw[fa hz]at hG;exact hG
 refine⟨h0,⟨(l.length+2,a,x.parts,!aG l a en),⟨h0,h1,hn,by show(l.length:Int)-a<((l.length+2:Nat):Int);omega,by show x.parts.length+(l.length+2)=_;omega,fun h=>?_,fun h=>by show aP l _ [44] en (l.length+2) (tP x x.parts) a=R0;rw[gx];exact(hN (by simpa using h)).symm⟩,?_⟩,?_⟩
 ·have h:aG l a en=true:=by simpa using h
  exact⟨by show R0=(tP x x.parts,a,okF);rw[gx];exact hY h,cg h⟩
 ·repeat (first|exact trivial|refine⟨by first|rfl|trivial|assumption|(show _=_++_;rw[hs];rfl)|(show _=_++_;rw[hp];rfl)|(rw[hp];rfl)|(rw[hs];rfl)|(simp[ak,ar,tP, *];done),?_⟩)
 rintro⟨j,A,ps,more⟩ ⟨i1,i2,i3,i4,i5,i7,i8⟩;simp only at i1 i2 i3 i4 i5 i7 i8⊢;apply a6<;>intro hm
 ·have hb:=i8 hm;obtain⟨j,rfl⟩:∃q,j=q+1:=⟨j-1,by omega⟩;refine⟨⟨g1,g2,i1,i2,i3⟩,a6 (fun d=>?_) (fun d=>?_)⟩
  ·have d:¬(aa l n A).2.2.err=0:=by simpa using d
   have e1:=NO (x:=tP x ps) d;rw[fE (by rw[e1];exact d),e1]at hb;have hG:=hbad hb d;subst hG
   repeat (first|exact trivial|refine⟨by first|rfl|trivial|assumption|(show _=_++_;rw[hs];rfl)|(show _=_++_;rw[hp];rfl)|(rw[hp];rfl)|(rw[hs];rfl)|(simp[ak,ar,tP, *];done),?_⟩)
  have d:(aa l n A).2.2.err=0:=by simpa using d
  obtain⟨s1,s2⟩:=fq g1 g2 n A i1 i2 i3 d;have e1:=NP (x:=tP x ps) d;have hlen:(ps++[(aa l n A).1]).length+j=x.parts.length+l.length+2:=by rw[OE,OD];omega
  refine⟨⟨by trivial,by simp only[OD];omega⟩,by omega,a6 (fun c=>?_) (fun c=>?_)⟩
  ·have c':¬aG l (aa l n A).2.1 en=true:=by simpa using c
   refine⟨by omega,a6 (fun d3=>?_) (fun d3=>?_)⟩
   ·have d3:¬(ad l (aa l n A).2.1 [44]).2.err=0:=by simpa using d3
    rw[kD (by rw[e1]) (by rw[e1];exact c') (by rw[e1];exact d3),e1]at hb;have hG:=hbad hb d3;subst hG
    repeat (first|exact trivial|refine⟨by first|rfl|trivial|assumption|(show _=_++_;rw[hs];rfl)|(show _=_++_;rw[hp];rfl)|(rw[hp];rfl)|(rw[hs];rfl)|(simp[ak,ar,tP, *];done),?_⟩)
   ·have d3:(ad l (aa l n A).2.1 [44]).2.err=0:=by simpa using d3
    obtain⟨w1,w2⟩:=bp d3;rw[kE (by rw[e1]) (by rw[e1];exact c') (by rw[e1];exact d3),e1]at hb;refine⟨(j,(ad l (aa l n A).2.1 [44]).1,ps++[(aa l n A).1],!aG l (aa l n A).2.1 en),⟨by show 0<=(ad l _ _).1;omega,by show(ad l _ _).1<=_;omega,by show((l.length:Int)-(ad l _ _).1).toNat+1<n;omega,by show(l.length:Int)-(ad l _ _).1<(j:Int);omega,hlen,fun h=>(by have h:=c.symm.trans h;cases h),fun _=>hb⟩,?_,rfl,rfl,?_⟩
    ·show(j+if(!aG l (aa l n A).2.1 en)=true then 1 else 0)<j+1+if more=true then 1 else 0
     rw[OB hm];split<;>omega
    ·repeat (first|exact trivial|refine⟨by first|rfl|trivial|assumption|(show _=_++_;rw[hs];rfl)|(show _=_++_;rw[hp];rfl)|(rw[hp];rfl)|(rw[hs];rfl)|(simp[ak,ar,tP, *];done),?_⟩)
  ·have c:aG l (aa l n A).2.1 en=true:=by simpa using c
   rw[nA (by rw[e1]) (by rw[e1];exact c),e1]at hb;have hlt:=cg c;refine⟨(j,(aa l n A).2.1,ps++[(aa l n A).1],!aG l (aa l n A).2.1 en),⟨by show 0<=(aa l n A).2.1;omega,s2,by show((l.length:Int)-(aa l n A).2.1).toNat+1<n;omega,by show(l.length:Int)-(aa l n A).2.1<(j:Int);omega,hlen,fun _=>⟨hb.symm,hlt⟩,fun h=>(by rw[c]at h;cases h)⟩,?_,rfl,rfl,?_⟩
   ·show(j+if(!aG l (aa l n A).2.1 en)=true then 1 else 0)<j+1+if more=true then 1 else 0
    rw[OB hm];split<;>omega
   ·repeat (first|exact trivial|refine⟨by first|rfl|trivial|assumption|(show _=_++_;rw[hs];rfl)|(show _=_++_;rw[hp];rfl)|(rw[hp];rfl)|(rw[hs];rfl)|(simp[ak,ar,tP, *];done),?_⟩)
 ·obtain⟨hR,hA⟩:=i7 (by simpa using hm);rw[hR,kF (b:=(tP x ps,A,okF)) rfl]at hG;subst hG;refine⟨aj (by omega) (by omega),?_⟩
  repeat (first|exact trivial|refine⟨by first|rfl|trivial|assumption|(show _=_++_;rw[hs];rfl)|(show _=_++_;rw[hp];rfl)|(rw[hp];rfl)|(rw[hs];rfl)|(simp[ak,ar,tP, *];done),?_⟩)
theorem Eg(n:Nat)(l:List Tokn)(a:Int)(x:Trm)(en:Str)(ho:l.length<=4097/\aO l/\0<=a/\a<=(l.length:Int)/\((l.length:Int)-a).toNat+1<n/\x.parts.length<=100000)(hn:x.names=[])(hv:x.vars=[])(hs:x.shapes=[]) :
  let A:=(0:Int);let B:=(↑(List.length l):Int);let C:=(1:Nat);let D:=(2:Nat);let E:=cH (aa l n);let F:=([44]:Str);let G:=x.kind=x.kind;let H:=x.pkg=x.pkg;let I:=x.name=x.name;let J:=x.n=x.n;let K:=x.parts=x.parts;let L:=x.pos=x.pos;let M:=A=A;let N:=dT UInt8=dT UInt8;let O:=True;let P:=M/\N/\N/\M/\M/\M/\M/\O;let Q:=dU l (aa l n) a x en;let R:=(0:Nat);A<=a/\(∃(x_1:Nat×Int×List Trm×Bool),let S:=tP x x_1.2.2.1;(A<=x_1.2.1/\x_1.2.1<=B/\Int.toNat (B-x_1.2.1)+C<n/\B-x_1.2.1<(↑x_1.1:Int)/\List.length x_1.2.2.1+x_1.1=List.length x.parts+List.length l+D/\(x_1.2.2.2=false->aw l E F en x a=(S,x_1.2.1,okF)/\x_1.2.1<B)/\(x_1.2.2.2=true->aP l E F en x_1.1 (S) x_1.2.1=aw l E F en x a))/\a=x_1.2.1/\(!aG l a en)=x_1.2.2.2/\l=l/\G/\H/\I/\J/\K/\L/\en=en/\G/\H/\I/\J/\x.parts=x_1.2.2.1/\L/\List.length x.parts=List.length x_1.2.2.1/\P)/\∀(x_1:Nat×Int×List Trm×Bool),let S:=A<=x_1.2.1;let T:=x_1.2.1<=B;let U:=Int.toNat (B-x_1.2.1)+C<n;let V:=tP x x_1.2.2.1;let W:=aa l n x_1.2.1;let X:=x_1.2.2.1=Q.1.parts;let Y:=List.length x_1.2.2.1=List.length Q.1.parts/\O;let Z:=[W.1];let b:=A<=W.2.1;let c:=!aG l W.2.1 en;let d:=ad l W.2.1 F;let e:=x_1.2.2.1++Z;let f:=if x_1.2.2.2=true then C else R;S/\T/\U/\B-x_1.2.1<(↑x_1.1:Int)/\List.length x_1.2.2.1+x_1.1=List.length x.parts+List.length l+D/\(x_1.2.2.2=false->aw l E F en x a=(V,x_1.2.1,okF)/\x_1.2.1<B)/\(x_1.2.2.2=true->aP l E F en x_1.1 (V) x_1.2.1=aw l E F en x a)->if x_1.2.2.2=true then(List.length l<=(4097:Nat)/\aO l/\S/\T/\U)/\if(!decide (W.2.2.err=A))=true then O/\G/\H/\I/\J/\X/\L/\W.2.1=Q.2.1/\W.2.2=Q.2.2/\Y else(List.length x_1.2.2.1=List.length x_1.2.2.1/\(List.length x_1.2.2.1+List.length Z)*(152:Nat)<=(140737488355328:Nat))/\b/\if c=true then b/\if(!decide (d.2.err=A))=true then O/\G/\H/\I/\J/\x_1.2.2.1++Z=Q.1.parts/\L/\d.1=Q.2.1/\d.2=Q.2.2/\List.length e=List.length Q.1.parts/\O else ∃(y:Nat×Int×List Trm×Bool),let g:=tP x y.2.2.1;(A<=y.2.1/\y.2.1<=B/\Int.toNat (B-y.2.1)+C<n/\B-y.2.1<(↑y.1:Int)/\List.length y.2.2.1+y.1=List.length x.parts+List.length l+D/\(y.2.2.2=false->aw l E F en x a=(g,y.2.1,okF)/\y.2.1<B)/\(y.2.2.2=true->aP l E F en y.1 (g) y.2.1=aw l E F en x a))/\((y.1+if y.2.2.2=true then C else R)<x_1.1+f)/\d.1=y.2.1/\c=y.2.2.2/\l=l/\G/\H/\I/\J/\K/\L/\en=en/\G/\H/\I/\J/\x_1.2.2.1++Z=y.2.2.1/\L/\List.length e=List.length y.2.2.1/\P else ∃(y:Nat×Int×List Trm×Bool),let g:=tP x y.2.2.1;(A<=y.2.1/\y.2.1<=B/\Int.toNat (B-y.2.1)+C<n/\B-y.2.1<(↑y.1:Int)/\List.length y.2.2.1+y.1=List.length x.parts+List.length l+D/\(y.2.2.2=false->aw l E F en x a=(g,y.2.1,okF)/\y.2.1<B)/\(y.2.2.2=true->aP l E F en y.1 (g) y.2.1=aw l E F en x a))/\((y.1+if y.2.2.2=true then C else R)<x_1.1+f)/\W.2.1=y.2.1/\c=y.2.2.2/\l=l/\G/\H/\I/\J/\K/\L/\en=en/\G/\H/\I/\J/\x_1.2.2.1++Z=y.2.2.1/\L/\List.length e=List.length y.2.2.1/\P else inR IntKind.i64 (x_1.2.1+(1:Int))/\O/\G/\H/\I/\J/\X/\L/\x_1.2.1+(1:Int)=Q.2.1/\A=Q.2.2.err/\A=Q.2.2.pos/\Y:=by
 conv=>zeta
 obtain⟨g1,g2,h0,h1,hn,hl⟩:=ho;have hG:dU l (aa l n) a x en=dM (aw l (cH (aa l n)) [44] en x a):=rfl;have hY:=oQ (l:=l) (r:=cH (aa l n)) (btw:=[44]) (en:=en) (x:=x) (a:=a);have hN:=uj (l:=l) (r:=cH (aa l n)) (btw:=[44]) (en:=en) (x:=x) (a:=a);generalize aw l (cH (aa l n)) [44] en x a=R0 at hG hY hN⊢;generalize dU l (aa l n) a x en=G at hG⊢;have hbad:∀{q:TR3},q=R0->¬q.2.2.err=0->G=q:=fun e hz=>by subst e;rw[fa hz]at hG;exact hG
 refine⟨h0,⟨(l.length+2,a,x.parts,!aG l a en),⟨h0,h1,hn,by show(l.length:Int)-a<((l.length+2:Nat):Int);omega,by show x.parts.length+(l.length+2)=_;omega,fun h=>?_,fun h=>by show aP l _ [44] en (l.length+2) (tP x x.parts) a=R0;rw[gx];exact(hN (by simpa using h)).symm⟩,?_⟩,?_⟩
 ·have h:aG l a en=true:=by simpa using h
  exact⟨by show R0=(tP x x.parts,a,okF);rw[gx];exact hY h,cg h⟩
 ·repeat (first|exact trivial|refine⟨by first|rfl|trivial|assumption|(show _=_++_;rw[hs];rfl)|(show _=_++_;rw[hp];rfl)|(rw[hp];rfl)|(rw[hs];rfl)|(simp[ak,ar,tP, *];done),?_⟩)
 rintro⟨j,A,ps,more⟩ ⟨i1,i2,i3,i4,i5,i7,i8⟩;simp only at i1 i2 i3 i4 i5 i7 i8⊢;apply a6<;>intro hm
 ·have hb:=i8 hm;obtain⟨j,rfl⟩:∃q,j=q+1:=⟨j-1,by omega⟩;refine⟨⟨g1,g2,i1,i2,i3⟩,a6 (fun d=>?_) (fun d=>?_)⟩
  ·have d:¬(aa l n A).2.2.err=0:=by simpa using d
   have e1:=NO (x:=tP x ps) d;rw[fE (by rw[e1];exact d),e1]at hb;have hG:=hbad hb d;subst hG
   repeat (first|exact trivial|refine⟨by first|rfl|trivial|assumption|(show _=_++_;rw[hs];rfl)|(show _=_++_;rw[hp];rfl)|(rw[hp];rfl)|(rw[hs];rfl)|(simp[ak,ar,tP, *];done),?_⟩)
  have d:(aa l n A).2.2.err=0:=by simpa using d
  obtain⟨s1,s2⟩:=fq g1 g2 n A i1 i2 i3 d;have e1:=NP (x:=tP x ps) d;have hlen:(ps++[(aa l n A).1]).length+j=x.parts.length+l.length+2:=by rw[OE,OD];omega
  refine⟨⟨by trivial,by simp only[OD];omega⟩,by omega,a6 (fun c=>?_) (fun c=>?_)⟩
  ·have c':¬aG l (aa l n A).2.1 en=true:=by simpa using c
   refine⟨by omega,a6 (fun d3=>?_) (fun d3=>?_)⟩
   ·have d3:¬(ad l (aa l n A).2.1 [44]).2.err=0:=by simpa using d3
    rw[kD (by rw[e1]) (by rw[e1];exact c') (by rw[e1];exact d3),e1]at hb;have hG:=hbad hb d3;subst hG
    repeat (first|exact trivial|refine⟨by first|rfl|trivial|assumption|(show _=_++_;rw[hs];rfl)|(show _=_++_;rw[hp];rfl)|(rw[hp];rfl)|(rw[hs];rfl)|(simp[ak,ar,tP, *];done),?_⟩)
   ·have d3:(ad l (aa l n A).2.1 [44]).2.err=0:=by simpa using d3
    obtain⟨w1,w2⟩:=bp d3;rw[kE (by rw[e1]) (by rw[e1];exact c') (by rw[e1];exact d3),e1]at hb;refine⟨(j,(ad l (aa l n A).2.1 [44]).1,ps++[(aa l n A).1],!aG l (aa l n A).2.1 en),⟨by show 0<=(ad l _ _).1;omega,by show(ad l _ _).1<=_;omega,by show((l.length:Int)-(ad l _ _).1).toNat+1<n;omega,by show(l.length:Int)-(ad l _ _).1<(j:Int);omega,hlen,fun h=>(by have h:=c.symm.trans h;cases h),fun _=>hb⟩,?_,rfl,rfl,?_⟩
    ·show(j+if(!aG l (aa l n A).2.1 en)=true then 1 else 0)<j+1+if more=true then 1 else 0
     rw[OB hm];split<;>omega
    ·repeat (first|exact trivial|refine⟨by first|rfl|trivial|assumption|(show _=_++_;rw[hs];rfl)|(show _=_++_;rw[hp];rfl)|(rw[hp];rfl)|(rw[hs];rfl)|(simp[ak,ar,tP, *];done),?_⟩)
  ·have c:aG l (aa l n A).2.1 en=true:=by simpa using c
   rw[nA (by rw[e1]) (by rw[e1];exact c),e1]at hb;have hlt:=cg c;refine⟨(j,(aa l n A).2.1,ps++[(aa l n A).1],!aG l (aa l n A).2.1 en),⟨by show 0<=(aa l n A).2.1;omega,s2,by show((l.length:Int)-(aa l n A).2.1).toNat+1<n;omega,by show(l.length:Int)-(aa l n A).2.1<(j:Int);omega,hlen,fun _=>⟨hb.symm,hlt⟩,fun h=>(by rw[c]at h;cases h)⟩,?_,rfl,rfl,?_⟩
   ·show(j+if(!aG l (aa l n A).2.1 en)=true then 1 else 0)<j+1+if more=true then 1 else 0
    rw[OB hm];split<;>omega
   ·repeat (first|exact trivial|refine⟨by first|rfl|trivial|assumption|(show _=_++_;rw[hs];rfl)|(show _=_++_;rw[hp];rfl)|(rw[hp];rfl)|(rw[hs];rfl)|(simp[ak,ar,tP, *];done),?_⟩)
 ·obtain⟨hR,hA⟩:=i7 (by simpa using hm);rw[hR,kF (b:=(tP x ps,A,okF)) rfl]at hG;subst hG;refine⟨aj (by omega) (by omega),?_⟩
  repeat (first|exact trivial|refine⟨by first|rfl|trivial|assumption|(show _=_++_;rw[hs];rfl)|(show _=_++_;rw[hp];rfl)|(rw[hp];rfl)|(rw[hs];rfl)|(simp[ak,ar,tP, *];done),?_⟩)
theorem Lj(n:Nat)(l:List Tokn)(a:Int)(x:Trm)(ho:l.length<=4097/\aO l/\0<=a/\a<=(l.length:Int)/\((l.length:Int)-a).toNat+1<n+1)(hn:x.names=[])(hv:x.vars=[])(hs:x.shapes=[])(hp:x.parts=[]) :
  let A:=(0:Int);let B:=(ad l a ([40]:Str));let C:=True;let D:=aa l n;let E:=qC l D a x;let F:=x.kind=E.1.kind;let G:=x.pkg=E.1.pkg;let H:=x.name=E.1.name;let I:=x.n=E.1.n;let J:=E.1.vars=[];let K:=E.1.parts=[];let L:=x.pos=E.1.pos;let M:=(↑(List.length l):Int);let N:=(1:Nat);let O:=(5000:Nat);let P:=dj l;let Q:=([44]:Str);let R:=([41]:Str);let S:=x.kind=x.kind;let T:=x.pkg=x.pkg;let U:=x.name=x.name;let V:=x.n=x.n;let W:=x.pos=x.pos;let X:=false=false;let Y:=(0:Nat);let Z:=A=A;let b:=dT UInt8=dT UInt8;let c:=Z/\b/\b/\Z/\Z/\Z/\Z/\B.2=B.2/\C;let d:=List.length l<=(4097:Nat);let e:=(100000:Nat);let f:=([58]:Str);let g:=(1:Int);let h:=[([45,62]:Str)];A<=a/\if(!decide (B.2.err=A))=true then C/\F/\G/\H/\I/\E.1.names=[]/\J/\E.1.shapes=[]/\K/\L/\B.1=E.2.1/\B.2=E.2.2/\C else A<=B.1/\(∃(x_1:Nat×Int×List Str×List Shape×Bool),let i:=tNS x x_1.2.2.1 x_1.2.2.2.1;(A<=x_1.2.1/\x_1.2.1<=M/\Int.toNat (M-x_1.2.1)+N<n+N/\M-x_1.2.1<(↑x_1.1:Int)/\List.length x_1.2.2.1+x_1.1<=O/\List.length x_1.2.2.2.1+x_1.1<=O/\(x_1.2.2.2.2=false->aw l P Q R x B.1=(i,x_1.2.1,okF)/\x_1.2.1<M)/\(x_1.2.2.2.2=true->aP l P Q R x_1.1 (i) x_1.2.1=aw l P Q R x B.1))/\B.1=x_1.2.1/\(!aG l B.1 R)=x_1.2.2.2.2/\l=l/\S/\T/\U/\V/\W/\X/\S/\T/\U/\V/\x_1.2.2.1=[]/\x_1.2.2.2.1=[]/\W/\List.length x_1.2.2.1=Y/\List.length x_1.2.2.2.1=Y/\c)/\∀(x_1:Nat×Int×List Str×List Shape×Bool),let i:=A<=x_1.2.1;let j:=tNS x x_1.2.2.1 x_1.2.2.2.1;let k:=ag l x_1.2.1 x_1.2.2.1;let m:=k.2.2.err=A;let o:=x_1.2.2.1=E.1.names;let p:=x_1.2.2.2.1=E.1.shapes;let q:=List.length x_1.2.2.1=List.length x_1.2.2.1;let r:=[k.1];let s:=x_1.2.2.1++r;let t:=List.length x_1.2.2.2.1=List.length x_1.2.2.2.1;let u:=(aV l k.2.1 {kind:=x.kind,pkg:=x.pkg,name:=x.name,n:=x.n,names:=x_1.2.2.1++r,vars:=[],shapes:=x_1.2.2.2.1,parts:=[],pos:=x.pos:Trm} k.2.2 f);let v:=x_1.2.2.1++r=E.1.names;let w:=u.1.shapes=E.1.shapes;let z:=A<=u.2.1;let A0:=!aG l u.2.1 R;let A1:=ad l u.2.1 Q;let A2:=if x_1.2.2.2.2=true then N else Y;let A3:=x_1.2.1+g;let A4:=(aD l D h {kind:=x.kind,pkg:=x.pkg,name:=x.name,n:=x.n,names:=x_1.2.2.1,vars:=[],shapes:=x_1.2.2.2.1,parts:=[],pos:=x.pos:Trm} A3);i/\x_1.2.1<=M/\Int.toNat (M-x_1.2.1)+N<n+N/\M-x_1.2.1<(↑x_1.1:Int)/\List.length x_1.2.2.1+x_1.1<=O/\List.length x_1.2.2.2.1+x_1.1<=O/\(x_1.2.2.2.2=false->aw l P Q R x B.1=(j,x_1.2.1,okF)/\x_1.2.1<M)/\(x_1.2.2.2.2=true->aP l P Q R x_1.1 (j) x_1.2.1=aw l P Q R x B.1)->if x_1.2.2.2.2=true then i/\if(!decide (m))=true then C/\F/\G/\H/\I/\o/\J/\p/\K/\L/\k.2.1=E.2.1/\k.2.2=E.2.2/\C else(q/\(List.length x_1.2.2.1+List.length r)*(16:Nat)<=(140737488355328:Nat))/\(d/\aO l/\(m->A<=k.2.1/\k.2.1<=M)/\List.length x_1.2.2.2.1<=e/\List.length s=List.length s/\t)/\if(!decide (u.2.2.err=A))=true then C/\F/\G/\H/\I/\v/\J/\w/\K/\L/\u.2.1=E.2.1/\u.2.2=E.2.2/\C else z/\if A0=true then z/\if(!decide (A1.2.err=A))=true then C/\F/\G/\H/\I/\v/\J/\w/\K/\L/\A1.1=E.2.1/\A1.2=E.2.2/\C else ∃(y:Nat×Int×List Str×List Shape×Bool),let A5:=tNS x y.2.2.1 y.2.2.2.1;(A<=y.2.1/\y.2.1<=M/\Int.toNat (M-y.2.1)+N<n+N/\M-y.2.1<(↑y.1:Int)/\List.length y.2.2.1+y.1<=O/\List.length y.2.2.2.1+y.1<=O/\(y.2.2.2.2=false->aw l P Q R x B.1=(A5,y.2.1,okF)/\y.2.1<M)/\(y.2.2.2.2=true->aP l P Q R y.1 (A5) y.2.1=aw l P Q R x B.1))/\((y.1+if y.2.2.2.2=true then N else Y)<x_1.1+A2)/\A1.1=y.2.1/\A0=y.2.2.2.2/\l=l/\S/\T/\U/\V/\W/\X/\S/\T/\U/\V/\x_1.2.2.1++r=y.2.2.1/\u.1.shapes=y.2.2.2.1/\W/\List.length s=List.length y.2.2.1/\List.length u.1.shapes=List.length y.2.2.2.1/\c else ∃(y:Nat×Int×List Str×List Shape×Bool),let A5:=tNS x y.2.2.1 y.2.2.2.1;(A<=y.2.1/\y.2.1<=M/\Int.toNat (M-y.2.1)+N<n+N/\M-y.2.1<(↑y.1:Int)/\List.length y.2.2.1+y.1<=O/\List.length y.2.2.2.1+y.1<=O/\(y.2.2.2.2=false->aw l P Q R x B.1=(A5,y.2.1,okF)/\y.2.1<M)/\(y.2.2.2.2=true->aP l P Q R y.1 (A5) y.2.1=aw l P Q R x B.1))/\((y.1+if y.2.2.2.2=true then N else Y)<x_1.1+A2)/\u.2.1=y.2.1/\A0=y.2.2.2.2/\l=l/\S/\T/\U/\V/\W/\X/\S/\T/\U/\V/\x_1.2.2.1++r=y.2.2.1/\u.1.shapes=y.2.2.2.1/\W/\List.length s=List.length y.2.2.1/\List.length u.1.shapes=List.length y.2.2.2.1/\c else inR IntKind.i64 A3/\(d/\aO l/\A<=x_1.2.1+g/\x_1.2.1+g<=M/\Int.toNat (M-A3)+N<n+N/\List.length ([]:List Trm)+List.length h<=e/\q/\t/\List.length h=List.length h)/\C/\F/\G/\H/\I/\o/\J/\p/\A4.1.parts=E.1.parts/\L/\A4.2.1=E.2.1/\A4.2.2=E.2.2/\C:=by
 conv=>zeta
 obtain⟨g1,g2,h0,h1,b2⟩:=ho;obtain⟨k,g,q,z,ns,vs,ss,ps,pp⟩:=x;simp only at hn hv hs hp;subst hn hv hs hp;simp only[P7]at *
 have hG:qC l (aa l n) a ⟨k,g,q,z,[],[],[],[],pp⟩=if(ad l a [40]).2.err=0 then(if(aw l (dj l) [44] [41] ⟨k,g,q,z,[],[],[],[],pp⟩ (ad l a [40]).1).2.2.err=0 then aD l (aa l n) [[45,62]] (aw l (dj l) [44] [41] ⟨k,g,q,z,[],[],[],[],pp⟩ (ad l a [40]).1).1 ((aw l (dj l) [44] [41] ⟨k,g,q,z,[],[],[],[],pp⟩ (ad l a [40]).1).2.1+1)else aw l (dj l) [44] [41] ⟨k,g,q,z,[],[],[],[],pp⟩ (ad l a [40]).1)else(⟨k,g,q,z,[],[],[],[],pp⟩,(ad l a [40]).1,(ad l a [40]).2):=rfl
 generalize qC l (aa l n) a ⟨k,g,q,z,[],[],[],[],pp⟩=G at hG⊢;refine⟨h0,a6 (fun c=>?_) (fun c=>?_)⟩
 ·have c:¬(ad l a [40]).2.err=0:=by simpa using c
  rw[OA c]at hG;subst hG
  repeat (first|exact trivial|refine⟨by first|rfl|trivial|assumption|(show _=_++_;rw[hs];rfl)|(show _=_++_;rw[hp];rfl)|(rw[hp];rfl)|(rw[hs];rfl)|(simp[ak,ar,tP, *];done),?_⟩)
 have c:(ad l a [40]).2.err=0:=by simpa using c
 rw[OB c]at hG;obtain⟨v1,v2⟩:=bp c;have hY:=oQ (l:=l) (r:=dj l) (btw:=[44]) (en:=[41]) (x:=⟨k,g,q,z,[],[],[],[],pp⟩) (a:=(ad l a [40]).1);have hN:=uj (l:=l) (r:=dj l) (btw:=[44]) (en:=[41]) (x:=⟨k,g,q,z,[],[],[],[],pp⟩) (a:=(ad l a [40]).1);generalize aw l (dj l) [44] [41] ⟨k,g,q,z,[],[],[],[],pp⟩ (ad l a [40]).1=R0 at hG hY hN⊢;have hbad:∀{q:TR3},q=R0->¬q.2.2.err=0->G=q:=fun e hz=>by subst e;rw[OA hz]at hG;exact hG
 refine⟨by omega,⟨(l.length+2,(ad l a [40]).1,[],[],!aG l (ad l a [40]).1 [41]),⟨by show 0<=(ad l a [40]).1;omega,by show(ad l a [40]).1<=_;omega,by show((l.length:Int)-(ad l a [40]).1).toNat+1<n+1;omega,by show(l.length:Int)-(ad l a [40]).1<((l.length+2:Nat):Int);omega,by show 0+(l.length+2)<=_;omega,by show 0+(l.length+2)<=_;omega,fun h=>?_,fun h=>(hN (by simpa using h)).symm⟩,?_⟩,?_⟩
 ·have h:aG l (ad l a [40]).1 [41]=true:=by simpa using h
  exact⟨hY h,cg h⟩
 ·repeat (first|exact trivial|refine⟨by first|rfl|trivial|assumption|(show _=_++_;rw[hs];rfl)|(show _=_++_;rw[hp];rfl)|(rw[hp];rfl)|(rw[hs];rfl)|(simp[ak,ar,tP, *];done),?_⟩)
 rintro⟨j,A,ns,ss,more⟩ ⟨i1,i2,i3,i4,i5,i6,i7,i8⟩;simp only at i1 i2 i3 i4 i5 i6 i7 i8⊢;apply a6<;>intro hm
 ·have hb:=i8 hm;obtain⟨j,rfl⟩:∃q,j=q+1:=⟨j-1,by omega⟩;refine⟨i1,a6 (fun f=>?_) (fun f=>?_)⟩
  ·have f1:¬(ag l A ns).2.2.err=0:=by simpa using f
   have e1:dj l (tNS ⟨k,g,q,z,[],[],[],[],pp⟩ ns ss) A=(⟨k,g,q,z,ns,[],ss,[],pp⟩,(ag l A ns).2.1,(ag l A ns).2.2):=ru_1 (x:=tNS ⟨k,g,q,z,[],[],[],[],pp⟩ ns ss) f1;rw[fE (by rw[e1];exact f1),e1]at hb;have hG:=hbad hb f1;subst hG
   repeat (first|exact trivial|refine⟨by first|rfl|trivial|assumption|(show _=_++_;rw[hs];rfl)|(show _=_++_;rw[hp];rfl)|(rw[hp];rfl)|(rw[hs];rfl)|(simp[ak,ar,tP, *];done),?_⟩)
  have f1:(ag l A ns).2.2.err=0:=by simpa using f
  obtain⟨p1,p2⟩:=lC A ns f1;simp only[Lf f1];have e1:dj l (tNS ⟨k,g,q,z,[],[],[],[],pp⟩ ns ss) A=aV l (ag l A ns).2.1 ⟨k,g,q,z,ns++[(ag l A ns).1],[],ss,[],pp⟩ okF [58]:=ru_2 (x:=tNS ⟨k,g,q,z,[],[],[],[],pp⟩ ns ss) f1;have hw:=pU g1 g2 (t:=⟨k,g,q,z,ns++[(ag l A ns).1],[],ss,[],pp⟩) (f:=okF) [58] (show 0<=(ag l A ns).2.1 by omega) (fun _=>⟨P8 _,p2⟩);have hset:=gA (l:=l) (a:=(ag l A ns).2.1) (x:=⟨k,g,q,z,ns++[(ag l A ns).1],[],ss,[],pp⟩) okF [58];have hlen:=oV (l:=l) (a:=(ag l A ns).2.1) (x:=⟨k,g,q,z,ns++[(ag l A ns).1],[],ss,[],pp⟩) okF [58];generalize aV l (ag l A ns).2.1 ⟨k,g,q,z,ns++[(ag l A ns).1],[],ss,[],pp⟩ okF [58]=W at e1 hw hset hlen⊢;obtain⟨⟨wk,wg,wq,wz,wns,wvs,wss,wps,wpp⟩,wa,wf⟩:=W;have hset:(⟨k,g,q,z,ns++[(ag l A ns).1],[],wss,[],pp⟩:Trm)=⟨wk,wg,wq,wz,wns,wvs,wss,wps,wpp⟩:=hset;cases hset;simp only at hlen;have hln:(ns++[(ag l A ns).1]).length=ns.length+1:=by rw[OE];rfl
  refine⟨⟨by trivial,by simp only[OD];omega⟩,⟨g1,g2,fun _=>⟨by omega,p2⟩,by omega,by trivial,by trivial⟩,a6 (fun d=>?_) (fun d=>?_)⟩
  ·have d:¬wf.err=0:=by simpa using d
   rw[fE (by rw[e1];exact d),e1]at hb;have hG:=hbad hb d;subst hG
   repeat (first|exact trivial|refine⟨by first|rfl|trivial|assumption|(show _=_++_;rw[hs];rfl)|(show _=_++_;rw[hp];rfl)|(rw[hp];rfl)|(rw[hs];rfl)|(simp[ak,ar,tP, *];done),?_⟩)
  have d:wf.err=0:=by simpa using d
  obtain⟨u1,u2⟩:=hw d;simp only at u1 u2;refine⟨by show 0<=wa;omega,a6 (fun c=>?_) (fun c=>?_)⟩
  ·have c':¬aG l wa [41]=true:=by simpa using c
   refine⟨by show 0<=wa;omega,a6 (fun d3=>?_) (fun d3=>?_)⟩
   ·have d3:¬(ad l wa [44]).2.err=0:=by simpa using d3
    rw[kD (by rw[e1];exact d) (by rw[e1];exact c') (by rw[e1];exact d3),e1]at hb;have hG:=hbad hb d3;subst hG
    repeat (first|exact trivial|refine⟨by first|rfl|trivial|assumption|(show _=_++_;rw[hs];rfl)|(show _=_++_;rw[hp];rfl)|(rw[hp];rfl)|(rw[hs];rfl)|(simp[ak,ar,tP, *];done),?_⟩)
   ·have d3:(ad l wa [44]).2.err=0:=by simpa using d3
    obtain⟨w1,w2⟩:=bp d3;rw[kE (by rw[e1];exact d) (by rw[e1];exact c') (by rw[e1];exact d3),e1]at hb;refine⟨(j,(ad l wa [44]).1,ns++[(ag l A ns).1],wss,!aG l wa [41]),⟨by show 0<=(ad l _ _).1;omega,by show(ad l _ _).1<=_;omega,by show((l.length:Int)-(ad l _ _).1).toNat+1<n+1;omega,by show(l.length:Int)-(ad l _ _).1<(j:Int);omega,by show(ns++[_]).length+j<=_;omega,by show wss.length+j<=_;omega,fun h=>(by have h:=c.symm.trans h;cases h),fun _=>hb⟩,?_,rfl,rfl,?_⟩
    ·show(j+if(!aG l wa [41])=true then 1 else 0)<j+1+if more=true then 1 else 0
     rw[OB hm];split<;>omega
    ·repeat (first|exact trivial|refine⟨by first|rfl|trivial|assumption|(show _=_++_;rw[hs];rfl)|(show _=_++_;rw[hp];rfl)|(rw[hp];rfl)|(rw[hs];rfl)|(simp[ak,ar,tP, *];done),?_⟩)
  ·have c:aG l wa [41]=true:=by simpa using c
   rw[nA (by rw[e1];exact d) (by rw[e1];exact c),e1]at hb;have hlt:=cg c;refine⟨(j,wa,ns++[(ag l A ns).1],wss,!aG l wa [41]),⟨by show 0<=wa;omega,u2,by show((l.length:Int)-wa).toNat+1<n+1;omega,by show(l.length:Int)-wa<(j:Int);omega,by show(ns++[_]).length+j<=_;omega,by show wss.length+j<=_;omega,fun _=>⟨hb.symm,hlt⟩,fun h=>(by rw[c]at h;cases h)⟩,?_,rfl,rfl,?_⟩
   ·show(j+if(!aG l wa [41])=true then 1 else 0)<j+1+if more=true then 1 else 0
    rw[OB hm];split<;>omega
   ·repeat (first|exact trivial|refine⟨by first|rfl|trivial|assumption|(show _=_++_;rw[hs];rfl)|(show _=_++_;rw[hp];rfl)|(rw[hp];rfl)|(rw[hs];rfl)|(simp[ak,ar,tP, *];done),?_⟩)
 ·obtain⟨hR,hA⟩:=i7 (by simpa using hm);rw[hR,OB (show okF.err=0 from rfl)]at hG;have hset:=im (l:=l) (R:=aa l n) [[45,62]] ⟨k,g,q,z,ns,[],ss,[],pp⟩ (A+1);have hG:G=aD l (aa l n) [[45,62]] ⟨k,g,q,z,ns,[],ss,[],pp⟩ (A+1):=hG;generalize aD l (aa l n) [[45,62]] ⟨k,g,q,z,ns,[],ss,[],pp⟩ (A+1)=W at hG hset⊢;obtain⟨⟨wk,wg,wq,wz,wns,wvs,wss,wps,wpp⟩,wa,wf⟩:=W;have hset:(⟨k,g,q,z,ns,[],ss,wps,pp⟩:Trm)=⟨wk,wg,wq,wz,wns,wvs,wss,wps,wpp⟩:=hset;cases hset;subst hG;refine⟨aj (by omega) (by omega),⟨g1,g2,by omega,by omega,by omega,by decide,by trivial,by trivial,by trivial⟩,?_⟩
  repeat (first|exact trivial|refine⟨by first|rfl|trivial|assumption|(show _=_++_;rw[hs];rfl)|(show _=_++_;rw[hp];rfl)|(rw[hp];rfl)|(rw[hs];rfl)|(simp[ak,ar,tP, *];done),?_⟩)
theorem I2(n:Nat)(l:List Tokn)(a:Int)(x:Trm)(ho:l.length<=4097/\aO l/\0<=a/\a<=(l.length:Int)/\((l.length:Int)-a).toNat+1<n+1/\x.parts.length<=90000)(hn:x.names=[])(hv:x.vars=[])(hs:x.shapes=[]) :
  let A:=(0:Int);let B:=(↑(List.length l):Int);let C:=(1:Nat);let D:=(5000:Nat);let E:=aa l n;let F:=cr l E;let G:=([124]:Str);let H:=([125]:Str);let I:=l=l;let J:=x.kind=x.kind;let K:=x.pkg=x.pkg;let L:=x.name=x.name;let M:=x.n=x.n;let N:=x.parts=x.parts;let O:=x.pos=x.pos;let P:=(0:Nat);let Q:=A=A;let R:=dT UInt8=dT UInt8;let S:=True;let T:=Q/\R/\R/\Q/\Q/\Q/\Q/\S;let U:=dN l E a x;let V:=(140737488355328:Nat);let W:=(1:Int);let X:=List.length l<=(4097:Nat);let Y:=(100000:Nat);let Z:=[([45,62]:Str)];let b:=List.length Z=List.length Z;A<=a/\(∃(x_1:Nat×Int×List Str×List Str×List Shape×List Trm×Bool),let c:=t4 x x_1.2.2.1 x_1.2.2.2.1 x_1.2.2.2.2.1 x_1.2.2.2.2.2.1;(A<=x_1.2.1/\x_1.2.1<=B/\Int.toNat (B-x_1.2.1)+C<n+C/\B-x_1.2.1<(↑x_1.1:Int)/\List.length x_1.2.2.1+x_1.1<=D/\List.length x_1.2.2.2.1+x_1.1<=D/\List.length x_1.2.2.2.2.1+x_1.1<=D/\List.length x_1.2.2.2.2.2.1+x_1.1<=List.length x.parts+D/\(x_1.2.2.2.2.2.2=false->aw l F G H x a=(c,x_1.2.1,okF)/\x_1.2.1<B)/\(x_1.2.2.2.2.2.2=true->aP l F G H x_1.1 (c) x_1.2.1=aw l F G H x a))/\a=x_1.2.1/\(!aG l a H)=x_1.2.2.2.2.2.2/\I/\J/\K/\L/\M/\N/\O/\J/\K/\L/\M/\x_1.2.2.1=[]/\x_1.2.2.2.1=[]/\x_1.2.2.2.2.1=[]/\x.parts=x_1.2.2.2.2.2.1/\O/\List.length x_1.2.2.1=P/\List.length x_1.2.2.2.1=P/\List.length x_1.2.2.2.2.1=P/\List.length x.parts=List.length x_1.2.2.2.2.2.1/\T)/\∀(x_1:Nat×Int×List Str×List Str×List Shape×List Trm×Bool),let c:=A<=x_1.2.1;let d:=t4 x x_1.2.2.1 x_1.2.2.2.1 x_1.2.2.2.2.1 x_1.2.2.2.2.2.1;let e:=ag l x_1.2.1 x_1.2.2.1;let f:=x_1.2.2.1=U.1.names;let g:=x_1.2.2.2.1=U.1.vars;let h:=x_1.2.2.2.2.1=U.1.shapes;let i:=x_1.2.2.2.2.2.1=U.1.parts;let j:=List.length x_1.2.2.2.2.2.1=List.length U.1.parts;let k:=List.length x_1.2.2.2.1=List.length U.1.vars/\List.length x_1.2.2.2.2.1=List.length U.1.shapes/\S;let m:=j/\List.length x_1.2.2.1=List.length U.1.names/\k;let o:=[e.1];let p:=wyN l x_1.2.1 x_1.2.2.1;let q:=x_1.2.2.1++o=U.1.names;let r:=x_1.2.2.1++o;let s:=List.length r=List.length U.1.names;let t:=wyK l x_1.2.1 x_1.2.2.1;let u:=[t.1];let v:=List.length r=List.length r;let w:=x_1.2.2.2.1++u;let z:=List.length w=List.length w;let A0:=List.length x_1.2.2.2.2.2.1=List.length x_1.2.2.2.2.2.1;let A1:=wyT l x x_1.2.1 x_1.2.2.1 x_1.2.2.2.1 x_1.2.2.2.2.1 x_1.2.2.2.2.2.1;let A2:=A<=A1.2.1;let A3:=wyM l x x_1.2.1 x_1.2.2.1 x_1.2.2.2.1 x_1.2.2.2.2.1 x_1.2.2.2.2.2.1;let A4:=x_1.2.2.2.1++u=U.1.vars;let A5:=A1.1.shapes=U.1.shapes;let A6:=s/\List.length w=List.length U.1.vars/\List.length A1.1.shapes=List.length U.1.shapes/\S;let A7:=List.length x_1.2.2.2.2.2.1+List.length Z<=Y/\v/\z/\List.length A1.1.shapes=List.length A1.1.shapes/\A0/\b;let A8:=wyR l E x x_1.2.1 x_1.2.2.1 x_1.2.2.2.1 x_1.2.2.2.2.1 x_1.2.2.2.2.2.1;let A9:=A8.1.parts=U.1.parts;let B0:=List.length A8.1.parts=List.length U.1.parts/\A6;let B1:=A<=A8.2.1;let B2:=!aG l A8.2.1 H;let B3:=ad l A8.2.1 G;let B4:=if x_1.2.2.2.2.2.2=true then C else P;let B5:=wyV l E x x_1.2.1 x_1.2.2.1 x_1.2.2.2.1 x_1.2.2.2.2.1 x_1.2.2.2.2.2.1;let B6:=B5.1.parts=U.1.parts;let B7:=List.length B5.1.parts=List.length U.1.parts/\A6;let B8:=A<=B5.2.1;let B9:=!aG l B5.2.1 H;let C0:=ad l B5.2.1 G;c/\x_1.2.1<=B/\Int.toNat (B-x_1.2.1)+C<n+C/\B-x_1.2.1<(↑x_1.1:Int)/\List.length x_1.2.2.1+x_1.1<=D/\List.length x_1.2.2.2.1+x_1.1<=D/\List.length x_1.2.2.2.2.1+x_1.1<=D/\List.length x_1.2.2.2.2.2.1+x_1.1<=List.length x.parts+D/\(x_1.2.2.2.2.2.2=false->aw l F G H x a=(d,x_1.2.1,okF)/\x_1.2.1<B)/\(x_1.2.2.2.2.2.2=true->aP l F G H x_1.1 (d) x_1.2.1=aw l F G H x a)->if x_1.2.2.2.2.2.2=true then c/\if(!decide (e.2.2.err=A))=true then S/\J/\K/\L/\M/\f/\g/\h/\i/\O/\e.2.1=U.2.1/\e.2.2=U.2.2/\m else(List.length x_1.2.2.1=List.length x_1.2.2.1/\(List.length x_1.2.2.1+List.length o)*(16:Nat)<=V)/\A<=e.2.1/\if(!decide (p.2.err=A))=true then S/\J/\K/\L/\M/\q/\g/\h/\i/\O/\p.1=U.2.1/\p.2=U.2.2/\j/\s/\k else(A<=p.1/\¬W=A)/\(List.length x_1.2.2.2.1=List.length x_1.2.2.2.1/\(List.length x_1.2.2.2.1+List.length u)*(16:Nat)<=V)/\(X/\aO l/\(t.2.2.err=A->A<=t.2.1/\t.2.1<=B)/\List.length x_1.2.2.2.2.1<=Y/\v/\z/\List.length x_1.2.2.2.2.1=List.length x_1.2.2.2.2.1/\A0)/\if decide (A1.2.2.err=A)=true then A2/\if(!decide (A3.2.err=A))=true then S/\J/\K/\L/\M/\q/\A4/\A5/\i/\O/\A3.1=U.2.1/\A3.2=U.2.2/\j/\A6 else(X/\aO l/\A<=A3.1/\A3.1<=B/\Int.toNat (B-A3.1)+C<n+C/\A7)/\if(!decide (A8.2.2.err=A))=true then S/\J/\K/\L/\M/\q/\A4/\A5/\A9/\O/\A8.2.1=U.2.1/\A8.2.2=U.2.2/\B0 else B1/\if B2=true then B1/\if(!decide (B3.2.err=A))=true then S/\J/\K/\L/\M/\q/\A4/\A5/\A9/\O/\B3.1=U.2.1/\B3.2=U.2.2/\B0 else ∃(y:Nat×Int×List Str×List Str×List Shape×List Trm×Bool),let C1:=t4 x y.2.2.1 y.2.2.2.1 y.2.2.2.2.1 y.2.2.2.2.2.1;(A<=y.2.1/\y.2.1<=B/\Int.toNat (B-y.2.1)+C<n+C/\B-y.2.1<(↑y.1:Int)/\List.length y.2.2.1+y.1<=D/\List.length y.2.2.2.1+y.1<=D/\List.length y.2.2.2.2.1+y.1<=D/\List.length y.2.2.2.2.2.1+y.1<=List.length x.parts+D/\(y.2.2.2.2.2.2=false->aw l F G H x a=(C1,y.2.1,okF)/\y.2.1<B)/\
  (y.2.2.2.2.2.2=true->aP l F G H y.1 (C1) y.2.1=aw l F G H x a))/\((y.1+if y.2.2.2.2.2.2=true then C else P)<x_1.1+B4)/\B3.1=y.2.1/\B2=y.2.2.2.2.2.2/\I/\J/\K/\L/\M/\N/\O/\J/\K/\L/\M/\x_1.2.2.1++o=y.2.2.1/\x_1.2.2.2.1++u=y.2.2.2.1/\A1.1.shapes=y.2.2.2.2.1/\A8.1.parts=y.2.2.2.2.2.1/\O/\List.length r=List.length y.2.2.1/\List.length w=List.length y.2.2.2.1/\List.length A1.1.shapes=List.length y.2.2.2.2.1/\List.length A8.1.parts=List.length y.2.2.2.2.2.1/\T else ∃(y:Nat×Int×List Str×List Str×List Shape×List Trm×Bool),let C1:=t4 x y.2.2.1 y.2.2.2.1 y.2.2.2.2.1 y.2.2.2.2.2.1;(A<=y.2.1/\y.2.1<=B/\Int.toNat (B-y.2.1)+C<n+C/\B-y.2.1<(↑y.1:Int)/\List.length y.2.2.1+y.1<=D/\List.length y.2.2.2.1+y.1<=D/\List.length y.2.2.2.2.1+y.1<=D/\List.length y.2.2.2.2.2.1+y.1<=List.length x.parts+D/\(y.2.2.2.2.2.2=false->aw l F G H x a=(C1,y.2.1,okF)/\y.2.1<B)/\(y.2.2.2.2.2.2=true->aP l F G H y.1 (C1) y.2.1=aw l F G H x a))/\((y.1+if y.2.2.2.2.2.2=true then C else P)<x_1.1+B4)/\A8.2.1=y.2.1/\B2=y.2.2.2.2.2.2/\I/\J/\K/\L/\M/\N/\O/\J/\K/\L/\M/\x_1.2.2.1++o=y.2.2.1/\x_1.2.2.2.1++u=y.2.2.2.1/\A1.1.shapes=y.2.2.2.2.1/\A8.1.parts=y.2.2.2.2.2.1/\O/\List.length r=List.length y.2.2.1/\List.length w=List.length y.2.2.2.1/\List.length A1.1.shapes=List.length y.2.2.2.2.1/\List.length A8.1.parts=List.length y.2.2.2.2.2.1/\T else if(!decide (A1.2.2.err=A))=true then S/\J/\K/\L/\M/\q/\A4/\A5/\i/\O/\A1.2.1=U.2.1/\A1.2.2=U.2.2/\j/\A6 else(X/\aO l/\A2/\A1.2.1<=B/\Int.toNat (B-A1.2.1)+C<n+C/\A7)/\if(!decide (B5.2.2.err=A))=true then S/\J/\K/\L/\M/\q/\A4/\A5/\B6/\O/\B5.2.1=U.2.1/\B5.2.2=U.2.2/\B7 else B8/\if B9=true then B8/\if(!decide (C0.2.err=A))=true then S/\J/\K/\L/\M/\q/\A4/\A5/\B6/\O/\C0.1=U.2.1/\C0.2=U.2.2/\B7 else ∃(y:Nat×Int×List Str×List Str×List Shape×List Trm×Bool),let C1:=t4 x y.2.2.1 y.2.2.2.1 y.2.2.2.2.1 y.2.2.2.2.2.1;(A<=y.2.1/\y.2.1<=B/\Int.toNat (B-y.2.1)+C<n+C/\B-y.2.1<(↑y.1:Int)/\List.length y.2.2.1+y.1<=D/\List.length y.2.2.2.1+y.1<=D/\List.length y.2.2.2.2.1+y.1<=D/\List.length y.2.2.2.2.2.1+y.1<=List.length x.parts+D/\(y.2.2.2.2.2.2=false->aw l F G H x a=(C1,y.2.1,okF)/\y.2.1<B)/\(y.2.2.2.2.2.2=true->aP l F G H y.1 (C1) y.2.1=aw l F G H x a))/\((y.1+if y.2.2.2.2.2.2=true then C else P)<x_1.1+B4)/\C0.1=y.2.1/\B9=y.2.2.2.2.2.2/\I/\J/\K/\L/\M/\N/\O/\J/\K/\L/\M/\x_1.2.2.1++o=y.2.2.1/\x_1.2.2.2.1++u=y.2.2.2.1/\A1.1.shapes=y.2.2.2.2.1/\B5.1.parts=y.2.2.2.2.2.1/\O/\List.length r=List.length y.2.2.1/\List.length w=List.length y.2.2.2.1/\List.length A1.1.shapes=List.length y.2.2.2.2.1/\List.length B5.1.parts=List.length y.2.2.2.2.2.1/\T else ∃(y:Nat×Int×List Str×List Str×List Shape×List Trm×Bool),let C1:=t4 x y.2.2.1 y.2.2.2.1 y.2.2.2.2.1 y.2.2.2.2.2.1;(A<=y.2.1/\y.2.1<=B/\Int.toNat (B-y.2.1)+C<n+C/\B-y.2.1<(↑y.1:Int)/\List.length y.2.2.1+y.1<=D/\List.length y.2.2.2.1+y.1<=D/\List.length y.2.2.2.2.1+y.1<=D/\List.length y.2.2.2.2.2.1+y.1<=List.length x.parts+D/\(y.2.2.2.2.2.2=false->aw l F G H x a=(C1,y.2.1,okF)/\y.2.1<B)/\(y.2.2.2.2.2.2=true->aP l F G H y.1 (C1) y.2.1=aw l F G H x a))/\((y.1+if y.2.2.2.2.2.2=true then C else P)<x_1.1+B4)/\B5.2.1=y.2.1/\B9=y.2.2.2.2.2.2/\I/\J/\K/\L/\M/\N/\O/\J/\K/\L/\M/\x_1.2.2.1++o=y.2.2.1/\x_1.2.2.2.1++u=y.2.2.2.1/\A1.1.shapes=y.2.2.2.2.1/\B5.1.parts=y.2.2.2.2.2.1/\O/\List.length r=List.length y.2.2.1/\List.length w=List.length y.2.2.2.1/\List.length A1.1.shapes=List.length y.2.2.2.2.1/\List.length B5.1.parts=List.length y.2.2.2.2.2.1/\T else inR IntKind.i64 (x_1.2.1+W)/\S/\J/\K/\L/\M/\f/\g/\h/\i/\O/\x_1.2.1+W=U.2.1/\A=U.2.2.err/\A=U.2.2.pos/\m:=by
 conv=>zeta
 obtain⟨g1,g2,h0,h1,b2,b3⟩:=ho;obtain⟨k,g,q,z,ns,vs,ss,xs,pp⟩:=x;simp only at hn hv hs;subst hn hv hs;simp only[P7]at *
 have hG:dN l (aa l n) a ⟨k,g,q,z,[],[],[],xs,pp⟩=dM (aw l (cr l (aa l n)) [124] [125] ⟨k,g,q,z,[],[],[],xs,pp⟩ a):=rfl;have hY:=oQ (l:=l) (r:=cr l (aa l n)) (btw:=[124]) (en:=[125]) (x:=⟨k,g,q,z,[],[],[],xs,pp⟩) (a:=a);have hN:=uj (l:=l) (r:=cr l (aa l n)) (btw:=[124]) (en:=[125]) (x:=⟨k,g,q,z,[],[],[],xs,pp⟩) (a:=a);generalize aw l (cr l (aa l n)) [124] [125] ⟨k,g,q,z,[],[],[],xs,pp⟩ a=R0 at hG hY hN⊢;generalize dN l (aa l n) a ⟨k,g,q,z,[],[],[],xs,pp⟩=G at hG⊢;have hbad:∀{q:TR3},q=R0->¬q.2.2.err=0->G=q:=fun e hz=>by subst e;rw[fa hz]at hG;exact hG
 refine⟨h0,⟨(l.length+2,a,[],[],[],xs,!aG l a [125]),⟨h0,h1,b2,by show(l.length:Int)-a<((l.length+2:Nat):Int);omega,by show 0+(l.length+2)<=_;omega,by show 0+(l.length+2)<=_;omega,by show 0+(l.length+2)<=_;omega,by show xs.length+(l.length+2)<=xs.length+5000;omega,fun h=>?_,fun h=>(hN (by simpa using h)).symm⟩,?_⟩,?_⟩
 ·have h:aG l a [125]=true:=by simpa using h
  exact⟨hY h,cg h⟩
 ·repeat (first|exact trivial|refine⟨by first|rfl|trivial|assumption|(show _=_++_;rw[hs];rfl)|(show _=_++_;rw[hp];rfl)|(rw[hp];rfl)|(rw[hs];rfl)|(simp[ak,ar,tP, *];done),?_⟩)
 rintro⟨j,A,ns,vs,ss,ps,more⟩ ⟨i1,i2,i3,i4,i5,i5v,i5s,i6,i7,i8⟩;simp only at i1 i2 i3 i4 i5 i5v i5s i6 i7 i8⊢;apply a6<;>intro hm
 ·have hb:=i8 hm;obtain⟨j,rfl⟩:∃q,j=q+1:=⟨j-1,by omega⟩;refine⟨i1,a6 (fun f=>?_) (fun f=>?_)⟩
  ·have f1:¬(ag l A ns).2.2.err=0:=by simpa using f
   have e1:cr l (aa l n) (t4 ⟨k,g,q,z,[],[],[],xs,pp⟩ ns vs ss ps) A=(⟨k,g,q,z,ns,vs,ss,ps,pp⟩,(ag l A ns).2.1,(ag l A ns).2.2):=rw_1 (x:=t4 ⟨k,g,q,z,[],[],[],xs,pp⟩ ns vs ss ps) f1;rw[fE (by rw[e1];exact f1),e1]at hb;have hG:=hbad hb f1;subst hG
   repeat (first|exact trivial|refine⟨by first|rfl|trivial|assumption|(show _=_++_;rw[hs];rfl)|(show _=_++_;rw[hp];rfl)|(rw[hp];rfl)|(rw[hs];rfl)|(simp[ak,ar,tP, *];done),?_⟩)
  have f1:(ag l A ns).2.2.err=0:=by simpa using f
  obtain⟨p1,p2⟩:=lC A ns f1;refine⟨⟨by trivial,by simp only[OD];omega⟩,by omega,a6 (fun d1=>?_) (fun d1=>?_)⟩
  ·have d1:¬(wyN l A ns).2.err=0:=by simpa using d1
   have e1:cr l (aa l n) (t4 ⟨k,g,q,z,[],[],[],xs,pp⟩ ns vs ss ps) A=(⟨k,g,q,z,ns++[(ag l A ns).1],vs,ss,ps,pp⟩,(wyN l A ns).1,(wyN l A ns).2):=rw_2 (x:=t4 ⟨k,g,q,z,[],[],[],xs,pp⟩ ns vs ss ps) f1 d1;rw[fE (by rw[e1];exact d1),e1]at hb;have hG:=hbad hb d1;subst hG
   repeat (first|exact trivial|refine⟨by first|rfl|trivial|assumption|(show _=_++_;rw[hs];rfl)|(show _=_++_;rw[hp];rfl)|(rw[hp];rfl)|(rw[hs];rfl)|(simp[ak,ar,tP, *];done),?_⟩)
  have d1:(wyN l A ns).2.err=0:=by simpa using d1
  obtain⟨v1,v2⟩:(wyN l A ns).1=(ag l A ns).2.1+1/\(ag l A ns).2.1<(l.length:Int):=bp d1;have hk:On l (wyN l A ns).1 (wyK l A ns).2.2 (wyK l A ns).2.1:=nZ (by decide) _;have hw:On l (wyN l A ns).1 (wyT l ⟨k,g,q,z,[],[],[],xs,pp⟩ A ns vs ss ps).2.2 (wyT l ⟨k,g,q,z,[],[],[],xs,pp⟩ A ns vs ss ps).2.1:=pU g1 g2 [58] (by omega) hk.wk;have hset:tS ⟨k,g,q,z,ns++[(ag l A ns).1],vs++[(wyK l A ns).1],ss,ps,pp⟩ (wyT l ⟨k,g,q,z,[],[],[],xs,pp⟩ A ns vs ss ps).1.shapes=(wyT l ⟨k,g,q,z,[],[],[],xs,pp⟩ A ns vs ss ps).1:=gA _ _;have hlen:(wyT l ⟨k,g,q,z,[],[],[],xs,pp⟩ A ns vs ss ps).1.shapes.length<=ss.length+1:=oV (x:=⟨k,g,q,z,ns++[(ag l A ns).1],vs++[(wyK l A ns).1],ss,ps,pp⟩) _ _;have e1:cr l (aa l n) (t4 ⟨k,g,q,z,[],[],[],xs,pp⟩ ns vs ss ps) A=if(cn l [41] (wyT l ⟨k,g,q,z,[],[],[],xs,pp⟩ A ns vs ss ps)).2.2.err=0 then aD l (aa l n) [[45,62]] (cn l [41] (wyT l ⟨k,g,q,z,[],[],[],xs,pp⟩ A ns vs ss ps)).1 (cn l [41] (wyT l ⟨k,g,q,z,[],[],[],xs,pp⟩ A ns vs ss ps)).2.1 else cn l [41] (wyT l ⟨k,g,q,z,[],[],[],xs,pp⟩ A ns vs ss ps):=rw_3 (x:=t4 ⟨k,g,q,z,[],[],[],xs,pp⟩ ns vs ss ps) f1 d1
  have hln:(ns++[(ag l A ns).1]).length=ns.length+1:=by rw[OE];rfl
  have hlv:(vs++[(wyK l A ns).1]).length=vs.length+1:=by rw[OE];rfl
  refine⟨⟨by omega,by decide⟩,⟨by trivial,by simp only[OD];omega⟩,⟨g1,g2,fun q=>⟨by have:=(hk q).1;omega,(hk q).2⟩,by omega,by trivial,by trivial,by trivial,by trivial⟩,?_⟩;delta wyM wyR wyV;dsimp only;generalize wyT l ⟨k,g,q,z,[],[],[],xs,pp⟩ A ns vs ss ps=W at hw hset hlen e1⊢;obtain⟨⟨wk,wg,wq,wz,wns,wvs,wss,wps,wpp⟩,wa,wf⟩:=W;have hset:(⟨k,g,q,z,ns++[(ag l A ns).1],vs++[(wyK l A ns).1],wss,ps,pp⟩:Trm)=⟨wk,wg,wq,wz,wns,wvs,wss,wps,wpp⟩:=hset;cases hset;simp only at hlen;dsimp only;apply a6<;>intro d;rotate_left
  ·have d:¬wf.err=0:=fun q=>d (Xd q);rw[gO (b:=(_,wa,wf)) d,OA d]at e1;rw[fE (by rw[e1];exact d),e1]at hb;have hG:=hbad hb d;subst hG;refine a6 (fun d'=>?_) (fun d'=>absurd (by simpa using d') d)
   repeat (first|exact trivial|refine⟨by first|rfl|trivial|assumption|(show _=_++_;rw[hs];rfl)|(show _=_++_;rw[hp];rfl)|(rw[hp];rfl)|(rw[hs];rfl)|(simp[ak,ar,tP, *];done),?_⟩)
  have dt:wf.err=0:=Xo d;obtain⟨t1,t2⟩:=hw dt;simp only at t1 t2;rw[il (b:=(_,wa,wf)) dt]at e1;simp only at e1;refine⟨by omega,a6 (fun d2=>?_) (fun d2=>?_)⟩
  ·have d2:¬(ad l wa [41]).2.err=0:=by simpa using d2
   rw[OA d2]at e1;rw[fE (by rw[e1];exact d2),e1]at hb;have hG:=hbad hb d2;subst hG
   repeat (first|exact trivial|refine⟨by first|rfl|trivial|assumption|(show _=_++_;rw[hs];rfl)|(show _=_++_;rw[hp];rfl)|(rw[hp];rfl)|(rw[hs];rfl)|(simp[ak,ar,tP, *];done),?_⟩)
  have d2:(ad l wa [41]).2.err=0:=by simpa using d2
  obtain⟨v3,v4⟩:=bp d2;rw[OB d2]at e1;clear hw;have hw:=ui (fq g1 g2 n) [45,62] [] ⟨k,g,q,z,ns++[(ag l A ns).1],vs++[(wyK l A ns).1],wss,ps,pp⟩ (ad l wa [41]).1 (by omega) (by omega) (by omega);have hset:=im (l:=l) (R:=aa l n) [[45,62]] ⟨k,g,q,z,ns++[(ag l A ns).1],vs++[(wyK l A ns).1],wss,ps,pp⟩ (ad l wa [41]).1;have hlp:=pV (l:=l) (R:=aa l n) [[45,62]] ⟨k,g,q,z,ns++[(ag l A ns).1],vs++[(wyK l A ns).1],wss,ps,pp⟩ (ad l wa [41]).1;generalize aD l (aa l n) [[45,62]] ⟨k,g,q,z,ns++[(ag l A ns).1],vs++[(wyK l A ns).1],wss,ps,pp⟩ (ad l wa [41]).1=W at e1 hw hset hlp⊢;obtain⟨⟨uk,ug,uq,uz,uns,uvs,uss,ups,upp⟩,ua,uf⟩:=W;have hset:(⟨k,g,q,z,ns++[(ag l A ns).1],vs++[(wyK l A ns).1],wss,ups,pp⟩:Trm)=⟨uk,ug,uq,uz,uns,uvs,uss,ups,upp⟩:=hset;cases hset;simp only[OP,P7]at hlp;dsimp only;refine⟨⟨g1,g2,by omega,by omega,by omega,by simp only[OD];omega,by trivial,by trivial,by trivial,by trivial,by trivial⟩,a6 (fun d3=>?_) (fun d3=>?_)⟩
  ·have d3:¬uf.err=0:=by simpa using d3
   rw[fE (by rw[e1];exact d3),e1]at hb;have hG:=hbad hb d3;subst hG
   repeat (first|exact trivial|refine⟨by first|rfl|trivial|assumption|(show _=_++_;rw[hs];rfl)|(show _=_++_;rw[hp];rfl)|(rw[hp];rfl)|(rw[hs];rfl)|(simp[ak,ar,tP, *];done),?_⟩)
  have d:uf.err=0:=by simpa using d3
  obtain⟨u1,u2⟩:=hw d;simp only at u1 u2;refine⟨by show 0<=ua;omega,a6 (fun c=>?_) (fun c=>?_)⟩
  ·have c':¬aG l ua [125]=true:=by simpa using c
   refine⟨by show 0<=ua;omega,a6 (fun d3=>?_) (fun d3=>?_)⟩
   ·have d3:¬(ad l ua [124]).2.err=0:=by simpa using d3
    rw[kD (by rw[e1];exact d) (by rw[e1];exact c') (by rw[e1];exact d3),e1]at hb;have hG:=hbad hb d3;subst hG
    repeat (first|exact trivial|refine⟨by first|rfl|trivial|assumption|(show _=_++_;rw[hs];rfl)|(show _=_++_;rw[hp];rfl)|(rw[hp];rfl)|(rw[hs];rfl)|(simp[ak,ar,tP, *];done),?_⟩)
   ·have d3:(ad l ua [124]).2.err=0:=by simpa using d3
    obtain⟨w1,w2⟩:=bp d3;rw[kE (by rw[e1];exact d) (by rw[e1];exact c') (by rw[e1];exact d3),e1]at hb;refine⟨(j,(ad l ua [124]).1,ns++[(ag l A ns).1],vs++[(wyK l A ns).1],wss,ups,!aG l ua [125]),⟨by show 0<=(ad l _ _).1;omega,by show(ad l _ _).1<=_;omega,by show((l.length:Int)-(ad l _ _).1).toNat+1<n+1;omega,by show(l.length:Int)-(ad l _ _).1<(j:Int);omega,by show(ns++[_]).length+j<=_;omega,by show(vs++[_]).length+j<=_;omega,by show wss.length+j<=_;omega,by show ups.length+j<=xs.length+5000;omega,fun h=>(by have h:=c.symm.trans h;cases h),fun _=>hb⟩,?_,rfl,rfl,?_⟩
    ·show(j+if(!aG l ua [125])=true then 1 else 0)<j+1+if more=true then 1 else 0
     rw[OB hm];split<;>omega
    ·repeat (first|exact trivial|refine⟨by first|rfl|trivial|assumption|(show _=_++_;rw[hs];rfl)|(show _=_++_;rw[hp];rfl)|(rw[hp];rfl)|(rw[hs];rfl)|(simp[ak,ar,tP, *];done),?_⟩)
  ·have c:aG l ua [125]=true:=by simpa using c
   rw[nA (by rw[e1];exact d) (by rw[e1];exact c),e1]at hb;have hlt:=cg c;refine⟨(j,ua,ns++[(ag l A ns).1],vs++[(wyK l A ns).1],wss,ups,!aG l ua [125]),⟨by show 0<=ua;omega,u2,by show((l.length:Int)-ua).toNat+1<n+1;omega,by show(l.length:Int)-ua<(j:Int);omega,by show(ns++[_]).length+j<=_;omega,by show(vs++[_]).length+j<=_;omega,by show wss.length+j<=_;omega,by show ups.length+j<=xs.length+5000;omega,fun _=>⟨hb.symm,hlt⟩,fun h=>(by rw[c]at h;cases h)⟩,?_,rfl,rfl,?_⟩
   ·show(j+if(!aG l ua [125])=true then 1 else 0)<j+1+if more=true then 1 else 0
    rw[OB hm];split<;>omega
   ·repeat (first|exact trivial|refine⟨by first|rfl|trivial|assumption|(show _=_++_;rw[hs];rfl)|(show _=_++_;rw[hp];rfl)|(rw[hp];rfl)|(rw[hs];rfl)|(simp[ak,ar,tP, *];done),?_⟩)
 ·obtain⟨hR,hA⟩:=i7 (by simpa using hm);rw[hR,kF (b:=(t4 _ ns vs ss ps,A,okF)) rfl]at hG;subst hG;refine⟨aj (by omega) (by omega),?_⟩
  repeat (first|exact trivial|refine⟨by first|rfl|trivial|assumption|(show _=_++_;rw[hs];rfl)|(show _=_++_;rw[hp];rfl)|(rw[hp];rfl)|(rw[hs];rfl)|(simp[ak,ar,tP, *];done),?_⟩)
theorem Bw(n:Nat)(l:List Tokn)(a:Int)(x:Trm)(ho:l.length<=4097/\aO l/\0<=a/\a<=(l.length:Int)/\((l.length:Int)-a).toNat+1<n+1)(hn:x.names=[])(hv:x.vars=[])(hs:x.shapes=[])(hp:x.parts=[]) :
  let A:=(0:Int);let B:=(↑(List.length l):Int);let C:=(1:Nat);let D:=(5000:Nat);let E:=aa l n;let F:=cO l E;let G:=([44]:Str);let H:=([125]:Str);let I:=x.kind=x.kind;let J:=x.pkg=x.pkg;let K:=x.name=x.name;let L:=x.n=x.n;let M:=x.pos=x.pos;let N:=(0:Nat);let O:=A=A;let P:=dT UInt8=dT UInt8;let Q:=True;let R:=O/\P/\P/\O/\O/\O/\O/\Q;let S:=gw l E a x;let T:=x.kind=S.1.kind;let U:=x.pkg=S.1.pkg;let V:=x.name=S.1.name;let W:=x.n=S.1.n;let X:=S.1.vars=[];let Y:=S.1.shapes=[];let Z:=x.pos=S.1.pos;let b:=[([61]:Str)];A<=a/\(∃(x_1:Nat×Int×List Str×List Trm×Bool),let c:=tNP x x_1.2.2.1 x_1.2.2.2.1;(A<=x_1.2.1/\x_1.2.1<=B/\Int.toNat (B-x_1.2.1)+C<n+C/\B-x_1.2.1<(↑x_1.1:Int)/\List.length x_1.2.2.1+x_1.1<=D/\List.length x_1.2.2.2.1+x_1.1<=List.length x.parts+D/\(x_1.2.2.2.2=false->aw l F G H x a=(c,x_1.2.1,okF)/\x_1.2.1<B)/\(x_1.2.2.2.2=true->aP l F G H x_1.1 (c) x_1.2.1=aw l F G H x a))/\a=x_1.2.1/\(!aG l a H)=x_1.2.2.2.2/\l=l/\I/\J/\K/\L/\M/\I/\J/\K/\L/\x_1.2.2.1=[]/\x_1.2.2.2.1=[]/\M/\List.length x_1.2.2.1=N/\List.length x_1.2.2.2.1=N/\R)/\∀(x_1:Nat×Int×List Str×List Trm×Bool),let c:=A<=x_1.2.1;let d:=tNP x x_1.2.2.1 x_1.2.2.2.1;let e:=ag l x_1.2.1 x_1.2.2.1;let f:=x_1.2.2.1=S.1.names;let g:=x_1.2.2.2.1=S.1.parts;let h:=[e.1];let i:=x_1.2.2.1++h;let j:=(aD l E b {kind:=x.kind,pkg:=x.pkg,name:=x.name,n:=x.n,names:=x_1.2.2.1++h,vars:=[],shapes:=[],parts:=x_1.2.2.2.1,pos:=x.pos:Trm} e.2.1);let k:=x_1.2.2.1++h=S.1.names;let m:=j.1.parts=S.1.parts;let o:=A<=j.2.1;let p:=!aG l j.2.1 H;let q:=ad l j.2.1 G;let r:=if x_1.2.2.2.2=true then C else N;c/\x_1.2.1<=B/\Int.toNat (B-x_1.2.1)+C<n+C/\B-x_1.2.1<(↑x_1.1:Int)/\List.length x_1.2.2.1+x_1.1<=D/\List.length x_1.2.2.2.1+x_1.1<=List.length x.parts+D/\(x_1.2.2.2.2=false->aw l F G H x a=(d,x_1.2.1,okF)/\x_1.2.1<B)/\(x_1.2.2.2.2=true->aP l F G H x_1.1 (d) x_1.2.1=aw l F G H x a)->if x_1.2.2.2.2=true then c/\if(!decide (e.2.2.err=A))=true then Q/\T/\U/\V/\W/\f/\X/\Y/\g/\Z/\e.2.1=S.2.1/\e.2.2=S.2.2/\Q else(List.length x_1.2.2.1=List.length x_1.2.2.1/\(List.length x_1.2.2.1+List.length h)*(16:Nat)<=(140737488355328:Nat))/\(List.length l<=(4097:Nat)/\aO l/\A<=e.2.1/\e.2.1<=B/\Int.toNat (B-e.2.1)+C<n+C/\List.length x_1.2.2.2.1+List.length b<=(100000:Nat)/\List.length i=List.length i/\List.length x_1.2.2.2.1=List.length x_1.2.2.2.1/\List.length b=List.length b)/\if(!decide (j.2.2.err=A))=true then Q/\T/\U/\V/\W/\k/\X/\Y/\m/\Z/\j.2.1=S.2.1/\j.2.2=S.2.2/\Q else o/\if p=true then o/\if(!decide (q.2.err=A))=true then Q/\T/\U/\V/\W/\k/\X/\Y/\m/\Z/\q.1=S.2.1/\q.2=S.2.2/\Q else ∃(y:Nat×Int×List Str×List Trm×Bool),let s:=tNP x y.2.2.1 y.2.2.2.1;(A<=y.2.1/\y.2.1<=B/\Int.toNat (B-y.2.1)+C<n+C/\B-y.2.1<(↑y.1:Int)/\List.length y.2.2.1+y.1<=D/\List.length y.2.2.2.1+y.1<=List.length x.parts+D/\(y.2.2.2.2=false->aw l F G H x a=(s,y.2.1,okF)/\y.2.1<B)/\(y.2.2.2.2=true->aP l F G H y.1 (s) y.2.1=aw l F G H x a))/\((y.1+if y.2.2.2.2=true then C else N)<x_1.1+r)/\q.1=y.2.1/\p=y.2.2.2.2/\l=l/\I/\J/\K/\L/\M/\I/\J/\K/\L/\x_1.2.2.1++h=y.2.2.1/\j.1.parts=y.2.2.2.1/\M/\List.length i=List.length y.2.2.1/\List.length j.1.parts=List.length y.2.2.2.1/\R else ∃(y:Nat×Int×List Str×List Trm×Bool),let s:=tNP x y.2.2.1 y.2.2.2.1;(A<=y.2.1/\y.2.1<=B/\Int.toNat (B-y.2.1)+C<n+C/\B-y.2.1<(↑y.1:Int)/\List.length y.2.2.1+y.1<=D/\List.length y.2.2.2.1+y.1<=List.length x.parts+D/\(y.2.2.2.2=false->aw l F G H x a=(s,y.2.1,okF)/\y.2.1<B)/\(y.2.2.2.2=true->aP l F G H y.1 (s) y.2.1=aw l F G H x a))/\((y.1+if y.2.2.2.2=true then C else N)<x_1.1+r)/\j.2.1=y.2.1/\p=y.2.2.2.2/\l=l/\I/\J/\K/\L/\M/\I/\J/\K/\L/\x_1.2.2.1++h=y.2.2.1/\j.1.parts=y.2.2.2.1/\M/\List.length i=List.length y.2.2.1/\List.length j.1.parts=List.length y.2.2.2.1/\R else inR IntKind.i64 (x_1.2.1+(1:Int))/\Q/\T/\U/\V/\W/\f/\X/\Y/\g/\Z/\x_1.2.1+(1:Int)=S.2.1/\A=S.2.2.err/\A=S.2.2.pos/\Q:=by
 conv=>zeta
 obtain⟨g1,g2,h0,h1,b2⟩:=ho;obtain⟨k,g,q,z,ns,vs,ss,ps,pp⟩:=x;simp only at hn hv hs hp;subst hn hv hs hp;simp only[P7]at *
 have hG:gw l (aa l n) a ⟨k,g,q,z,[],[],[],[],pp⟩=dM (aw l (cO l (aa l n)) [44] [125] ⟨k,g,q,z,[],[],[],[],pp⟩ a):=rfl;have hY:=oQ (l:=l) (r:=cO l (aa l n)) (btw:=[44]) (en:=[125]) (x:=⟨k,g,q,z,[],[],[],[],pp⟩) (a:=a);have hN:=uj (l:=l) (r:=cO l (aa l n)) (btw:=[44]) (en:=[125]) (x:=⟨k,g,q,z,[],[],[],[],pp⟩) (a:=a);generalize aw l (cO l (aa l n)) [44] [125] ⟨k,g,q,z,[],[],[],[],pp⟩ a=R0 at hG hY hN⊢;generalize gw l (aa l n) a ⟨k,g,q,z,[],[],[],[],pp⟩=G at hG⊢;have hbad:∀{q:TR3},q=R0->¬q.2.2.err=0->G=q:=fun e hz=>by subst e;rw[fa hz]at hG;exact hG
 refine⟨h0,⟨(l.length+2,a,[],[],!aG l a [125]),⟨h0,h1,b2,by show(l.length:Int)-a<((l.length+2:Nat):Int);omega,by show 0+(l.length+2)<=_;omega,by show 0+(l.length+2)<=0+5000;omega,fun h=>?_,fun h=>(hN (by simpa using h)).symm⟩,?_⟩,?_⟩
 ·have h:aG l a [125]=true:=by simpa using h
  exact⟨hY h,cg h⟩
 ·repeat (first|exact trivial|refine⟨by first|rfl|trivial|assumption|(show _=_++_;rw[hs];rfl)|(show _=_++_;rw[hp];rfl)|(rw[hp];rfl)|(rw[hs];rfl)|(simp[ak,ar,tP, *];done),?_⟩)
 rintro⟨j,A,ns,ps,more⟩ ⟨i1,i2,i3,i4,i5,i6,i7,i8⟩;simp only at i1 i2 i3 i4 i5 i6 i7 i8⊢;apply a6<;>intro hm
 ·have hb:=i8 hm;obtain⟨j,rfl⟩:∃q,j=q+1:=⟨j-1,by omega⟩;refine⟨i1,a6 (fun f=>?_) (fun f=>?_)⟩
  ·have f1:¬(ag l A ns).2.2.err=0:=by simpa using f
   have e1:cO l (aa l n) (tNP ⟨k,g,q,z,[],[],[],[],pp⟩ ns ps) A=(⟨k,g,q,z,ns,[],[],ps,pp⟩,(ag l A ns).2.1,(ag l A ns).2.2):=rf_1 (x:=tNP ⟨k,g,q,z,[],[],[],[],pp⟩ ns ps) f1;rw[fE (by rw[e1];exact f1),e1]at hb;have hG:=hbad hb f1;subst hG
   repeat (first|exact trivial|refine⟨by first|rfl|trivial|assumption|(show _=_++_;rw[hs];rfl)|(show _=_++_;rw[hp];rfl)|(rw[hp];rfl)|(rw[hs];rfl)|(simp[ak,ar,tP, *];done),?_⟩)
  have f1:(ag l A ns).2.2.err=0:=by simpa using f
  obtain⟨p1,p2⟩:=lC A ns f1;have e1:cO l (aa l n) (tNP ⟨k,g,q,z,[],[],[],[],pp⟩ ns ps) A=aD l (aa l n) [[61]] ⟨k,g,q,z,ns++[(ag l A ns).1],[],[],ps,pp⟩ (ag l A ns).2.1:=rf_2 (x:=tNP ⟨k,g,q,z,[],[],[],[],pp⟩ ns ps) f1;have hw:=ui (fq g1 g2 n) [61] [] ⟨k,g,q,z,ns++[(ag l A ns).1],[],[],ps,pp⟩ (ag l A ns).2.1 (by omega) p2 (by omega);have hset:=im (l:=l) (R:=aa l n) [[61]] ⟨k,g,q,z,ns++[(ag l A ns).1],[],[],ps,pp⟩ (ag l A ns).2.1;have hlen:=pV (l:=l) (R:=aa l n) [[61]] ⟨k,g,q,z,ns++[(ag l A ns).1],[],[],ps,pp⟩ (ag l A ns).2.1;generalize aD l (aa l n) [[61]] ⟨k,g,q,z,ns++[(ag l A ns).1],[],[],ps,pp⟩ (ag l A ns).2.1=W at e1 hw hset hlen⊢;obtain⟨⟨wk,wg,wq,wz,wns,wvs,wss,wps,wpp⟩,wa,wf⟩:=W;have hset:(⟨k,g,q,z,ns++[(ag l A ns).1],[],[],wps,pp⟩:Trm)=⟨wk,wg,wq,wz,wns,wvs,wss,wps,wpp⟩:=hset;cases hset;simp only[OP,P7]at hlen;have hln:(ns++[(ag l A ns).1]).length=ns.length+1:=by rw[OE];rfl
  refine⟨⟨by trivial,by simp only[OD];omega⟩,⟨g1,g2,by omega,p2,by omega,by simp only[OD];omega,by trivial,by trivial,by trivial⟩,a6 (fun d=>?_) (fun d=>?_)⟩
  ·have d:¬wf.err=0:=by simpa using d
   rw[fE (by rw[e1];exact d),e1]at hb;have hG:=hbad hb d;subst hG
   repeat (first|exact trivial|refine⟨by first|rfl|trivial|assumption|(show _=_++_;rw[hs];rfl)|(show _=_++_;rw[hp];rfl)|(rw[hp];rfl)|(rw[hs];rfl)|(simp[ak,ar,tP, *];done),?_⟩)
  have d:wf.err=0:=by simpa using d
  obtain⟨u1,u2⟩:=hw d;simp only at u1 u2;refine⟨by show 0<=wa;omega,a6 (fun c=>?_) (fun c=>?_)⟩
  ·have c':¬aG l wa [125]=true:=by simpa using c
   refine⟨by show 0<=wa;omega,a6 (fun d3=>?_) (fun d3=>?_)⟩
   ·have d3:¬(ad l wa [44]).2.err=0:=by simpa using d3
    rw[kD (by rw[e1];exact d) (by rw[e1];exact c') (by rw[e1];exact d3),e1]at hb;have hG:=hbad hb d3;subst hG
    repeat (first|exact trivial|refine⟨by first|rfl|trivial|assumption|(show _=_++_;rw[hs];rfl)|(show _=_++_;rw[hp];rfl)|(rw[hp];rfl)|(rw[hs];rfl)|(simp[ak,ar,tP, *];done),?_⟩)
   ·have d3:(ad l wa [44]).2.err=0:=by simpa using d3
    obtain⟨w1,w2⟩:=bp d3;rw[kE (by rw[e1];exact d) (by rw[e1];exact c') (by rw[e1];exact d3),e1]at hb;refine⟨(j,(ad l wa [44]).1,ns++[(ag l A ns).1],wps,!aG l wa [125]),⟨by show 0<=(ad l _ _).1;omega,by show(ad l _ _).1<=_;omega,by show((l.length:Int)-(ad l _ _).1).toNat+1<n+1;omega,by show(l.length:Int)-(ad l _ _).1<(j:Int);omega,by show(ns++[_]).length+j<=_;omega,by show wps.length+j<=_;omega,fun h=>(by have h:=c.symm.trans h;cases h),fun _=>hb⟩,?_,rfl,rfl,?_⟩
    ·show(j+if(!aG l wa [125])=true then 1 else 0)<j+1+if more=true then 1 else 0
     rw[OB hm];split<;>omega
    ·repeat (first|exact trivial|refine⟨by first|rfl|trivial|assumption|(show _=_++_;rw[hs];rfl)|(show _=_++_;rw[hp];rfl)|(rw[hp];rfl)|(rw[hs];rfl)|(simp[ak,ar,tP, *];done),?_⟩)
  ·have c:aG l wa [125]=true:=by simpa using c
   rw[nA (by rw[e1];exact d) (by rw[e1];exact c),e1]at hb;have hlt:=cg c;refine⟨(j,wa,ns++[(ag l A ns).1],wps,!aG l wa [125]),⟨by show 0<=wa;omega,u2,by show((l.length:Int)-wa).toNat+1<n+1;omega,by show(l.length:Int)-wa<(j:Int);omega,by show(ns++[_]).length+j<=_;omega,by show wps.length+j<=_;omega,fun _=>⟨hb.symm,hlt⟩,fun h=>(by rw[c]at h;cases h)⟩,?_,rfl,rfl,?_⟩
   ·show(j+if(!aG l wa [125])=true then 1 else 0)<j+1+if more=true then 1 else 0
    rw[OB hm];split<;>omega
   ·repeat (first|exact trivial|refine⟨by first|rfl|trivial|assumption|(show _=_++_;rw[hs];rfl)|(show _=_++_;rw[hp];rfl)|(rw[hp];rfl)|(rw[hs];rfl)|(simp[ak,ar,tP, *];done),?_⟩)
 ·obtain⟨hR,hA⟩:=i7 (by simpa using hm);rw[hR,kF (b:=(tNP _ ns ps,A,okF)) rfl]at hG;subst hG;refine⟨aj (by omega) (by omega),?_⟩
  repeat (first|exact trivial|refine⟨by first|rfl|trivial|assumption|(show _=_++_;rw[hs];rfl)|(show _=_++_;rw[hp];rfl)|(rw[hp];rfl)|(rw[hs];rfl)|(simp[ak,ar,tP, *];done),?_⟩)
theorem Eh(n:Nat)(l:List Tokn)(a:Int)(x:Trm)(kk:Int)(ho:l.length<=4097/\aO l/\0<=a/\a<=(l.length:Int)/\((l.length:Int)-a).toNat+1<n+1/\¬kk=0)(hn:x.names=[])(hv:x.vars=[])(hs:x.shapes=[])(hp:x.parts=[]) :
  let A:=(0:Int);let B:=aL l a kk;let C:=True;let D:=fD l (aa l n) a x kk;let E:=x.kind=D.1.kind;let F:=x.pkg=D.1.pkg;let G:=x.n=D.1.n;let H:=D.1.names=[];let I:=D.1.vars=[];let J:=D.1.shapes=[];let K:=x.pos=D.1.pos;let L:=(↑(List.length l):Int);let M:=[([40]:Str)];let N:=(aD l (aa l n) M {kind:=x.kind,pkg:=x.pkg,name:=B.1,n:=x.n,names:=[],vars:=[],shapes:=[],parts:=[],pos:=x.pos:Trm} B.2.1);let O:=B.1=D.1.name;let P:=N.1.parts=D.1.parts;let Q:=(ad l N.2.1 ([41]:Str));(A<=a/\¬kk=A)/\if(!decide (B.2.2.err=A))=true then C/\E/\F/\x.name=D.1.name/\G/\H/\I/\J/\D.1.parts=[]/\K/\B.2.1=D.2.1/\B.2.2=D.2.2/\C else(List.length l<=(4097:Nat)/\aO l/\A<=B.2.1/\B.2.1<=L/\Int.toNat (L-B.2.1)+(1:Nat)<n+(1:Nat)/\List.length ([]:List Trm)+List.length M<=(100000:Nat)/\List.length M=List.length M)/\if decide (N.2.2.err=A)=true then A<=N.2.1/\C/\E/\F/\O/\G/\H/\I/\J/\P/\K/\Q.1=D.2.1/\Q.2=D.2.2/\C else C/\E/\F/\O/\G/\H/\I/\J/\P/\K/\N.2.1=D.2.1/\N.2.2=D.2.2/\C:=by
 conv=>zeta
 obtain⟨g1,g2,b0,b1,bn,bk⟩:=ho;obtain⟨k,g,q,z,ns,vs,ss,ps,pp⟩:=x;simp only at hn hv hs hp;subst hn hv hs hp;simp only at *
 have hR:fD l (aa l n) a ⟨k,g,q,z,[],[],[],[],pp⟩ kk=if(aL l a kk).2.2.err=0 then cn l [41] (aD l (aa l n) [[40]] ⟨k,g,(aL l a kk).1,z,[],[],[],[],pp⟩ (aL l a kk).2.1)else(⟨k,g,q,z,[],[],[],[],pp⟩,(aL l a kk).2.1,(aL l a kk).2.2):=rfl
 generalize fD l (aa l n) a ⟨k,g,q,z,[],[],[],[],pp⟩ kk=G at hR⊢;refine⟨⟨b0,bk⟩,a6 (fun c=>?_) (fun c=>?_)⟩
 ·have c:¬(aL l a kk).2.2.err=0:=by simpa using c
  rw[OA c]at hR;subst hR
  repeat (first|exact trivial|refine⟨by first|rfl|trivial|assumption|(show _=_++_;rw[hs];rfl)|(show _=_++_;rw[hp];rfl)|(rw[hp];rfl)|(rw[hs];rfl)|(simp[ak,ar,tP, *];done),?_⟩)
 have c:(aL l a kk).2.2.err=0:=by simpa using c
 rw[OB c]at hR;obtain⟨p1,p2⟩:=nZ bk a c;have hw:=ui (fq g1 g2 n) [40] [] ⟨k,g,(aL l a kk).1,z,[],[],[],[],pp⟩ (aL l a kk).2.1 (by omega) p2 (by omega);have hset:=im (l:=l) (R:=aa l n) [[40]] ⟨k,g,(aL l a kk).1,z,[],[],[],[],pp⟩ (aL l a kk).2.1;generalize aD l (aa l n) [[40]] ⟨k,g,(aL l a kk).1,z,[],[],[],[],pp⟩ (aL l a kk).2.1=W at hR hw hset⊢;obtain⟨⟨wk,wg,wq,wz,wns,wvs,wss,wps,wpp⟩,wa,wf⟩:=W;have hset:(⟨k,g,(aL l a kk).1,z,[],[],[],wps,pp⟩:Trm)=⟨wk,wg,wq,wz,wns,wvs,wss,wps,wpp⟩:=hset;cases hset;refine⟨⟨g1,g2,by omega,p2,by omega,by decide,by trivial⟩,a6 (fun d=>?_) (fun d=>?_)⟩
 ·have d:wf.err=0:=Xo d;obtain⟨u1,u2⟩:=hw d;simp only at u1 u2;rw[il (b:=(_,wa,wf)) d]at hR;subst hR;refine⟨by show 0<=wa;omega,?_⟩
  repeat (first|exact trivial|refine⟨by first|rfl|trivial|assumption|(show _=_++_;rw[hs];rfl)|(show _=_++_;rw[hp];rfl)|(rw[hp];rfl)|(rw[hs];rfl)|(simp[ak,ar,tP, *];done),?_⟩)
 ·have d:¬wf.err=0:=fun q=>d (Xd q);rw[gO (b:=(_,wa,wf)) d]at hR;subst hR
  repeat (first|exact trivial|refine⟨by first|rfl|trivial|assumption|(show _=_++_;rw[hs];rfl)|(show _=_++_;rw[hp];rfl)|(rw[hp];rfl)|(rw[hs];rfl)|(simp[ak,ar,tP, *];done),?_⟩)
theorem Ei(n:Nat)(l:List Tokn)(a:Int)(x:Trm)(ho:l.length<=4097/\aO l/\0<=a/\a<=(l.length:Int)/\((l.length:Int)-a).toNat+1<n/\x=de 0 x.pos)(hn:x.names=[])(hv:x.vars=[])(hs:x.shapes=[])(hp:x.parts=[]) :
  let A:=List.length l<=(4097:Nat);let B:=(0:Int);let C:=(↑(List.length l):Int);let D:=aa l n a;let E:=D.2.2.err=B;let F:=True;let G:=ie l (aa l n) a x.pos;let H:=x.pkg=G.1.pkg;let I:=x.name=G.1.name;let J:=x.n=G.1.n;let K:=G.1.names=[];let L:=G.1.vars=[];let M:=G.1.shapes=[];let N:=x.pos=G.1.pos;let O:=B<=D.2.1;let P:=([97,115]:Str);let Q:=[D.1];let R:=(aV l D.2.1 {kind:=(15:Int),pkg:=x.pkg,name:=x.name,n:=x.n,names:=[],vars:=[],shapes:=[],parts:=Q,pos:=x.pos:Trm} D.2.2 P);let S:=(15:Int)=G.1.kind;let T:=Q=G.1.parts;let U:=(ad l R.2.1 ([41]:Str));let V:=(ad l D.2.1 ([41]:Str));(A/\aO l/\B<=a/\a<=C/\Int.toNat (C-a)+(1:Nat)<n)/\if(!decide (E))=true then F/\x.kind=G.1.kind/\H/\I/\J/\K/\L/\M/\G.1.parts=[]/\N/\D.2.1=G.2.1/\D.2.2=G.2.2/\F else O/\if aG l D.2.1 P=true then(A/\aO l/\(E->O/\D.2.1<=C)/\List.length ([]:List AL.Shape)<=(100000:Nat)/\List.length Q=List.length Q)/\if(!decide (R.2.2.err=B))=true then F/\S/\H/\I/\J/\K/\L/\M/\T/\N/\R.2.1=G.2.1/\R.2.2=G.2.2/\F else B<=R.2.1/\F/\S/\H/\I/\J/\K/\L/\R.1.shapes=G.1.shapes/\T/\N/\U.1=G.2.1/\U.2=G.2.2/\F else O/\F/\D.1=G.1/\V.1=G.2.1/\V.2=G.2.2/\F:=by
 conv=>zeta
 obtain⟨g1,g2,b0,b1,bn,bx⟩:=ho;obtain⟨k,g,q,z,ns,vs,ss,ps,pp⟩:=x;simp only at hn hv hs hp;subst hn hv hs hp;simp only at *
 obtain⟨rfl,rfl,rfl,rfl⟩:k=0/\g=[]/\q=[]/\z=0:=by have bx:(⟨k,g,q,z,[],[],[],[],pp⟩:Trm)=⟨0,[],[],0,[],[],[],[],pp⟩:=bx;cases bx;exact⟨rfl,rfl,rfl,rfl⟩
 have hR:ie l (aa l n) a pp=if(aa l n a).2.2.err=0 then
   (if aG l (aa l n a).2.1 [97,115]=true then(if(aV l (aa l n a).2.1 ⟨15,[],[],0,[],[],[],[(aa l n a).1],pp⟩ okF [97,115]).2.2.err=0 then((aV l (aa l n a).2.1 ⟨15,[],[],0,[],[],[],[(aa l n a).1],pp⟩ okF [97,115]).1,ad l (aV l (aa l n a).2.1 ⟨15,[],[],0,[],[],[],[(aa l n a).1],pp⟩ okF [97,115]).2.1 [41])else(⟨15,[],[],0,[],[],[],[(aa l n a).1],pp⟩,(aV l (aa l n a).2.1 ⟨15,[],[],0,[],[],[],[(aa l n a).1],pp⟩ okF [97,115]).2.1,(aV l (aa l n a).2.1 ⟨15,[],[],0,[],[],[],[(aa l n a).1],pp⟩ okF [97,115]).2.2))else((aa l n a).1,ad l (aa l n a).2.1 [41]))
  else(⟨0,[],[],0,[],[],[],[],pp⟩,(aa l n a).2.1,(aa l n a).2.2):=rfl
 generalize ie l (aa l n) a pp=G at hR⊢;have ht:=fq g1 g2 n a b0 b1 bn;generalize aa l n a=U at hR ht⊢;refine⟨⟨g1,g2,b0,b1,bn⟩,a6 (fun c=>?_) (fun c=>?_)⟩
 ·have c:¬U.2.2.err=0:=by simpa using c
  rw[OA c]at hR;subst hR
  repeat (first|exact trivial|refine⟨by first|rfl|trivial|assumption|(show _=_++_;rw[hs];rfl)|(show _=_++_;rw[hp];rfl)|(rw[hp];rfl)|(rw[hs];rfl)|(simp[ak,ar,tP, *];done),?_⟩)
 have c:U.2.2.err=0:=by simpa using c
 obtain⟨t1,t2⟩:=ht c;rw[OB c]at hR;refine⟨by omega,a6 (fun s=>?_) (fun s=>?_)⟩
 ·rw[OB s]at hR;have e0:∀X:Trm,aV l U.2.1 X U.2.2 [97,115]=aV l U.2.1 X okF [97,115]:=fun X=>by unfold aV;rw[OB c,OB (show okF.err=0 from rfl)]
  simp only[e0];have hw:=pU g1 g2 (t:=⟨15,[],[],0,[],[],[],[U.1],pp⟩) (f:=okF) [97,115] (by omega) (fun _=>⟨P8 U.2.1,t2⟩);have hset:=gA (l:=l) (a:=U.2.1) (x:=⟨15,[],[],0,[],[],[],[U.1],pp⟩) okF [97,115];generalize aV l U.2.1 ⟨15,[],[],0,[],[],[],[U.1],pp⟩ okF [97,115]=W at hR hw hset⊢;obtain⟨⟨wk,wg,wq,wz,wns,wvs,wss,wps,wpp⟩,wa,wf⟩:=W;have hset:(⟨15,[],[],0,[],[],wss,[U.1],pp⟩:Trm)=⟨wk,wg,wq,wz,wns,wvs,wss,wps,wpp⟩:=hset;cases hset;refine⟨⟨g1,g2,fun _=>⟨by omega,t2⟩,by decide,by trivial⟩,a6 (fun d=>?_) (fun d=>?_)⟩
  ·have d:¬wf.err=0:=by simpa using d
   rw[OA d]at hR;subst hR
   repeat (first|exact trivial|refine⟨by first|rfl|trivial|assumption|(show _=_++_;rw[hs];rfl)|(show _=_++_;rw[hp];rfl)|(rw[hp];rfl)|(rw[hs];rfl)|(simp[ak,ar,tP, *];done),?_⟩)
  ·have d:wf.err=0:=by simpa using d
   obtain⟨u1,u2⟩:=hw d;simp only at u1 u2;rw[OB d]at hR;subst hR;refine⟨by show 0<=wa;omega,?_⟩
   repeat (first|exact trivial|refine⟨by first|rfl|trivial|assumption|(show _=_++_;rw[hs];rfl)|(show _=_++_;rw[hp];rfl)|(rw[hp];rfl)|(rw[hs];rfl)|(simp[ak,ar,tP, *];done),?_⟩)
 ·rw[OA s]at hR;subst hR;refine⟨by omega,?_⟩
  repeat (first|exact trivial|refine⟨by first|rfl|trivial|assumption|(show _=_++_;rw[hs];rfl)|(show _=_++_;rw[hp];rfl)|(rw[hp];rfl)|(rw[hs];rfl)|(simp[ak,ar,tP, *];done),?_⟩)
theorem I3(n:Nat)(l:List Tokn)(a:Int)(ho:l.length<=4097/\aO l/\0<=a/\a<=(l.length:Int)/\((l.length:Int)-a).toNat+1<n+1) :
  let A:=(0:Int);let B:=A<=a;let C:=az l a;let D:=A=A;let E:=C.kind=C.kind;let F:=(1:Int);let G:=dT UInt8=dT UInt8;let H:=True;let I:=C.pos=C.pos/\D/\G/\G/\D/\D/\D/\D/\az l a=az l a/\H;let J:=(↑(List.length C.text):Int);let K:=(10:Int);let L:=(0:UInt8);let M:=(48:Int);let N:=a+F;let O:=inR IntKind.i64 N;let P:=aa l n;let Q:=gq l P a;let R:=[]=Q.1.pkg;let S:=[]=Q.1.name;let T:=Q.1.names=[];let U:=Q.1.vars=[];let V:=Q.1.shapes=[];let W:=Q.1.parts=[];let X:=C.pos=Q.1.pos;let Y:=T/\U/\V/\W/\X/\a+F=Q.2.1/\A=Q.2.2.err/\A=Q.2.2.pos/\H;let Z:=(2:Int);let b:=A=Q.1.n;let c:=R/\C.text=Q.1.name/\b/\Y;let d:=A<=a+F;let e:=(5:Int)=Q.1.kind;let f:=aL l (a+Z) F;let g:=R/\S/\b/\Y;let h:=List.length l<=(4097:Nat);let i:=aO l;let j:=(↑(List.length l):Int);let k:=a+F<=j;let m:=(1:Nat);let o:=ie l P N C.pos;let p:=Int.toNat (j-N)+m<n+m;let q:=(gw l P N {kind:=(8:Int),pkg:=[],name:=[],n:=A,names:=[],vars:=[],shapes:=[],parts:=[],pos:=C.pos:Trm});let r:=(fD l P N {kind:=K,pkg:=[],name:=[],n:=A,names:=[],vars:=[],shapes:=[],parts:=[],pos:=C.pos:Trm} F);let s:=h/\i/\d/\k/\p/\¬Z=A;let t:=(fD l P N {kind:=(16:Int),pkg:=[],name:=[],n:=A,names:=[],vars:=[],shapes:=[],parts:=[],pos:=C.pos:Trm} Z);let u:=(fD l P N {kind:=(17:Int),pkg:=[],name:=[],n:=A,names:=[],vars:=[],shapes:=[],parts:=[],pos:=C.pos:Trm} Z);B/\if decide (C.kind=(3:Int))=true then(∃(x:Nat),x<=List.length C.text/\A=(↑x:Int)/\l=l/\a=a/\D/\E/\true=true/\F=F/\G/\G/\A=ei (List.take x C.text)/\I)/\∀(x:Nat),let v:=(↑x:Int);let w:=List.take x C.text;let z:=((↑(UInt8.toNat (List.getD C.text (Int.toNat v) L)):Int)-M);x<=List.length C.text->if decide (v<J)=true then inR IntKind.i64 (K*ei w)/\(A<=v/\v<J)/\inR IntKind.u8 z/\inR IntKind.i64 z/\inR IntKind.i64 (K*ei w+z)/\inR IntKind.i64 (v+F)/\∃(y:Nat),y<=List.length C.text/\List.length C.text-y<List.length C.text-x/\v+F=(↑y:Int)/\l=l/\a=a/\D/\E/\true=true/\F=F/\G/\G/\K*ei w+z=ei (List.take y C.text)/\I else O/\H/\F=Q.1.kind/\R/\S/\ei w=Q.1.n/\Y else if decide (C.kind=(4:Int))=true then O/\H/\Z=Q.1.kind/\c else if decide (C.kind=F)=true then O/\d/\if(!aG l N ([47]:Str))=true then O/\H/\e/\c else inR IntKind.i64 (a+Z)/\(A<=a+Z/\¬F=A)/\H/\e/\C.text=Q.1.pkg/\f.1=Q.1.name/\b/\T/\U/\V/\W/\X/\f.2.1=Q.2.1/\f.2.2=Q.2.2/\H else B/\if aG l a ([116,114,117,101]:Str)=true then O/\H/\(3:Int)=Q.1.kind/\g else B/\if aG l a ([102,97,108,115,101]:Str)=true then O/\H/\(4:Int)=Q.1.kind/\g else B/\if aG l a ([40]:Str)=true then O/\(h/\i/\d/\k/\Int.toNat (j-N)+m<n/\{kind:=A,pkg:=[],name:=[],n:=A,names:=[],vars:=[],shapes:=[],parts:=[],pos:=C.pos:Trm}=de A C.pos)/\H/\o.1=Q.1/\o.2.1=Q.2.1/\o.2.2=Q.2.2/\H else B/\if aG l a ([123]:Str)=true then O/\(h/\i/\d/\k/\p)/\H/\q.1=Q.1/\q.2.1=Q.2.1/\q.2.2=Q.2.2/\H else B/\if aG l a ([64]:Str)=true then O/\(h/\i/\d/\k/\p/\¬F=A)/\H/\r.1=Q.1/\r.2.1=Q.2.1/\r.2.2=Q.2.2/\H else B/\if aG l a ([110,101,119]:Str)=true then O/\s/\H/\t.1=Q.1/\t.2.1=Q.2.1/\t.2.2=Q.2.2/\H else B/\if aG l a ([114,97,119]:Str)=true then O/\s/\H/\u.1=Q.1/\u.2.1=Q.2.1/\u.2.2=Q.2.2/\H else B/\H/\A=Q.1.kind/\R/\S/\b/\T/\U/\V/\W/\X/\a=Q.2.1/\jc l a=Q.2.2/\H:=by
 conv=>zeta
 obtain⟨g1,g2,h0,h1,hn⟩:=ho;have hG:gq l (aa l n) a=gq l (aa l n) a:=rfl;generalize hE:gq l (aa l n) a=G at hG⊢;unfold gq at hE;dsimp only at hE;refine⟨h0,a6 (fun c=>?_) (fun c=>?_)⟩
 ·have c:=Xo c;rw[OB c]at hE;subst hE;have hlt:=fj (l:=l) (a:=a) (by omega);have hnum:=g2 _ (Ld h0 (by omega)) c;refine⟨⟨0,OJ _,rfl,?_⟩,?_⟩
  ·repeat (first|exact trivial|refine⟨by first|rfl|trivial|assumption|(show _=_++_;rw[hs];rfl)|(show _=_++_;rw[hp];rfl)|(rw[hp];rfl)|(rw[hs];rfl)|(simp[ak,ar,tP, *];done),?_⟩)
  intro x hx;simp only[OH];apply a6<;>intro h
  ·have hk:x<(az l a).text.length:=by have:=Xo h;omega
   obtain⟨b1,b2⟩:=HX hnum hk;have hd:=hnum.2.2 _ (bO (az l a).text x 0 hk);have hst:=HW hk;have h15:=hnum.2.1;refine⟨aj (by omega) (by omega),⟨by omega,by omega⟩,⟨by show(0:Int)<=_;omega,by show _<=(255:Int);omega⟩,aj (by omega) (by omega),aj (by omega) (by omega),aj (by omega) (by omega),x+1,hk,by omega,by omega,?_⟩;rw[<-hst]
   repeat (first|exact trivial|refine⟨by first|rfl|trivial|assumption|(show _=_++_;rw[hs];rfl)|(show _=_++_;rw[hp];rfl)|(rw[hp];rfl)|(rw[hs];rfl)|(simp[ak,ar,tP, *];done),?_⟩)
  ·have hk:x=(az l a).text.length:=by have:¬(x:Int)<((az l a).text.length:Int):=fun q=>h (Xd q);omega
   subst hk;rw[Pt];refine⟨aj (by omega) (by omega),?_⟩
   repeat (first|exact trivial|refine⟨by first|rfl|trivial|assumption|(show _=_++_;rw[hs];rfl)|(show _=_++_;rw[hp];rfl)|(rw[hp];rfl)|(rw[hs];rfl)|(simp[ak,ar,tP, *];done),?_⟩)
 have c:¬(az l a).kind=3:=fun q=>c (Xd q);rw[OA c]at hE;apply a6<;>intro c
 ·have c:=Xo c;rw[OB c]at hE;subst hE;refine⟨aj (by omega) (by omega),?_⟩
  repeat (first|exact trivial|refine⟨by first|rfl|trivial|assumption|(show _=_++_;rw[hs];rfl)|(show _=_++_;rw[hp];rfl)|(rw[hp];rfl)|(rw[hs];rfl)|(simp[ak,ar,tP, *];done),?_⟩)
 have c:¬(az l a).kind=4:=fun q=>c (Xd q);rw[OA c]at hE;apply a6<;>intro c
 ·have c:=Xo c;rw[OB c]at hE;refine⟨aj (by omega) (by omega),by omega,a6 (fun s=>?_) (fun s=>?_)⟩
  ·have s:¬aG l (a+1) [47]=true:=by simpa using s
   rw[OA s]at hE;subst hE;refine⟨aj (by omega) (by omega),?_⟩
   repeat (first|exact trivial|refine⟨by first|rfl|trivial|assumption|(show _=_++_;rw[hs];rfl)|(show _=_++_;rw[hp];rfl)|(rw[hp];rfl)|(rw[hs];rfl)|(simp[ak,ar,tP, *];done),?_⟩)
  ·have s:aG l (a+1) [47]=true:=by simpa using s
   rw[OB s]at hE;subst hE;refine⟨aj (by omega) (by omega),⟨by omega,by decide⟩,?_⟩
   repeat (first|exact trivial|refine⟨by first|rfl|trivial|assumption|(show _=_++_;rw[hs];rfl)|(show _=_++_;rw[hp];rfl)|(rw[hp];rfl)|(rw[hs];rfl)|(simp[ak,ar,tP, *];done),?_⟩)
 have c:¬(az l a).kind=1:=fun q=>c (Xd q);rw[OA c]at hE;refine⟨h0,a6 (fun s=>?_) (fun s=>?_)⟩
 ·rw[OB s]at hE;subst hE;refine⟨aj (by omega) (by omega),?_⟩
  repeat (first|exact trivial|refine⟨by first|rfl|trivial|assumption|(show _=_++_;rw[hs];rfl)|(show _=_++_;rw[hp];rfl)|(rw[hp];rfl)|(rw[hs];rfl)|(simp[ak,ar,tP, *];done),?_⟩)
 rw[OA s]at hE;refine⟨h0,a6 (fun s=>?_) (fun s=>?_)⟩
 ·rw[OB s]at hE;subst hE;refine⟨aj (by omega) (by omega),?_⟩
  repeat (first|exact trivial|refine⟨by first|rfl|trivial|assumption|(show _=_++_;rw[hs];rfl)|(show _=_++_;rw[hp];rfl)|(rw[hp];rfl)|(rw[hs];rfl)|(simp[ak,ar,tP, *];done),?_⟩)
 rw[OA s]at hE;refine⟨h0,a6 (fun s=>?_) (fun s=>?_)⟩
 ·rw[OB s]at hE;subst hE;have hlt:=cg s;refine⟨aj (by omega) (by omega),⟨g1,g2,by omega,by omega,by omega,rfl⟩,?_⟩
  repeat (first|exact trivial|refine⟨by first|rfl|trivial|assumption|(show _=_++_;rw[hs];rfl)|(show _=_++_;rw[hp];rfl)|(rw[hp];rfl)|(rw[hs];rfl)|(simp[ak,ar,tP, *];done),?_⟩)
 rw[OA s]at hE;refine⟨h0,a6 (fun s=>?_) (fun s=>?_)⟩
 ·rw[OB s]at hE;subst hE;have hlt:=cg s;refine⟨aj (by omega) (by omega),⟨g1,g2,by omega,by omega,by omega⟩,?_⟩
  repeat (first|exact trivial|refine⟨by first|rfl|trivial|assumption|(show _=_++_;rw[hs];rfl)|(show _=_++_;rw[hp];rfl)|(rw[hp];rfl)|(rw[hs];rfl)|(simp[ak,ar,tP, *];done),?_⟩)
 rw[OA s]at hE;refine⟨h0,a6 (fun s=>?_) (fun s=>?_)⟩
 ·rw[OB s]at hE;subst hE;have hlt:=cg s;refine⟨aj (by omega) (by omega),⟨g1,g2,by omega,by omega,by omega,by decide⟩,?_⟩
  repeat (first|exact trivial|refine⟨by first|rfl|trivial|assumption|(show _=_++_;rw[hs];rfl)|(show _=_++_;rw[hp];rfl)|(rw[hp];rfl)|(rw[hs];rfl)|(simp[ak,ar,tP, *];done),?_⟩)
 rw[OA s]at hE;refine⟨h0,a6 (fun s=>?_) (fun s=>?_)⟩
 ·rw[OB s]at hE;subst hE;have hlt:=cg s;refine⟨aj (by omega) (by omega),⟨g1,g2,by omega,by omega,by omega,by decide⟩,?_⟩
  repeat (first|exact trivial|refine⟨by first|rfl|trivial|assumption|(show _=_++_;rw[hs];rfl)|(show _=_++_;rw[hp];rfl)|(rw[hp];rfl)|(rw[hs];rfl)|(simp[ak,ar,tP, *];done),?_⟩)
 rw[OA s]at hE;refine⟨h0,a6 (fun s=>?_) (fun s=>?_)⟩
 ·rw[OB s]at hE;subst hE;have hlt:=cg s;refine⟨aj (by omega) (by omega),⟨g1,g2,by omega,by omega,by omega,by decide⟩,?_⟩
  repeat (first|exact trivial|refine⟨by first|rfl|trivial|assumption|(show _=_++_;rw[hs];rfl)|(show _=_++_;rw[hp];rfl)|(rw[hp];rfl)|(rw[hs];rfl)|(simp[ak,ar,tP, *];done),?_⟩)
 rw[OA s]at hE;subst hE;refine⟨h0,?_⟩
 repeat (first|exact trivial|refine⟨by first|rfl|trivial|assumption|(show _=_++_;rw[hs];rfl)|(show _=_++_;rw[hp];rfl)|(rw[hp];rfl)|(rw[hs];rfl)|(simp[ak,ar,tP, *];done),?_⟩)
theorem I4(n:Nat)(l:List Tokn)(a:Int)(ho:l.length<=4097/\aO l/\0<=a/\a<=(l.length:Int)/\((l.length:Int)-a).toNat+1<n+1) :
  let A:=(0:Int);let B:=List.length l<=(4097:Nat);let C:=(↑(List.length l):Int);let D:=(1:Nat);let E:=aa l n;let F:=az l a;let G:=gq l E a;let H:=l=l;let I:=A=A;let J:=F.pos=F.pos;let K:=dT UInt8=dT UInt8;let L:=I/\K/\K/\I/\I/\I/\I/\True;let M:=([40]:Str);let N:=(1:Int);let O:=(100000:Nat);let P:=(7:Int);let Q:=([41]:Str);let R:=jd l E a;A<=a/\(B/\aO l/\A<=a/\a<=C/\Int.toNat (C-a)+D<n+D)/\(∃(x:Nat×Trm×Int×Flt),((x.2.2.2.err=A->a<x.2.2.1/\x.2.2.1<=C/\C-x.2.2.1<(↑x.1:Int))/\eV l E F.pos x.1 x.2=jd l E a)/\G.2.1=x.2.2.1/\H/\I/\J/\G.1=x.2.1/\G.2.2=x.2.2.2/\L)/\∀(x:Nat×Trm×Int×Flt),let S:=x.2.2.2.err=A;let T:=A<=x.2.2.1;let U:=x.2.2.1+N;let V:=inR IntKind.i64 U;let W:=A<=x.2.2.1+N;let X:=[x.2.1];let Y:=(dU l E U {kind:=P,pkg:=[],name:=[],n:=A,names:=[],vars:=[],shapes:=[],parts:=X,pos:=F.pos:Trm} Q);let Z:=aL l U N;let b:=T/\if aG l x.2.2.1 M=true then V/\(B/\aO l/\W/\x.2.2.1+N<=C/\Int.toNat (C-U)+D<n/\List.length X<=O/\List.length X=List.length X)/\∃(y:Nat×Trm×Int×Flt),((y.2.2.2.err=A->a<y.2.2.1/\y.2.2.1<=C/\C-y.2.2.1<(↑y.1:Int))/\eV l E F.pos y.1 y.2=jd l E a)/\y.1<x.1/\Y.2.1=y.2.2.1/\H/\I/\J/\P=y.2.1.kind/\[]=y.2.1.pkg/\[]=y.2.1.name/\A=y.2.1.n/\y.2.1.names=[]/\y.2.1.vars=[]/\y.2.1.shapes=[]/\Y.1.parts=y.2.1.parts/\F.pos=y.2.1.pos/\Y.2.2=y.2.2.2/\L else V/\(W/\¬N=A)/\∃(y:Nat×Trm×Int×Flt),((y.2.2.2.err=A->a<y.2.2.1/\y.2.2.1<=C/\C-y.2.2.1<(↑y.1:Int))/\eV l E F.pos y.1 y.2=jd l E a)/\y.1<x.1/\Z.2.1=y.2.2.1/\H/\I/\J/\(9:Int)=y.2.1.kind/\[]=y.2.1.pkg/\Z.1=y.2.1.name/\A=y.2.1.n/\y.2.1.names=[]/\y.2.1.vars=[]/\y.2.1.shapes=[]/\X=y.2.1.parts/\F.pos=y.2.1.pos/\Z.2.2=y.2.2.2/\L;let c:=True/\x.2.1=R.1/\x.2.2.1=R.2.1/\x.2.2.2=R.2.2/\True;(S->a<x.2.2.1/\x.2.2.1<=C/\C-x.2.2.1<(↑x.1:Int))/\eV l E F.pos x.1 x.2=jd l E a->if decide (S)=true then T/\if aG l x.2.2.1 M=true then b else T/\if aG l x.2.2.1 ([46]:Str)=true then b else c else c:=by
 conv=>zeta
 obtain⟨g1,g2,h0,h1,hn⟩:=ho;have hA:=Le g1 g2 n a h0 h1 hn;have hR:eV l (aa l n) (az l a).pos (l.length+2) (gq l (aa l n) a)=jd l (aa l n) a:=rfl;generalize jd l (aa l n) a=G at hR⊢;refine⟨h0,⟨g1,g2,h0,h1,hn⟩,⟨(l.length+2,gq l (aa l n) a),⟨fun e=>?_,hR⟩,?_⟩,?_⟩
 ·obtain⟨q1,q2⟩:=hA e;exact⟨q1,q2,by show(l.length:Int)-(gq l (aa l n) a).2.1<((l.length+2:Nat):Int);omega⟩
 ·repeat (first|exact trivial|refine⟨by first|rfl|trivial|assumption|(show _=_++_;rw[hs];rfl)|(show _=_++_;rw[hp];rfl)|(rw[hp];rfl)|(rw[hs];rfl)|(simp[ak,ar,tP, *];done),?_⟩)
 clear hA hR;rintro⟨j,X,A,F⟩ ⟨i1,i2⟩;simp only at i1 i2⊢;apply a6<;>intro e;rotate_left
 ·have e:¬F.err=0:=fun q=>e (Xd q);rw[uw (x:=(X,A,F)) (fun q=>absurd q e)]at i2;subst i2
  repeat (first|exact trivial|refine⟨by first|rfl|trivial|assumption|(show _=_++_;rw[hs];rfl)|(show _=_++_;rw[hp];rfl)|(rw[hp];rfl)|(rw[hs];rfl)|(simp[ak,ar,tP, *];done),?_⟩)
 have he:F.err=0:=Xo e;obtain⟨b1,b2,b3⟩:=i1 he;refine⟨by omega,a6 (fun s=>?_) (fun s=>?_)⟩
 ·refine⟨by omega,a6 (fun _=>?_) (fun s'=>absurd s s')⟩;have hlt:=cg s;obtain⟨j,rfl⟩:∃q,j=q+1:=⟨j-1,by omega⟩;rw[Ec (x:=(X,A,F)) he s]at i2;simp only at i2;have hw:=Fu (fq g1 g2 n) (A+1) ⟨7,[],[],0,[],[],[],[X],(az l a).pos⟩ [41] (by omega) (by omega) (by omega);have hset:=wD (l:=l) (R:=aa l n) (x:=⟨7,[],[],0,[],[],[],[X],(az l a).pos⟩) (a:=A+1) [41];generalize dU l (aa l n) (A+1) ⟨7,[],[],0,[],[],[],[X],(az l a).pos⟩ [41]=W at i2 hw hset⊢;obtain⟨⟨wk,wg,wq,wz,wns,wvs,wss,wps,wpp⟩,wa,wf⟩:=W;have hset:(⟨7,[],[],0,[],[],[],wps,(az l a).pos⟩:Trm)=⟨wk,wg,wq,wz,wns,wvs,wss,wps,wpp⟩:=hset;cases hset;refine⟨aj (by omega) (by omega),⟨g1,g2,by omega,by omega,by omega,by show 1<=100000;decide,by trivial⟩,(j,(⟨7,[],[],0,[],[],[],wps,(az l a).pos⟩,wa,wf)),⟨fun q=>?_,i2⟩,by show j<j+1;omega,rfl,?_⟩
  ·obtain⟨u1,u2⟩:=hw q;simp only at u1 u2;exact⟨by show a<wa;omega,u2,by show(l.length:Int)-wa<(j:Int);omega⟩
  ·repeat (first|exact trivial|refine⟨by first|rfl|trivial|assumption|(show _=_++_;rw[hs];rfl)|(show _=_++_;rw[hp];rfl)|(rw[hp];rfl)|(rw[hs];rfl)|(simp[ak,ar,tP, *];done),?_⟩)
 ·refine⟨by omega,a6 (fun s2=>?_) (fun s2=>?_)⟩
  ·refine⟨by omega,a6 (fun s'=>absurd s' s) (fun _=>?_)⟩;have hlt:=cg s2;obtain⟨j,rfl⟩:∃q,j=q+1:=⟨j-1,by omega⟩;rw[Bu (x:=(X,A,F)) he s s2]at i2;simp only at i2;refine⟨aj (by omega) (by omega),⟨by omega,by decide⟩,(j,(⟨9,[],(aL l (A+1) 1).1,0,[],[],[],[X],(az l a).pos⟩,(aL l (A+1) 1).2.1,(aL l (A+1) 1).2.2)),⟨fun q=>?_,i2⟩,by show j<j+1;omega,rfl,?_⟩
   ·obtain⟨u1,u2⟩:=nZ (l:=l) (by decide) (A+1) q;exact⟨by show a<(aL l (A+1) 1).2.1;omega,u2,by show(l.length:Int)-(aL l (A+1) 1).2.1<(j:Int);omega⟩
   ·repeat (first|exact trivial|refine⟨by first|rfl|trivial|assumption|(show _=_++_;rw[hs];rfl)|(show _=_++_;rw[hp];rfl)|(rw[hp];rfl)|(rw[hs];rfl)|(simp[ak,ar,tP, *];done),?_⟩)
  ·rw[uw (x:=(X,A,F)) (fun _=>⟨s,s2⟩)]at i2;subst i2
   repeat (first|exact trivial|refine⟨by first|rfl|trivial|assumption|(show _=_++_;rw[hs];rfl)|(show _=_++_;rw[hp];rfl)|(rw[hp];rfl)|(rw[hs];rfl)|(simp[ak,ar,tP, *];done),?_⟩)
theorem I5(n:Nat)(l:List Tokn)(a:Int)(ho:l.length<=4097/\aO l/\0<=a/\a<=(l.length:Int)/\((l.length:Int)-a).toNat+1<n+1) :
  let A:=(0:Int);let B:=A<=a;let C:=(1:Int);let D:=a+C;let E:=inR IntKind.i64 D;let F:=List.length l<=(4097:Nat);let G:=aO l;let H:=A<=a+C;let I:=(↑(List.length l):Int);let J:=(1:Nat);let K:=True;let L:=aa l n;let M:=az l a;let N:=(qC l L D {kind:=(6:Int),pkg:=[],name:=[],n:=A,names:=[],vars:=[],shapes:=[],parts:=[],pos:=M.pos:Trm});let O:=aa l (n+J) a;let P:=aL l D C;let Q:=(14:Int)=O.1.kind;let R:=[]=O.1.pkg;let S:=[]=O.1.name;let T:=A=O.1.n;let U:=O.1.names=[];let V:=O.1.vars=[];let W:=O.1.shapes=[];let X:=M.pos=O.1.pos;let Y:=([]:List Trm);let Z:=[([61]:Str),([105,110]:Str)];let b:=(100000:Nat);let c:=tmL l L a M.pos;let d:=([105,102]:Str);let e:=Int.toNat (I-a)+J<n+J;let f:=[d,([116,104,101,110]:Str),([101,108,115,101]:Str)];let g:=tmI l L a M.pos;let h:=List.length ([]:List AL.Shape)<=b;let i:=(tmJ l g (12:Int) M.pos ([97,115]:Str));let j:=([99,97,115,101]:Str);let k:=tmC l L a M.pos;let m:=A<=k.2.1;let o:=NQ l L a M.pos;let p:=tmC3 l L a M.pos;let q:=(13:Int)=O.1.kind;let r:=k.1.parts=O.1.parts;let s:=List.length k.1.parts<=(90000:Nat)/\List.length k.1.parts=List.length k.1.parts;let t:=tmW l L k.1.parts M.pos p.1;let u:=tmT l t M.pos;let v:=tmW l L k.1.parts M.pos o.1;let w:=tmT l v M.pos;let x:=tmC4 l L a M.pos;let y:=tmW l L k.1.parts M.pos x.1;let z:=tmT l y M.pos;let A0:=tmW l L k.1.parts M.pos k.2.1;let A1:=tmT l A0 M.pos;let A2:=tmA l L a M.pos;let A3:=(tmJ l A2 (11:Int) M.pos ([111,102]:Str));let A4:=jd l L a;B/\B/\if aG l a ([102,117,110]:Str)=true then E/\(F/\G/\H/\a+C<=I/\Int.toNat (I-D)+J<n+J)/\K/\N.1=O.1/\N.2.1=O.2.1/\N.2.2=O.2.2/\K else B/\if aG l a ([108,101,116]:Str)=true then E/\(H/\¬C=A)/\if(!decide (P.2.2.err=A))=true then K/\Q/\R/\S/\T/\U/\V/\W/\O.1.parts=[]/\X/\P.2.1=O.2.1/\P.2.2=O.2.2/\K else(F/\G/\A<=P.2.1/\P.2.1<=I/\Int.toNat (I-P.2.1)+J<n+J/\List.length Y+List.length Z<=b/\List.length Z=List.length Z)/\K/\Q/\R/\P.1=O.1.name/\T/\U/\V/\W/\c.1.parts=O.1.parts/\X/\c.2.1=O.2.1/\c.2.2=O.2.2/\K else B/\if aG l a d=true then(F/\G/\B/\a<=I/\e/\List.length Y+List.length f<=b/\List.length f=List.length f)/\(F/\G/\(g.2.2.err=A->A<=g.2.1/\g.2.1<=I)/\h/\List.length g.1.parts=List.length g.1.parts)/\K/\(12:Int)=O.1.kind/\R/\S/\T/\U/\V/\i.1.shapes=O.1.shapes/\g.1.parts=O.1.parts/\X/\i.2.1=O.2.1/\i.2.2=O.2.2/\K else B/\if aG l a j=true then(F/\G/\B/\a<=I/\e/\List.length Y+List.length [j]<=b/\List.length [j]=List.length [j])/\if decide (k.2.2.err=A)=true then m/\if decide (o.2.err=A)=true then A<=o.1/\if(!decide (p.2.err=A))=true then K/\q/\R/\S/\T/\U/\V/\W/\r/\X/\p.1=O.2.1/\p.2=O.2.2/\K else(F/\G/\A<=p.1/\p.1<=I/\Int.toNat (I-p.1)+J<n+J/\s)/\(F/\G/\(t.2.2.err=A->A<=t.2.1/\t.2.1<=I)/\List.length t.1.shapes<=b/\List.length t.1.names=List.length t.1.names/\List.length t.1.vars=List.length t.1.vars/\List.length t.1.shapes=List.length t.1.shapes/\List.length t.1.parts=List.length t.1.parts)/\K/\q/\R/\S/\T/\t.1.names=O.1.names/\t.1.vars=O.1.vars/\u.1.shapes=O.1.shapes/\t.1.parts=O.1.parts/\X/\u.2.1=O.2.1/\u.2.2=O.2.2/\K else if(!decide (o.2.err=A))=true then K/\q/\R/\S/\T/\U/\V/\W/\r/\X/\o.1=O.2.1/\o.2=O.2.2/\K else(F/\G/\A<=o.1/\o.1<=I/\Int.toNat (I-o.1)+J<n+J/\s)/\(F/\G/\(v.2.2.err=A->A<=v.2.1/\v.2.1<=I)/\List.length v.1.shapes<=b/\List.length v.1.names=List.length v.1.names/\List.length v.1.vars=List.length v.1.vars/\List.length v.1.shapes=List.length v.1.shapes/\List.length v.1.parts=List.length v.1.parts)/\K/\q/\R/\S/\T/\v.1.names=O.1.names/\v.1.vars=O.1.vars/\w.1.shapes=O.1.shapes/\v.1.parts=O.1.parts/\X/\w.2.1=O.2.1/\w.2.2=O.2.2/\K else if decide (k.2.2.err=A)=true then m/\if(!decide (x.2.err=A))=true then K/\q/\R/\S/\T/\U/\V/\W/\r/\X/\x.1=O.2.1/\x.2=O.2.2/\K else(F/\G/\A<=x.1/\x.1<=I/\Int.toNat (I-x.1)+J<n+J/\s)/\(F/\G/\(y.2.2.err=A->A<=y.2.1/\y.2.1<=I)/\List.length y.1.shapes<=b/\List.length y.1.names=List.length y.1.names/\List.length y.1.vars=List.length y.1.vars/\List.length y.1.shapes=List.length y.1.shapes/\List.length y.1.parts=List.length y.1.parts)/\K/\q/\R/\S/\T/\y.1.names=O.1.names/\y.1.vars=O.1.vars/\z.1.shapes=O.1.shapes/\y.1.parts=O.1.parts/\X/\z.2.1=O.2.1/\z.2.2=O.2.2/\K else if(!decide (k.2.2.err=A))=true then K/\q/\R/\S/\T/\U/\V/\W/\r/\X/\k.2.1=O.2.1/\k.2.2=O.2.2/\K else(F/\G/\m/\k.2.1<=I/\Int.toNat (I-k.2.1)+J<n+J/\s)/\(F/\G/\(A0.2.2.err=A->A<=A0.2.1/\A0.2.1<=I)/\List.length A0.1.shapes<=b/\List.length A0.1.names=List.length A0.1.names/\List.length A0.1.vars=List.length A0.1.vars/\List.length A0.1.shapes=List.length A0.1.shapes/\List.length A0.1.parts=List.length A0.1.parts)/\K/\q/\R/\S/\T/\A0.1.names=O.1.names/\A0.1.vars=O.1.vars/\A1.1.shapes=O.1.shapes/\A0.1.parts=O.1.parts/\X/\A1.2.1=O.2.1/\A1.2.2=O.2.2/\K else B/\if aG l a ([91]:Str)=true then E/\(F/\G/\H/\a+C<=I/\Int.toNat (I-D)+J<n/\h)/\(F/\G/\(A2.2.2.err=A->A<=A2.2.1/\A2.2.1<=I)/\h/\List.length A2.1.parts=List.length A2.1.parts)/\K/\(11:Int)=O.1.kind/\R/\S/\T/\U/\V/\A3.1.shapes=O.1.shapes/\A2.1.parts=O.1.parts/\X/\A3.2.1=O.2.1/\A3.2.2=O.2.2/\K else(F/\G/\B/\a<=I/\e)/\K/\A4.1=O.1/\A4.2.1=O.2.1/\A4.2.2=O.2.2/\K:=by
 conv=>zeta
 obtain⟨g1,g2,h0,h1,bn⟩:=ho;have hE:aa l (n+1) a=oO l (aa l n) a:=rfl;generalize aa l (n+1) a=G at hE⊢;unfold oO at hE;dsimp only at hE;refine⟨h0,h0,a6 (fun s=>?_) (fun s=>?_)⟩
 ·rw[OB s]at hE;subst hE;have hlt:=cg s;refine⟨aj (by omega) (by omega),⟨g1,g2,by omega,by omega,by omega⟩,?_⟩
  repeat (first|exact trivial|refine⟨by first|rfl|trivial|assumption|(show _=_++_;rw[hs];rfl)|(show _=_++_;rw[hp];rfl)|(rw[hp];rfl)|(rw[hs];rfl)|(simp[ak,ar,tP, *];done),?_⟩)
 rw[OA s]at hE;refine⟨h0,a6 (fun s=>?_) (fun s=>?_)⟩
 ·rw[OB s]at hE;have hlt:=cg s;refine⟨aj (by omega) (by omega),⟨by omega,by decide⟩,a6 (fun c=>?_) (fun c=>?_)⟩
  ·have c:¬(aL l (a+1) 1).2.2.err=0:=by simpa using c
   rw[OA c]at hE;subst hE
   repeat (first|exact trivial|refine⟨by first|rfl|trivial|assumption|(show _=_++_;rw[hs];rfl)|(show _=_++_;rw[hp];rfl)|(rw[hp];rfl)|(rw[hs];rfl)|(simp[ak,ar,tP, *];done),?_⟩)
  ·have c:(aL l (a+1) 1).2.2.err=0:=by simpa using c
   obtain⟨p1,p2⟩:=nZ (l:=l) (by decide) (a+1) c;rw[OB c]at hE;have hE:G=tmL l (aa l n) a (az l a).pos:=hE;have hset:tP ⟨14,[],(aL l (a+1) 1).1,0,[],[],[],[],(az l a).pos⟩ (tmL l (aa l n) a (az l a).pos).1.parts=(tmL l (aa l n) a (az l a).pos).1:=im (l:=l) (R:=aa l n) _ _ _;generalize tmL l (aa l n) a (az l a).pos=W at hE hset⊢;obtain⟨⟨wk,wg,wq,wz,wns,wvs,wss,wps,wpp⟩,wa,wf⟩:=W;have hset:(⟨14,[],(aL l (a+1) 1).1,0,[],[],[],wps,(az l a).pos⟩:Trm)=⟨wk,wg,wq,wz,wns,wvs,wss,wps,wpp⟩:=hset;cases hset;subst hE;refine⟨⟨g1,g2,by omega,p2,by omega,by decide,by trivial⟩,?_⟩
   repeat (first|exact trivial|refine⟨by first|rfl|trivial|assumption|(show _=_++_;rw[hs];rfl)|(show _=_++_;rw[hp];rfl)|(rw[hp];rfl)|(rw[hs];rfl)|(simp[ak,ar,tP, *];done),?_⟩)
 rw[OA s]at hE;refine⟨h0,a6 (fun s=>?_) (fun s=>?_)⟩
 ·rw[OB s]at hE;have hE:G=aV l (tmI l (aa l n) a (az l a).pos).2.1 (tmI l (aa l n) a (az l a).pos).1 (tmI l (aa l n) a (az l a).pos).2.2 [97,115]:=hE;have hw:On l a (tmI l (aa l n) a (az l a).pos).2.2 (tmI l (aa l n) a (az l a).pos).2.1:=ui (fq g1 g2 n) _ _ _ a h0 h1 bn;have hset:tP ⟨12,[],[],0,[],[],[],[],(az l a).pos⟩ (tmI l (aa l n) a (az l a).pos).1.parts=(tmI l (aa l n) a (az l a).pos).1:=im (l:=l) (R:=aa l n) _ _ _;refine⟨⟨g1,g2,h0,h1,bn,by decide,by trivial⟩,?_⟩;delta tmJ;generalize tmI l (aa l n) a (az l a).pos=W at hE hset hw⊢;obtain⟨⟨wk,wg,wq,wz,wns,wvs,wss,wps,wpp⟩,wa,wf⟩:=W;have hset:(⟨12,[],[],0,[],[],[],wps,(az l a).pos⟩:Trm)=⟨wk,wg,wq,wz,wns,wvs,wss,wps,wpp⟩:=hset;cases hset;dsimp only at hE⊢;have hset:=gA (l:=l) (a:=wa) (x:=⟨12,[],[],0,[],[],[],wps,(az l a).pos⟩) wf [97,115];generalize aV l wa ⟨12,[],[],0,[],[],[],wps,(az l a).pos⟩ wf [97,115]=W at hE hset⊢;obtain⟨⟨uk,ug,uq,uz,uns,uvs,uss,ups,upp⟩,ua,uf⟩:=W;have hset:(⟨12,[],[],0,[],[],uss,wps,(az l a).pos⟩:Trm)=⟨uk,ug,uq,uz,uns,uvs,uss,ups,upp⟩:=hset;cases hset;subst hE;refine⟨⟨g1,g2,fun q=>⟨by have:=(hw q).1;simp only at this;omega,(hw q).2⟩,by decide,by trivial⟩,?_⟩
  repeat (first|exact trivial|refine⟨by first|rfl|trivial|assumption|(show _=_++_;rw[hs];rfl)|(show _=_++_;rw[hp];rfl)|(rw[hp];rfl)|(rw[hs];rfl)|(simp[ak,ar,tP, *];done),?_⟩)
 rw[OA s]at hE;refine⟨h0,a6 (fun s=>?_) (fun s=>?_)⟩
 ·rw[OB s]at hE;have e0:aD l (aa l n) [[99,97,115,101]] (de 13 (az l a).pos) a=tmC l (aa l n) a (az l a).pos:=rfl;rw[e0]at hE;clear e0;have hw:On l a (tmC l (aa l n) a (az l a).pos).2.2 (tmC l (aa l n) a (az l a).pos).2.1:=ui (fq g1 g2 n) _ _ _ a h0 h1 bn;have hset:tP ⟨13,[],[],0,[],[],[],[],(az l a).pos⟩ (tmC l (aa l n) a (az l a).pos).1.parts=(tmC l (aa l n) a (az l a).pos).1:=im (l:=l) (R:=aa l n) _ _ _;have hlen:(tmC l (aa l n) a (az l a).pos).1.parts.length<=0+1:=pV (l:=l) (R:=aa l n) [[99,97,115,101]] ⟨13,[],[],0,[],[],[],[],(az l a).pos⟩ a;refine⟨⟨g1,g2,h0,h1,bn,by decide,by trivial⟩,?_⟩;delta tmC4 tmC3 NQ;generalize tmC l (aa l n) a (az l a).pos=W at hE hset hw hlen⊢;obtain⟨⟨wk,wg,wq,wz,wns,wvs,wss,wps,wpp⟩,wa,wf⟩:=W;have hset:(⟨13,[],[],0,[],[],[],wps,(az l a).pos⟩:Trm)=⟨wk,wg,wq,wz,wns,wvs,wss,wps,wpp⟩:=hset;cases hset;dsimp only at hE hlen⊢;apply a6<;>intro d;rotate_left
  ·have d:¬wf.err=0:=fun q=>d (Xd q);rw[gO (b:=(_,wa,wf)) d,gO (b:=(_,wa,wf)) d,OA d]at hE;subst hE;refine a6 (fun d'=>absurd (Xo d') d) (fun _=>a6 (fun _=>?_) (fun d'=>absurd (by simpa using d') d))
   repeat (first|exact trivial|refine⟨by first|rfl|trivial|assumption|(show _=_++_;rw[hs];rfl)|(show _=_++_;rw[hp];rfl)|(rw[hp];rfl)|(rw[hs];rfl)|(simp[ak,ar,tP, *];done),?_⟩)
  have dw:wf.err=0:=Xo d;obtain⟨u1,u2⟩:=hw dw;simp only at u1 u2;rw[il (b:=(_,wa,wf)) dw]at hE;dsimp only at hE;refine⟨by omega,a6 (fun d2=>?_) (fun d2=>?_)⟩;rotate_left
  ·have d2:¬(ad l wa [111,102]).2.err=0:=fun q=>d2 (Xd q);rw[gO (b:=(_,ad l wa [111,102])) d2,OA d2]at hE;subst hE;refine a6 (fun _=>?_) (fun d'=>absurd (by simpa using d') d2)
   repeat (first|exact trivial|refine⟨by first|rfl|trivial|assumption|(show _=_++_;rw[hs];rfl)|(show _=_++_;rw[hp];rfl)|(rw[hp];rfl)|(rw[hs];rfl)|(simp[ak,ar,tP, *];done),?_⟩)
  have d2:(ad l wa [111,102]).2.err=0:=Xo d2;obtain⟨v1,v2⟩:=bp d2;rw[il (b:=(_,ad l wa [111,102])) d2]at hE;dsimp only at hE;refine⟨by omega,a6 (fun d3=>?_) (fun d3=>?_)⟩
  ·have d3:¬(ad l (ad l wa [111,102]).1 [123]).2.err=0:=by simpa using d3
   rw[OA d3]at hE;subst hE
   repeat (first|exact trivial|refine⟨by first|rfl|trivial|assumption|(show _=_++_;rw[hs];rfl)|(show _=_++_;rw[hp];rfl)|(rw[hp];rfl)|(rw[hs];rfl)|(simp[ak,ar,tP, *];done),?_⟩)
  have d3:(ad l (ad l wa [111,102]).1 [123]).2.err=0:=by simpa using d3
  obtain⟨v3,v4⟩:=bp d3;rw[OB d3]at hE;clear hw;have hw:On l (ad l (ad l wa [111,102]).1 [123]).1 (tmW l (aa l n) wps (az l a).pos (ad l (ad l wa [111,102]).1 [123]).1).2.2 (tmW l (aa l n) wps (az l a).pos (ad l (ad l wa [111,102]).1 [123]).1).2.1:=MN g1 g2 (fq g1 g2 n) _ _ (by omega) (by omega) (by omega);have hset:t4 ⟨13,[],[],0,[],[],[],wps,(az l a).pos⟩ (tmW l (aa l n) wps (az l a).pos (ad l (ad l wa [111,102]).1 [123]).1).1.names (tmW l (aa l n) wps (az l a).pos (ad l (ad l wa [111,102]).1 [123]).1).1.vars (tmW l (aa l n) wps (az l a).pos (ad l (ad l wa [111,102]).1 [123]).1).1.shapes (tmW l (aa l n) wps (az l a).pos (ad l (ad l wa [111,102]).1 [123]).1).1.parts=(tmW l (aa l n) wps (az l a).pos (ad l (ad l wa [111,102]).1 [123]).1).1:=HY;have hsl:(tmW l (aa l n) wps (az l a).pos (ad l (ad l wa [111,102]).1 [123]).1).1.shapes.length<=0+(l.length+2):=HZ (x:=⟨13,[],[],0,[],[],[],wps,(az l a).pos⟩);have hE:G=aV l (tmW l (aa l n) wps (az l a).pos (ad l (ad l wa [111,102]).1 [123]).1).2.1 (tmW l (aa l n) wps (az l a).pos (ad l (ad l wa [111,102]).1 [123]).1).1 (tmW l (aa l n) wps (az l a).pos (ad l (ad l wa [111,102]).1 [123]).1).2.2 [97,115]:=hE;refine⟨⟨g1,g2,by omega,by omega,by omega,by omega,by trivial⟩,?_⟩;delta tmT;generalize tmW l (aa l n) wps (az l a).pos (ad l (ad l wa [111,102]).1 [123]).1=W at hE hset hw hsl⊢;obtain⟨⟨uk,ug,uq,uz,uns,uvs,uss,ups,upp⟩,ua,uf⟩:=W;have hset:(⟨13,[],[],0,uns,uvs,uss,ups,(az l a).pos⟩:Trm)=⟨uk,ug,uq,uz,uns,uvs,uss,ups,upp⟩:=hset
  cases hset;dsimp only at hE hsl⊢;have hset:=gA (l:=l) (a:=ua) (x:=⟨13,[],[],0,uns,uvs,uss,ups,(az l a).pos⟩) uf [97,115];generalize aV l ua ⟨13,[],[],0,uns,uvs,uss,ups,(az l a).pos⟩ uf [97,115]=W at hE hset⊢;obtain⟨⟨yk,yg,yq,yz,yns,yvs,yss,yps,ypp⟩,ya,yf⟩:=W;have hset:(⟨13,[],[],0,uns,uvs,yss,ups,(az l a).pos⟩:Trm)=⟨yk,yg,yq,yz,yns,yvs,yss,yps,ypp⟩:=hset;cases hset;subst hE;refine⟨⟨g1,g2,fun q=>⟨by have:=(hw q).1;simp only at this;omega,(hw q).2⟩,by omega,by trivial,by trivial,by trivial,by trivial⟩,?_⟩
  repeat (first|exact trivial|refine⟨by first|rfl|trivial|assumption|(show _=_++_;rw[hs];rfl)|(show _=_++_;rw[hp];rfl)|(rw[hp];rfl)|(rw[hs];rfl)|(simp[ak,ar,tP, *];done),?_⟩)
 rw[OA s]at hE;refine⟨h0,a6 (fun s=>?_) (fun s=>?_)⟩
 ·rw[OB s]at hE;have hlt:=cg s;have hE:G=aV l (tmA l (aa l n) a (az l a).pos).2.1 (tmA l (aa l n) a (az l a).pos).1 (tmA l (aa l n) a (az l a).pos).2.2 [111,102]:=hE;have hw:On l (a+1) (tmA l (aa l n) a (az l a).pos).2.2 (tmA l (aa l n) a (az l a).pos).2.1:=Fu (fq g1 g2 n) (a+1) _ _ (by omega) (by omega) (by omega);have hset:tP ⟨11,[],[],0,[],[],[],[],(az l a).pos⟩ (tmA l (aa l n) a (az l a).pos).1.parts=(tmA l (aa l n) a (az l a).pos).1:=wD _;refine⟨aj (by omega) (by omega),⟨g1,g2,by omega,by omega,by omega,by decide⟩,?_⟩;delta tmJ;generalize tmA l (aa l n) a (az l a).pos=W at hE hset hw⊢;obtain⟨⟨wk,wg,wq,wz,wns,wvs,wss,wps,wpp⟩,wa,wf⟩:=W;have hset:(⟨11,[],[],0,[],[],[],wps,(az l a).pos⟩:Trm)=⟨wk,wg,wq,wz,wns,wvs,wss,wps,wpp⟩:=hset;cases hset;dsimp only at hE⊢;have hset:=gA (l:=l) (a:=wa) (x:=⟨11,[],[],0,[],[],[],wps,(az l a).pos⟩) wf [111,102];generalize aV l wa ⟨11,[],[],0,[],[],[],wps,(az l a).pos⟩ wf [111,102]=W at hE hset⊢;obtain⟨⟨uk,ug,uq,uz,uns,uvs,uss,ups,upp⟩,ua,uf⟩:=W;have hset:(⟨11,[],[],0,[],[],uss,wps,(az l a).pos⟩:Trm)=⟨uk,ug,uq,uz,uns,uvs,uss,ups,upp⟩:=hset;cases hset;subst hE;refine⟨⟨g1,g2,fun q=>⟨by have:=(hw q).1;simp only at this;omega,(hw q).2⟩,by decide,by trivial⟩,?_⟩
  repeat (first|exact trivial|refine⟨by first|rfl|trivial|assumption|(show _=_++_;rw[hs];rfl)|(show _=_++_;rw[hp];rfl)|(rw[hp];rfl)|(rw[hs];rfl)|(simp[ak,ar,tP, *];done),?_⟩)
 rw[OA s]at hE;subst hE;refine⟨⟨g1,g2,h0,h1,bn⟩,?_⟩
 repeat (first|exact trivial|refine⟨by first|rfl|trivial|assumption|(show _=_++_;rw[hs];rfl)|(show _=_++_;rw[hp];rfl)|(rw[hp];rfl)|(rw[hs];rfl)|(simp[ak,ar,tP, *];done),?_⟩)
end Go.AL.Seat
end
section
open Go Go.AL Go.Proofs Go.Shelf Go.Pd
namespace Go.AL.Seat
open Go.Proofs.Tryz
variable [Tabs]
variable [SeatLaid]
theorem Lk:aA prog 71:=ee func71
theorem Bx(n:Nat)(l:List Tokn)(a:Int)(x:Trm)(ws:List Str)(ho:l.length<=4097/\aO l/\0<=a/\a<=(l.length:Int)/\((l.length:Int)-a).toNat+1<n+1/\x.parts.length+ws.length<=100000)(hn:x.names=[])(hv:x.vars=[])(hs:x.shapes=[])(hp:x.parts=[])(hT:ab prog 37 (p2 (.lst (.st .token)) (.int .i64) fun l a=>⟨some (l.length<=4097/\aO l/\0<=a/\a<=(l.length:Int)/\((l.length:Int)-a).toNat+1<n),none,.tup [.st .term (aa l n a).1,.int .i64 (aa l n a).2.1,.st .fault (aa l n a).2.2],[]⟩)):aB prog 71 [.lst (.st .token) l none,.int .i64 a,.agg [.int .i64 (x).kind,.str (x).pkg,.str (x).name,.int .i64 (x).n,.nils,.nils,.nils,.nils,.int .i64 (x).pos],.lst .str ws (some 900)] [(900,.tail .str ws.length)] (⟨some (l.length<=4097/\aO l/\0<=a/\a<=(l.length:Int)/\((l.length:Int)-a).toNat+1<n+1/\x.parts.length+ws.length<=100000/\ws.length=ws.length),none,.tup [.agg [.int .i64 (x).kind,.str (x).pkg,.str (x).name,.int .i64 (x).n,.nils,.nils,.nils,.lst (.st .term) ((aD l (aa l n) ws x a).1.parts) (some 704),.int .i64 (x).pos],.int .i64 (aD l (aa l n) ws x a).2.1,.st .fault (aD l (aa l n) ws x a).2.2],[(704,.tail (.st .term) ((aD l (aa l n) ws x a).1.parts).length)]⟩):=
 g0 (sc cQ (sc (hT) sn)) ⟨[(2,fun S0=>⟨Nat×Int×List Trm,fun y=>y.1<=ws.length/\0<=y.2.1/\y.2.1<=(l.length:Int)/\((l.length:Int)-y.2.1).toNat+1<n+1/\y.2.2.length=x.parts.length+y.1/\aD l (aa l n) (ws.drop y.1) (tP x y.2.2) y.2.1=(aD l (aa l n) ws x a),fun y=>[(1,.int .i64 y.2.1),(11,.int .i64 (y.1:Int))],fun y=>[(6,.box (.agg [.int .i64 (x).kind,.str (x).pkg,.str (x).name,.int .i64 (x).n,.nils,.nils,.nils,.lst (.st .term) (y.2.2) (some 704),.int .i64 (x).pos])),(704,.tail (.st .term) y.2.2.length)],fun y=>ws.length-y.1⟩)],[],[]⟩ func71 (Li n l a x ws ho hn hv hs hp)
theorem wF(n:Nat)(hT:ab prog 37 (p2 (.lst (.st .token)) (.int .i64) fun l a=>⟨some (l.length<=4097/\aO l/\0<=a/\a<=(l.length:Int)/\((l.length:Int)-a).toNat+1<n),none,.tup [.st .term (aa l n a).1,.int .i64 (aa l n a).2.1,.st .fault (aa l n a).2.2],[]⟩)):ab prog 71 (L7 fun l a x ws mw=>⟨some (l.length<=4097/\aO l/\0<=a/\a<=(l.length:Int)/\((l.length:Int)-a).toNat+1<n+1/\x.parts.length+ws.length<=100000/\mw=ws.length),none,.tup [.agg [.int .i64 (x).kind,.str (x).pkg,.str (x).name,.int .i64 (x).n,.nils,.nils,.nils,.lst (.st .term) ((aD l (aa l n) ws x a).1.parts) (some 704),.int .i64 (x).pos],.int .i64 (aD l (aa l n) ws x a).2.1,.st .fault (aD l (aa l n) ws x a).2.2],[(704,.tail (.st .term) ((aD l (aa l n) ws x a).1.parts).length)]⟩):=
 L8 Lk fun l a x ws mw hn hv hs hp ho=>by obtain⟨o0,o1,o2,o3,o4,o5,e0⟩:=ho _ rfl;subst e0;exact Bx n l a x ws ⟨o0,o1,o2,o3,o4,o5⟩ hn hv hs hp hT
theorem Ej:aA prog 71:=ee func71
theorem vm(n:Nat)(l:List Tokn)(a:Int)(x:Trm)(ws:List Str)(ho:l.length<=4097/\aO l/\0<=a/\a<=(l.length:Int)/\((l.length:Int)-a).toNat+1<n+1/\x.parts.length+ws.length<=100000)(hv:x.vars=[])(hp:x.parts=[])(hT:ab prog 37 (p2 (.lst (.st .token)) (.int .i64) fun l a=>⟨some (l.length<=4097/\aO l/\0<=a/\a<=(l.length:Int)/\((l.length:Int)-a).toNat+1<n),none,.tup [.st .term (aa l n a).1,.int .i64 (aa l n a).2.1,.st .fault (aa l n a).2.2],[]⟩)):aB prog 71 [.lst (.st .token) l none,.int .i64 a,.agg [.int .i64 (x).kind,.str (x).pkg,.str (x).name,.int .i64 (x).n,.lst .str (x).names (some 900),.nils,.lst (.st .shape) (x).shapes (some 901),.nils,.int .i64 (x).pos],.lst .str ws (some 902)] [(900,.tail .str x.names.length),(901,.tail (.st .shape) x.shapes.length),(902,.tail .str ws.length)] (⟨some (l.length<=4097/\aO l/\0<=a/\a<=(l.length:Int)/\((l.length:Int)-a).toNat+1<n+1/\x.parts.length+ws.length<=100000/\x.names.length=x.names.length/\x.shapes.length=x.shapes.length/\ws.length=ws.length),none,.tup [.agg [.int .i64 (x).kind,.str (x).pkg,.str (x).name,.int .i64 (x).n,.lst .str (x.names) (some 900),.nils,.lst (.st .shape) (x.shapes) (some 901),.lst (.st .term) ((aD l (aa l n) ws x a).1.parts) (some 704),.int .i64 (x).pos],.int .i64 (aD l (aa l n) ws x a).2.1,.st .fault (aD l (aa l n) ws x a).2.2],[(704,.tail (.st .term) ((aD l (aa l n) ws x a).1.parts).length)]⟩):=
 g0 (sc cQ (sc (hT) sn)) ⟨[(2,fun S0=>⟨Nat×Int×List Trm,fun y=>y.1<=ws.length/\0<=y.2.1/\y.2.1<=(l.length:Int)/\((l.length:Int)-y.2.1).toNat+1<n+1/\y.2.2.length=x.parts.length+y.1/\aD l (aa l n) (ws.drop y.1) (tP x y.2.2) y.2.1=(aD l (aa l n) ws x a),fun y=>[(1,.int .i64 y.2.1),(11,.int .i64 (y.1:Int))],fun y=>[(6,.box (.agg [.int .i64 (x).kind,.str (x).pkg,.str (x).name,.int .i64 (x).n,.lst .str (x.names) (some 900),.nils,.lst (.st .shape) (x.shapes) (some 901),.lst (.st .term) (y.2.2) (some 704),.int .i64 (x).pos])),(704,.tail (.st .term) y.2.2.length)],fun y=>ws.length-y.1⟩)],[],[]⟩ func71 (Ed n l a x ws ho hv hp)
theorem By(n:Nat)(hT:ab prog 37 (p2 (.lst (.st .token)) (.int .i64) fun l a=>⟨some (l.length<=4097/\aO l/\0<=a/\a<=(l.length:Int)/\((l.length:Int)-a).toNat+1<n),none,.tup [.st .term (aa l n a).1,.int .i64 (aa l n a).2.1,.st .fault (aa l n a).2.2],[]⟩)):ab prog 71 (yr fun l a x ws mn ms mw=>⟨some (l.length<=4097/\aO l/\0<=a/\a<=(l.length:Int)/\((l.length:Int)-a).toNat+1<n+1/\x.parts.length+ws.length<=100000/\mn=x.names.length/\ms=x.shapes.length/\mw=ws.length),none,.tup [.agg [.int .i64 (x).kind,.str (x).pkg,.str (x).name,.int .i64 (x).n,.lst .str (x.names) (some 900),.nils,.lst (.st .shape) (x.shapes) (some 901),.lst (.st .term) ((aD l (aa l n) ws x a).1.parts) (some 704),.int .i64 (x).pos],.int .i64 (aD l (aa l n) ws x a).2.1,.st .fault (aD l (aa l n) ws x a).2.2],[(704,.tail (.st .term) ((aD l (aa l n) ws x a).1.parts).length)]⟩):=
 E6 Ej fun l a x ws mn ms mw hv hp ho=>by obtain⟨o0,o1,o2,o3,o4,o5,e0,e1,e2⟩:=ho _ rfl;subst e0;subst e1;subst e2;exact vm n l a x ws ⟨o0,o1,o2,o3,o4,o5⟩ hv hp hT
theorem Ek:aA prog 71:=ee func71
theorem vn(n:Nat)(l:List Tokn)(a:Int)(x:Trm)(ws:List Str)(ho:l.length<=4097/\aO l/\0<=a/\a<=(l.length:Int)/\((l.length:Int)-a).toNat+1<n+1/\x.parts.length+ws.length<=100000)(hv:x.vars=[])(hs:x.shapes=[])(hT:ab prog 37 (p2 (.lst (.st .token)) (.int .i64) fun l a=>⟨some (l.length<=4097/\aO l/\0<=a/\a<=(l.length:Int)/\((l.length:Int)-a).toNat+1<n),none,.tup [.st .term (aa l n a).1,.int .i64 (aa l n a).2.1,.st .fault (aa l n a).2.2],[]⟩)):aB prog 71 [.lst (.st .token) l none,.int .i64 a,.agg [.int .i64 (x).kind,.str (x).pkg,.str (x).name,.int .i64 (x).n,.lst .str (x).names (some 900),.nils,.nils,.lst (.st .term) (x).parts (some 901),.int .i64 (x).pos],.lst .str ws (some 902)] [(900,.tail .str x.names.length),(901,.tail (.st .term) x.parts.length),(902,.tail .str ws.length)] (⟨some (l.length<=4097/\aO l/\0<=a/\a<=(l.length:Int)/\((l.length:Int)-a).toNat+1<n+1/\x.parts.length+ws.length<=100000/\x.names.length=x.names.length/\x.parts.length=x.parts.length/\ws.length=ws.length),none,.tup [.agg [.int .i64 (x).kind,.str (x).pkg,.str (x).name,.int .i64 (x).n,.lst .str (x.names) (some 900),.nils,.nils,.lst (.st .term) ((aD l (aa l n) ws x a).1.parts) (some 901),.int .i64 (x).pos],.int .i64 (aD l (aa l n) ws x a).2.1,.st .fault (aD l (aa l n) ws x a).2.2],[(901,.tail (.st .term) ((aD l (aa l n) ws x a).1.parts).length)]⟩):=
 g0 (sc cQ (sc (hT) sn)) ⟨[(2,fun S0=>⟨Nat×Int×List Trm,fun y=>y.1<=ws.length/\0<=y.2.1/\y.2.1<=(l.length:Int)/\((l.length:Int)-y.2.1).toNat+1<n+1/\y.2.2.length=x.parts.length+y.1/\aD l (aa l n) (ws.drop y.1) (tP x y.2.2) y.2.1=(aD l (aa l n) ws x a),fun y=>[(1,.int .i64 y.2.1),(11,.int .i64 (y.1:Int))],fun y=>[(6,.box (.agg [.int .i64 (x).kind,.str (x).pkg,.str (x).name,.int .i64 (x).n,.lst .str (x.names) (some 900),.nils,.nils,.lst (.st .term) (y.2.2) (some 901),.int .i64 (x).pos])),(901,.tail (.st .term) y.2.2.length)],fun y=>ws.length-y.1⟩)],[],[]⟩ func71 (Ee n l a x ws ho hv hs)
theorem Bz(n:Nat)(hT:ab prog 37 (p2 (.lst (.st .token)) (.int .i64) fun l a=>⟨some (l.length<=4097/\aO l/\0<=a/\a<=(l.length:Int)/\((l.length:Int)-a).toNat+1<n),none,.tup [.st .term (aa l n a).1,.int .i64 (aa l n a).2.1,.st .fault (aa l n a).2.2],[]⟩)):ab prog 71 (yt fun l a x ws mn mp mw=>⟨some (l.length<=4097/\aO l/\0<=a/\a<=(l.length:Int)/\((l.length:Int)-a).toNat+1<n+1/\x.parts.length+ws.length<=100000/\mn=x.names.length/\mp=x.parts.length/\mw=ws.length),none,.tup [.agg [.int .i64 (x).kind,.str (x).pkg,.str (x).name,.int .i64 (x).n,.lst .str (x.names) (some 900),.nils,.nils,.lst (.st .term) ((aD l (aa l n) ws x a).1.parts) (some 901),.int .i64 (x).pos],.int .i64 (aD l (aa l n) ws x a).2.1,.st .fault (aD l (aa l n) ws x a).2.2],[(901,.tail (.st .term) ((aD l (aa l n) ws x a).1.parts).length)]⟩):=
 E7 Ek fun l a x ws mn mp mw hv hs ho=>by obtain⟨o0,o1,o2,o3,o4,o5,e0,e1,e2⟩:=ho _ rfl;subst e0;subst e1;subst e2;exact vn n l a x ws ⟨o0,o1,o2,o3,o4,o5⟩ hv hs hT
theorem yB:aA prog 71:=ee func71
theorem rM(n:Nat)(l:List Tokn)(a:Int)(x:Trm)(ws:List Str)(ho:l.length<=4097/\aO l/\0<=a/\a<=(l.length:Int)/\((l.length:Int)-a).toNat+1<n+1/\x.parts.length+ws.length<=100000)(hT:ab prog 37 (p2 (.lst (.st .token)) (.int .i64) fun l a=>⟨some (l.length<=4097/\aO l/\0<=a/\a<=(l.length:Int)/\((l.length:Int)-a).toNat+1<n),none,.tup [.st .term (aa l n a).1,.int .i64 (aa l n a).2.1,.st .fault (aa l n a).2.2],[]⟩)):aB prog 71 [.lst (.st .token) l none,.int .i64 a,.agg [.int .i64 (x).kind,.str (x).pkg,.str (x).name,.int .i64 (x).n,.lst .str (x).names (some 900),.lst .str (x).vars (some 901),.lst (.st .shape) (x).shapes (some 902),.lst (.st .term) (x).parts (some 903),.int .i64 (x).pos],.lst .str ws (some 904)] [(900,.tail .str x.names.length),(901,.tail .str x.vars.length),(902,.tail (.st .shape) x.shapes.length),(903,.tail (.st .term) x.parts.length),(904,.tail .str ws.length)] (⟨some (l.length<=4097/\aO l/\0<=a/\a<=(l.length:Int)/\((l.length:Int)-a).toNat+1<n+1/\x.parts.length+ws.length<=100000/\x.names.length=x.names.length/\x.vars.length=x.vars.length/\x.shapes.length=x.shapes.length/\x.parts.length=x.parts.length/\ws.length=ws.length),none,.tup [.agg [.int .i64 (x).kind,.str (x).pkg,.str (x).name,.int .i64 (x).n,.lst .str (x.names) (some 900),.lst .str (x.vars) (some 901),.lst (.st .shape) (x.shapes) (some 902),.lst (.st .term) ((aD l (aa l n) ws x a).1.parts) (some 903),.int .i64 (x).pos],.int .i64 (aD l (aa l n) ws x a).2.1,.st .fault (aD l (aa l n) ws x a).2.2],[(903,.tail (.st .term) ((aD l (aa l n) ws x a).1.parts).length)]⟩):=
 g0 (sc cQ (sc (hT) sn)) ⟨[(2,fun S0=>⟨Nat×Int×List Trm,fun y=>y.1<=ws.length/\0<=y.2.1/\y.2.1<=(l.length:Int)/\((l.length:Int)-y.2.1).toNat+1<n+1/\y.2.2.length=x.parts.length+y.1/\aD l (aa l n) (ws.drop y.1) (tP x y.2.2) y.2.1=(aD l (aa l n) ws x a),fun y=>[(1,.int .i64 y.2.1),(11,.int .i64 (y.1:Int))],fun y=>[(6,.box (.agg [.int .i64 (x).kind,.str (x).pkg,.str (x).name,.int .i64 (x).n,.lst .str (x.names) (some 900),.lst .str (x.vars) (some 901),.lst (.st .shape) (x.shapes) (some 902),.lst (.st .term) (y.2.2) (some 903),.int .i64 (x).pos])),(903,.tail (.st .term) y.2.2.length)],fun y=>ws.length-y.1⟩)],[],[]⟩ func71 (yy n l a x ws ho)
theorem vo(n:Nat)(hT:ab prog 37 (p2 (.lst (.st .token)) (.int .i64) fun l a=>⟨some (l.length<=4097/\aO l/\0<=a/\a<=(l.length:Int)/\((l.length:Int)-a).toNat+1<n),none,.tup [.st .term (aa l n a).1,.int .i64 (aa l n a).2.1,.st .fault (aa l n a).2.2],[]⟩)):ab prog 71 (qO fun l a x ws mn mv ms mp mw=>⟨some (l.length<=4097/\aO l/\0<=a/\a<=(l.length:Int)/\((l.length:Int)-a).toNat+1<n+1/\x.parts.length+ws.length<=100000/\mn=x.names.length/\mv=x.vars.length/\ms=x.shapes.length/\mp=x.parts.length/\mw=ws.length),none,.tup [.agg [.int .i64 (x).kind,.str (x).pkg,.str (x).name,.int .i64 (x).n,.lst .str (x.names) (some 900),.lst .str (x.vars) (some 901),.lst (.st .shape) (x.shapes) (some 902),.lst (.st .term) ((aD l (aa l n) ws x a).1.parts) (some 903),.int .i64 (x).pos],.int .i64 (aD l (aa l n) ws x a).2.1,.st .fault (aD l (aa l n) ws x a).2.2],[(903,.tail (.st .term) ((aD l (aa l n) ws x a).1.parts).length)]⟩):=
 yu yB fun l a x ws mn mv ms mp mw _ ho=>by obtain⟨o0,o1,o2,o3,o4,o5,e0,e1,e2,e3,e4⟩:=ho _ rfl;subst e0;subst e1;subst e2;subst e3;subst e4;exact rM n l a x ws ⟨o0,o1,o2,o3,o4,o5⟩ hT
theorem uB:ab prog 72 (E8 fun l a x ft en mp=>⟨some (l.length<=4097/\aO l/\(ft.err=0->0<=a/\a<=(l.length:Int))/\x.shapes.length<=100000/\mp=x.parts.length),none,.tup [.agg [.int .i64 (x).kind,.str (x).pkg,.str (x).name,.int .i64 (x).n,.nils,.nils,.lst (.st .shape) ((aV l a x ft en).1.shapes) (some 44),.lst (.st .term) (x.parts) (some 900),.int .i64 (x).pos],.int .i64 (aV l a x ft en).2.1,.st .fault (aV l a x ft en).2.2],[(44,.tail (.st .shape) ((aV l a x ft en).1.shapes).length)]⟩):=
 HT (ee func72) fun l a x ft en mp hn hv hs ho=>by obtain⟨o0,o1,o2,o3,e0⟩:=ho _ rfl;subst e0;exact g0 (sc cQ (sc nB sn)) a0 func72 (I0 l a x ft en ⟨o0,o1,o2,o3⟩ hn hv hs)
theorem BA:ab prog 72 (yw fun l a x ft en mn ms=>⟨some (l.length<=4097/\aO l/\(ft.err=0->0<=a/\a<=(l.length:Int))/\x.shapes.length<=100000/\mn=x.names.length/\ms=x.shapes.length),none,.tup [.agg [.int .i64 (x).kind,.str (x).pkg,.str (x).name,.int .i64 (x).n,.lst .str (x.names) (some 900),.nils,.lst (.st .shape) ((aV l a x ft en).1.shapes) (some 901),.nils,.int .i64 (x).pos],.int .i64 (aV l a x ft en).2.1,.st .fault (aV l a x ft en).2.2],[(901,.tail (.st .shape) ((aV l a x ft en).1.shapes).length)]⟩):=
 E9 (ee func72) fun l a x ft en mn ms hv hp ho=>by obtain⟨o0,o1,o2,o3,e0,e1⟩:=ho _ rfl;subst e0;subst e1;exact g0 (sc cQ (sc nB sn)) a0 func72 (Ef l a x ft en ⟨o0,o1,o2,o3⟩ hv hp)
theorem ow:ab prog 72 (qP fun l a x ft en mn mv ms mp=>⟨some (l.length<=4097/\aO l/\(ft.err=0->0<=a/\a<=(l.length:Int))/\x.shapes.length<=100000/\mn=x.names.length/\mv=x.vars.length/\ms=x.shapes.length/\mp=x.parts.length),none,.tup [.agg [.int .i64 (x).kind,.str (x).pkg,.str (x).name,.int .i64 (x).n,.lst .str (x.names) (some 900),.lst .str (x.vars) (some 901),.lst (.st .shape) ((aV l a x ft en).1.shapes) (some 902),.lst (.st .term) (x.parts) (some 903),.int .i64 (x).pos],.int .i64 (aV l a x ft en).2.1,.st .fault (aV l a x ft en).2.2],[(902,.tail (.st .shape) ((aV l a x ft en).1.shapes).length)]⟩):=
 yx (ee func72) fun l a x ft en mn mv ms mp _ ho=>by obtain⟨o0,o1,o2,o3,e0,e1,e2,e3⟩:=ho _ rfl;subst e0;subst e1;subst e2;subst e3;exact g0 (sc cQ (sc nB sn)) a0 func72 (yA l a x ft en ⟨o0,o1,o2,o3⟩)
theorem I6:aA prog 75:=ee func75
theorem yC(n:Nat)(l:List Tokn)(a:Int)(x:Trm)(en:Str)(ho:l.length<=4097/\aO l/\0<=a/\a<=(l.length:Int)/\((l.length:Int)-a).toNat+1<n/\x.parts.length<=100000)(hn:x.names=[])(hv:x.vars=[])(hs:x.shapes=[])(hp:x.parts=[])(hT:ab prog 37 (p2 (.lst (.st .token)) (.int .i64) fun l a=>⟨some (l.length<=4097/\aO l/\0<=a/\a<=(l.length:Int)/\((l.length:Int)-a).toNat+1<n),none,.tup [.st .term (aa l n a).1,.int .i64 (aa l n a).2.1,.st .fault (aa l n a).2.2],[]⟩)):aB prog 75 [.lst (.st .token) l none,.int .i64 a,.agg [.int .i64 (x).kind,.str (x).pkg,.str (x).name,.int .i64 (x).n,.nils,.nils,.nils,.nils,.int .i64 (x).pos],.str en] [] (⟨some (l.length<=4097/\aO l/\0<=a/\a<=(l.length:Int)/\((l.length:Int)-a).toNat+1<n/\x.parts.length<=100000),none,.tup [.agg [.int .i64 (x).kind,.str (x).pkg,.str (x).name,.int .i64 (x).n,.nils,.nils,.nils,.lst (.st .term) ((dU l (aa l n) a x en).1.parts) (some 704),.int .i64 (x).pos],.int .i64 (dU l (aa l n) a x en).2.1,.st .fault (dU l (aa l n) a x en).2.2],[(704,.tail (.st .term) ((dU l (aa l n) a x en).1.parts).length)]⟩):=
 g0 (sc dX (sc cQ (sc (hT) sn))) ⟨[(2,fun S0=>⟨Nat×Int×List Trm×Bool,fun y=>0<=y.2.1/\y.2.1<=(l.length:Int)/\((l.length:Int)-y.2.1).toNat+1<n/\(l.length:Int)-y.2.1<y.1/\y.2.2.1.length+y.1=x.parts.length+l.length+2/\(y.2.2.2=false->aw l (cH (aa l n)) [44] en x a=(tP x y.2.2.1,y.2.1,okF)/\y.2.1<(l.length:Int))/\(y.2.2.2=true->aP l (cH (aa l n)) [44] en y.1 (tP x y.2.2.1) y.2.1=aw l (cH (aa l n)) [44] en x a),fun y=>[(1,.int .i64 y.2.1),(11,.bool y.2.2.2)],fun y=>[(6,.box (.agg [.int .i64 (x).kind,.str (x).pkg,.str (x).name,.int .i64 (x).n,.nils,.nils,.nils,.lst (.st .term) (y.2.2.1) (some 704),.int .i64 (x).pos])),(704,.tail (.st .term) y.2.2.1.length)],fun y=>y.1+(if y.2.2.2=true then 1 else 0)⟩)],[],[]⟩ func75 (I1 n l a x en ho hn hv hs hp)
theorem El(n:Nat)(hT:ab prog 37 (p2 (.lst (.st .token)) (.int .i64) fun l a=>⟨some (l.length<=4097/\aO l/\0<=a/\a<=(l.length:Int)/\((l.length:Int)-a).toNat+1<n),none,.tup [.st .term (aa l n a).1,.int .i64 (aa l n a).2.1,.st .fault (aa l n a).2.2],[]⟩)):ab prog 75 (L9 fun l a x en=>⟨some (l.length<=4097/\aO l/\0<=a/\a<=(l.length:Int)/\((l.length:Int)-a).toNat+1<n/\x.parts.length<=100000),none,.tup [.agg [.int .i64 (x).kind,.str (x).pkg,.str (x).name,.int .i64 (x).n,.nils,.nils,.nils,.lst (.st .term) ((dU l (aa l n) a x en).1.parts) (some 704),.int .i64 (x).pos],.int .i64 (dU l (aa l n) a x en).2.1,.st .fault (dU l (aa l n) a x en).2.2],[(704,.tail (.st .term) ((dU l (aa l n) a x en).1.parts).length)]⟩):=
 La I6 fun l a x en hn hv hs hp ho=>by have ho1:=ho _ rfl;exact yC n l a x en ho1 hn hv hs hp hT
theorem Em:aA prog 75:=ee func75
theorem vp(n:Nat)(l:List Tokn)(a:Int)(x:Trm)(en:Str)(ho:l.length<=4097/\aO l/\0<=a/\a<=(l.length:Int)/\((l.length:Int)-a).toNat+1<n/\x.parts.length<=100000)(hn:x.names=[])(hv:x.vars=[])(hs:x.shapes=[])(hT:ab prog 37 (p2 (.lst (.st .token)) (.int .i64) fun l a=>⟨some (l.length<=4097/\aO l/\0<=a/\a<=(l.length:Int)/\((l.length:Int)-a).toNat+1<n),none,.tup [.st .term (aa l n a).1,.int .i64 (aa l n a).2.1,.st .fault (aa l n a).2.2],[]⟩)):aB prog 75 [.lst (.st .token) l none,.int .i64 a,.agg [.int .i64 (x).kind,.str (x).pkg,.str (x).name,.int .i64 (x).n,.nils,.nils,.nils,.lst (.st .term) (x).parts (some 900),.int .i64 (x).pos],.str en] [(900,.tail (.st .term) x.parts.length)] (⟨some (l.length<=4097/\aO l/\0<=a/\a<=(l.length:Int)/\((l.length:Int)-a).toNat+1<n/\x.parts.length<=100000/\x.parts.length=x.parts.length),none,.tup [.agg [.int .i64 (x).kind,.str (x).pkg,.str (x).name,.int .i64 (x).n,.nils,.nils,.nils,.lst (.st .term) ((dU l (aa l n) a x en).1.parts) (some 900),.int .i64 (x).pos],.int .i64 (dU l (aa l n) a x en).2.1,.st .fault (dU l (aa l n) a x en).2.2],[(900,.tail (.st .term) ((dU l (aa l n) a x en).1.parts).length)]⟩):=
 g0 (sc dX (sc cQ (sc (hT) sn))) ⟨[(2,fun S0=>⟨Nat×Int×List Trm×Bool,fun y=>0<=y.2.1/\y.2.1<=(l.length:Int)/\((l.length:Int)-y.2.1).toNat+1<n/\(l.length:Int)-y.2.1<y.1/\y.2.2.1.length+y.1=x.parts.length+l.length+2/\(y.2.2.2=false->aw l (cH (aa l n)) [44] en x a=(tP x y.2.2.1,y.2.1,okF)/\y.2.1<(l.length:Int))/\(y.2.2.2=true->aP l (cH (aa l n)) [44] en y.1 (tP x y.2.2.1) y.2.1=aw l (cH (aa l n)) [44] en x a),fun y=>[(1,.int .i64 y.2.1),(11,.bool y.2.2.2)],fun y=>[(6,.box (.agg [.int .i64 (x).kind,.str (x).pkg,.str (x).name,.int .i64 (x).n,.nils,.nils,.nils,.lst (.st .term) (y.2.2.1) (some 900),.int .i64 (x).pos])),(900,.tail (.st .term) y.2.2.1.length)],fun y=>y.1+(if y.2.2.2=true then 1 else 0)⟩)],[],[]⟩ func75 (Eg n l a x en ho hn hv hs)
theorem BB(n:Nat)(hT:ab prog 37 (p2 (.lst (.st .token)) (.int .i64) fun l a=>⟨some (l.length<=4097/\aO l/\0<=a/\a<=(l.length:Int)/\((l.length:Int)-a).toNat+1<n),none,.tup [.st .term (aa l n a).1,.int .i64 (aa l n a).2.1,.st .fault (aa l n a).2.2],[]⟩)):ab prog 75 (Ea fun l a x en mp=>⟨some (l.length<=4097/\aO l/\0<=a/\a<=(l.length:Int)/\((l.length:Int)-a).toNat+1<n/\x.parts.length<=100000/\mp=x.parts.length),none,.tup [.agg [.int .i64 (x).kind,.str (x).pkg,.str (x).name,.int .i64 (x).n,.nils,.nils,.nils,.lst (.st .term) ((dU l (aa l n) a x en).1.parts) (some 900),.int .i64 (x).pos],.int .i64 (dU l (aa l n) a x en).2.1,.st .fault (dU l (aa l n) a x en).2.2],[(900,.tail (.st .term) ((dU l (aa l n) a x en).1.parts).length)]⟩):=
 HU Em fun l a x en mp hn hv hs ho=>by obtain⟨o0,o1,o2,o3,o4,o5,e0⟩:=ho _ rfl;subst e0;exact vp n l a x en ⟨o0,o1,o2,o3,o4,o5⟩ hn hv hs hT
theorem Ll:aA prog 69:=ee func69
theorem BC(n:Nat)(l:List Tokn)(a:Int)(x:Trm)(ho:l.length<=4097/\aO l/\0<=a/\a<=(l.length:Int)/\((l.length:Int)-a).toNat+1<n+1)(hn:x.names=[])(hv:x.vars=[])(hs:x.shapes=[])(hp:x.parts=[])(hT:ab prog 37 (p2 (.lst (.st .token)) (.int .i64) fun l a=>⟨some (l.length<=4097/\aO l/\0<=a/\a<=(l.length:Int)/\((l.length:Int)-a).toNat+1<n),none,.tup [.st .term (aa l n a).1,.int .i64 (aa l n a).2.1,.st .fault (aa l n a).2.2],[]⟩)):aB prog 69 [.lst (.st .token) l none,.int .i64 a,.agg [.int .i64 (x).kind,.str (x).pkg,.str (x).name,.int .i64 (x).n,.nils,.nils,.nils,.nils,.int .i64 (x).pos]] [] (⟨some (l.length<=4097/\aO l/\0<=a/\a<=(l.length:Int)/\((l.length:Int)-a).toNat+1<n+1),none,.tup [.st .term (qC l (aa l n) a x).1,.int .i64 (qC l (aa l n) a x).2.1,.st .fault (qC l (aa l n) a x).2.2],[]⟩):=
 g1 (fun f=>Nat.beq f 72||Nat.beq f 71) (fun _=>[]) nn nn nn (sc cQ (sc dX (sc mf (sc (BA) (sc (By n hT) sn))))) ⟨[(5,fun S0=>⟨Nat×Int×List Str×List AL.Shape×Bool,fun y=>0<=y.2.1/\y.2.1<=(l.length:Int)/\((l.length:Int)-y.2.1).toNat+1<n+1/\(l.length:Int)-y.2.1<y.1/\y.2.2.1.length+y.1<=5000/\y.2.2.2.1.length+y.1<=5000/\(y.2.2.2.2=false->aw l (dj l) [44] [41] x (ad l a [40]).1=((tNS x y.2.2.1 y.2.2.2.1),y.2.1,okF)/\y.2.1<(l.length:Int))/\(y.2.2.2.2=true->aP l (dj l) [44] [41] y.1 (tNS x y.2.2.1 y.2.2.2.1) y.2.1=aw l (dj l) [44] [41] x (ad l a [40]).1),fun y=>[(1,.int .i64 y.2.1),(10,.bool y.2.2.2.2)],fun y=>[(5,.box (.agg [.int .i64 (x).kind,.str (x).pkg,.str (x).name,.int .i64 (x).n,.lst .str (y.2.2.1) (some 701),.nils,.lst (.st .shape) (y.2.2.2.1) (some 703),.nils,.int .i64 (x).pos])),(701,.tail .str (y.2.2.1).length),(703,.tail (.st .shape) (y.2.2.2.1).length)],fun y=>y.1+(if y.2.2.2.2=true then 1 else 0)⟩)],[],[]⟩ func69 (Lj n l a x  ho hn hv hs hp)
theorem I7(n:Nat)(hT:ab prog 37 (p2 (.lst (.st .token)) (.int .i64) fun l a=>⟨some (l.length<=4097/\aO l/\0<=a/\a<=(l.length:Int)/\((l.length:Int)-a).toNat+1<n),none,.tup [.st .term (aa l n a).1,.int .i64 (aa l n a).2.1,.st .fault (aa l n a).2.2],[]⟩)):ab prog 69 (Bt fun l a x =>⟨some (l.length<=4097/\aO l/\0<=a/\a<=(l.length:Int)/\((l.length:Int)-a).toNat+1<n+1),none,.tup [.st .term (qC l (aa l n) a x).1,.int .i64 (qC l (aa l n) a x).2.1,.st .fault (qC l (aa l n) a x).2.2],[]⟩):=
 uv Ll fun l a x  hn hv hs hp ho=>by have ho1:=ho _ rfl;exact BC n l a x  ho1 hn hv hs hp hT
theorem I8:aA prog 74:=ee func74
theorem yD(n:Nat)(l:List Tokn)(a:Int)(x:Trm)(ho:l.length<=4097/\aO l/\0<=a/\a<=(l.length:Int)/\((l.length:Int)-a).toNat+1<n+1/\x.parts.length<=90000)(hn:x.names=[])(hv:x.vars=[])(hs:x.shapes=[])(hT:ab prog 37 (p2 (.lst (.st .token)) (.int .i64) fun l a=>⟨some (l.length<=4097/\aO l/\0<=a/\a<=(l.length:Int)/\((l.length:Int)-a).toNat+1<n),none,.tup [.st .term (aa l n a).1,.int .i64 (aa l n a).2.1,.st .fault (aa l n a).2.2],[]⟩)):aB prog 74 [.lst (.st .token) l none,.int .i64 a,.agg [.int .i64 (x).kind,.str (x).pkg,.str (x).name,.int .i64 (x).n,.nils,.nils,.nils,.lst (.st .term) (x).parts (some 900),.int .i64 (x).pos]] [(900,.tail (.st .term) x.parts.length)] (⟨some (l.length<=4097/\aO l/\0<=a/\a<=(l.length:Int)/\((l.length:Int)-a).toNat+1<n+1/\x.parts.length<=90000/\x.parts.length=x.parts.length),none,.tup [.agg [.int .i64 (x).kind,.str (x).pkg,.str (x).name,.int .i64 (x).n,.lst .str ((dN l (aa l n) a x).1.names) (some 701),.lst .str ((dN l (aa l n) a x).1.vars) (some 702),.lst (.st .shape) ((dN l (aa l n) a x).1.shapes) (some 703),.lst (.st .term) ((dN l (aa l n) a x).1.parts) (some 900),.int .i64 (x).pos],.int .i64 (dN l (aa l n) a x).2.1,.st .fault (dN l (aa l n) a x).2.2],[(701,.tail .str ((dN l (aa l n) a x).1.names).length),(702,.tail .str ((dN l (aa l n) a x).1.vars).length),(703,.tail (.st .shape) ((dN l (aa l n) a x).1.shapes).length),(900,.tail (.st .term) ((dN l (aa l n) a x).1.parts).length)]⟩):=
 g1 (fun f=>Nat.beq f 72||Nat.beq f 71) (fun _=>[]) nn nn nn (sc cQ (sc dX (sc mf (sc iL (sc (ow) (sc (vo n hT) sn)))))) ⟨[(2,fun S0=>⟨Nat×Int×List Str×List Str×List AL.Shape×List Trm×Bool,fun y=>0<=y.2.1/\y.2.1<=(l.length:Int)/\((l.length:Int)-y.2.1).toNat+1<n+1/\(l.length:Int)-y.2.1<y.1/\y.2.2.1.length+y.1<=5000/\y.2.2.2.1.length+y.1<=5000/\y.2.2.2.2.1.length+y.1<=5000/\y.2.2.2.2.2.1.length+y.1<=x.parts.length+5000/\(y.2.2.2.2.2.2=false->aw l (cr l (aa l n)) [124] [125] x a=((t4 x y.2.2.1 y.2.2.2.1 y.2.2.2.2.1 y.2.2.2.2.2.1),y.2.1,okF)/\y.2.1<(l.length:Int))/\(y.2.2.2.2.2.2=true->aP l (cr l (aa l n)) [124] [125] y.1 (t4 x y.2.2.1 y.2.2.2.1 y.2.2.2.2.1 y.2.2.2.2.2.1) y.2.1=aw l (cr l (aa l n)) [124] [125] x a),fun y=>[(1,.int .i64 y.2.1),(9,.bool y.2.2.2.2.2.2)],fun y=>[(5,.box (.agg [.int .i64 (x).kind,.str (x).pkg,.str (x).name,.int .i64 (x).n,.lst .str (y.2.2.1) (some 701),.lst .str (y.2.2.2.1) (some 702),.lst (.st .shape) (y.2.2.2.2.1) (some 703),.lst (.st .term) (y.2.2.2.2.2.1) (some 900),.int .i64 (x).pos])),(701,.tail .str (y.2.2.1).length),(702,.tail .str (y.2.2.2.1).length),(703,.tail (.st .shape) (y.2.2.2.2.1).length),(900,.tail (.st .term) (y.2.2.2.2.2.1).length)],fun y=>y.1+(if y.2.2.2.2.2.2=true then 1 else 0)⟩)],[],[]⟩ func74 (I2 n l a x  ho hn hv hs)
theorem En(n:Nat)(hT:ab prog 37 (p2 (.lst (.st .token)) (.int .i64) fun l a=>⟨some (l.length<=4097/\aO l/\0<=a/\a<=(l.length:Int)/\((l.length:Int)-a).toNat+1<n),none,.tup [.st .term (aa l n a).1,.int .i64 (aa l n a).2.1,.st .fault (aa l n a).2.2],[]⟩)):ab prog 74 (Eb fun l a x mp=>⟨some (l.length<=4097/\aO l/\0<=a/\a<=(l.length:Int)/\((l.length:Int)-a).toNat+1<n+1/\x.parts.length<=90000/\mp=x.parts.length),none,.tup [.agg [.int .i64 (x).kind,.str (x).pkg,.str (x).name,.int .i64 (x).n,.lst .str ((dN l (aa l n) a x).1.names) (some 701),.lst .str ((dN l (aa l n) a x).1.vars) (some 702),.lst (.st .shape) ((dN l (aa l n) a x).1.shapes) (some 703),.lst (.st .term) ((dN l (aa l n) a x).1.parts) (some 900),.int .i64 (x).pos],.int .i64 (dN l (aa l n) a x).2.1,.st .fault (dN l (aa l n) a x).2.2],[(701,.tail .str ((dN l (aa l n) a x).1.names).length),(702,.tail .str ((dN l (aa l n) a x).1.vars).length),(703,.tail (.st .shape) ((dN l (aa l n) a x).1.shapes).length),(900,.tail (.st .term) ((dN l (aa l n) a x).1.parts).length)]⟩):=
 HV I8 fun l a x mp hn hv hs ho=>by obtain⟨o0,o1,o2,o3,o4,o5,e0⟩:=ho _ rfl;subst e0;exact yD n l a x  ⟨o0,o1,o2,o3,o4,o5⟩ hn hv hs hT
theorem BD:aA prog 174:=ee func174
theorem uC(n:Nat)(l:List Tokn)(a:Int)(x:Trm)(ho:l.length<=4097/\aO l/\0<=a/\a<=(l.length:Int)/\((l.length:Int)-a).toNat+1<n+1)(hn:x.names=[])(hv:x.vars=[])(hs:x.shapes=[])(hp:x.parts=[])(hT:ab prog 37 (p2 (.lst (.st .token)) (.int .i64) fun l a=>⟨some (l.length<=4097/\aO l/\0<=a/\a<=(l.length:Int)/\((l.length:Int)-a).toNat+1<n),none,.tup [.st .term (aa l n a).1,.int .i64 (aa l n a).2.1,.st .fault (aa l n a).2.2],[]⟩)):aB prog 174 [.lst (.st .token) l none,.int .i64 a,.agg [.int .i64 (x).kind,.str (x).pkg,.str (x).name,.int .i64 (x).n,.nils,.nils,.nils,.nils,.int .i64 (x).pos]] [] (⟨some (l.length<=4097/\aO l/\0<=a/\a<=(l.length:Int)/\((l.length:Int)-a).toNat+1<n+1),none,.tup [.st .term (gw l (aa l n) a x).1,.int .i64 (gw l (aa l n) a x).2.1,.st .fault (gw l (aa l n) a x).2.2],[]⟩):=
 g1 (fun f=>Nat.beq f 71) (fun _=>[]) nn nn nn (sc cQ (sc dX (sc mf (sc (Bz n hT) sn)))) ⟨[(2,fun S0=>⟨Nat×Int×List Str×List Trm×Bool,fun y=>0<=y.2.1/\y.2.1<=(l.length:Int)/\((l.length:Int)-y.2.1).toNat+1<n+1/\(l.length:Int)-y.2.1<y.1/\y.2.2.1.length+y.1<=5000/\y.2.2.2.1.length+y.1<=x.parts.length+5000/\(y.2.2.2.2=false->aw l (cO l (aa l n)) [44] [125] x a=((tNP x y.2.2.1 y.2.2.2.1),y.2.1,okF)/\y.2.1<(l.length:Int))/\(y.2.2.2.2=true->aP l (cO l (aa l n)) [44] [125] y.1 (tNP x y.2.2.1 y.2.2.2.1) y.2.1=aw l (cO l (aa l n)) [44] [125] x a),fun y=>[(1,.int .i64 y.2.1),(9,.bool y.2.2.2.2)],fun y=>[(5,.box (.agg [.int .i64 (x).kind,.str (x).pkg,.str (x).name,.int .i64 (x).n,.lst .str (y.2.2.1) (some 701),.nils,.nils,.lst (.st .term) (y.2.2.2.1) (some 704),.int .i64 (x).pos])),(701,.tail .str (y.2.2.1).length),(704,.tail (.st .term) (y.2.2.2.1).length)],fun y=>y.1+(if y.2.2.2.2=true then 1 else 0)⟩)],[],[]⟩ func174 (Bw n l a x  ho hn hv hs hp)
theorem yE(n:Nat)(hT:ab prog 37 (p2 (.lst (.st .token)) (.int .i64) fun l a=>⟨some (l.length<=4097/\aO l/\0<=a/\a<=(l.length:Int)/\((l.length:Int)-a).toNat+1<n),none,.tup [.st .term (aa l n a).1,.int .i64 (aa l n a).2.1,.st .fault (aa l n a).2.2],[]⟩)):ab prog 174 (Bt fun l a x =>⟨some (l.length<=4097/\aO l/\0<=a/\a<=(l.length:Int)/\((l.length:Int)-a).toNat+1<n+1),none,.tup [.st .term (gw l (aa l n) a x).1,.int .i64 (gw l (aa l n) a x).2.1,.st .fault (gw l (aa l n) a x).2.2],[]⟩):=
 uv BD fun l a x  hn hv hs hp ho=>by have ho1:=ho _ rfl;exact uC n l a x  ho1 hn hv hs hp hT
theorem Eo:aA prog 175:=ee func175
theorem vq(n:Nat)(l:List Tokn)(a:Int)(x:Trm)(kk:Int)(ho:l.length<=4097/\aO l/\0<=a/\a<=(l.length:Int)/\((l.length:Int)-a).toNat+1<n+1/\¬kk=0)(hn:x.names=[])(hv:x.vars=[])(hs:x.shapes=[])(hp:x.parts=[])(hT:ab prog 37 (p2 (.lst (.st .token)) (.int .i64) fun l a=>⟨some (l.length<=4097/\aO l/\0<=a/\a<=(l.length:Int)/\((l.length:Int)-a).toNat+1<n),none,.tup [.st .term (aa l n a).1,.int .i64 (aa l n a).2.1,.st .fault (aa l n a).2.2],[]⟩)):aB prog 175 [.lst (.st .token) l none,.int .i64 a,.agg [.int .i64 (x).kind,.str (x).pkg,.str (x).name,.int .i64 (x).n,.nils,.nils,.nils,.nils,.int .i64 (x).pos],.int .i64 kk] [] (⟨some (l.length<=4097/\aO l/\0<=a/\a<=(l.length:Int)/\((l.length:Int)-a).toNat+1<n+1/\¬kk=0),none,.tup [.st .term (fD l (aa l n) a x kk).1,.int .i64 (fD l (aa l n) a x kk).2.1,.st .fault (fD l (aa l n) a x kk).2.2],[]⟩):=
 g1 (fun f=>Nat.beq f 71) (fun _=>[]) nn nn nn (sc iL (sc cQ (sc (wF n hT) sn))) a0 func175 (Eh n l a x kk ho hn hv hs hp)
theorem BE(n:Nat)(hT:ab prog 37 (p2 (.lst (.st .token)) (.int .i64) fun l a=>⟨some (l.length<=4097/\aO l/\0<=a/\a<=(l.length:Int)/\((l.length:Int)-a).toNat+1<n),none,.tup [.st .term (aa l n a).1,.int .i64 (aa l n a).2.1,.st .fault (aa l n a).2.2],[]⟩)):ab prog 175 (Lb fun l a x kk=>⟨some (l.length<=4097/\aO l/\0<=a/\a<=(l.length:Int)/\((l.length:Int)-a).toNat+1<n+1/\¬kk=0),none,.tup [.st .term (fD l (aa l n) a x kk).1,.int .i64 (fD l (aa l n) a x kk).2.1,.st .fault (fD l (aa l n) a x kk).2.2],[]⟩):=
 Lc Eo fun l a x kk hn hv hs hp ho=>by have ho1:=ho _ rfl;exact vq n l a x kk ho1 hn hv hs hp hT
theorem Ep:aA prog 173:=ee func173
theorem vr(n:Nat)(l:List Tokn)(a:Int)(x:Trm)(ho:l.length<=4097/\aO l/\0<=a/\a<=(l.length:Int)/\((l.length:Int)-a).toNat+1<n/\x=de 0 x.pos)(hn:x.names=[])(hv:x.vars=[])(hs:x.shapes=[])(hp:x.parts=[])(hT:ab prog 37 (p2 (.lst (.st .token)) (.int .i64) fun l a=>⟨some (l.length<=4097/\aO l/\0<=a/\a<=(l.length:Int)/\((l.length:Int)-a).toNat+1<n),none,.tup [.st .term (aa l n a).1,.int .i64 (aa l n a).2.1,.st .fault (aa l n a).2.2],[]⟩)):aB prog 173 [.lst (.st .token) l none,.int .i64 a,.agg [.int .i64 (x).kind,.str (x).pkg,.str (x).name,.int .i64 (x).n,.nils,.nils,.nils,.nils,.int .i64 (x).pos]] [] (⟨some (l.length<=4097/\aO l/\0<=a/\a<=(l.length:Int)/\((l.length:Int)-a).toNat+1<n/\x=de 0 x.pos),none,.tup [.st .term (ie l (aa l n) a x.pos).1,.int .i64 (ie l (aa l n) a x.pos).2.1,.st .fault (ie l (aa l n) a x.pos).2.2],[]⟩):=
 g1 (fun f=>Nat.beq f 72) (fun _=>[]) nn nn nn (sc dX (sc cQ (sc (hT) (sc (uB) sn)))) a0 func173 (Ei n l a x  ho hn hv hs hp)
theorem BF(n:Nat)(hT:ab prog 37 (p2 (.lst (.st .token)) (.int .i64) fun l a=>⟨some (l.length<=4097/\aO l/\0<=a/\a<=(l.length:Int)/\((l.length:Int)-a).toNat+1<n),none,.tup [.st .term (aa l n a).1,.int .i64 (aa l n a).2.1,.st .fault (aa l n a).2.2],[]⟩)):ab prog 173 (Bt fun l a x =>⟨some (l.length<=4097/\aO l/\0<=a/\a<=(l.length:Int)/\((l.length:Int)-a).toNat+1<n/\x=de 0 x.pos),none,.tup [.st .term (ie l (aa l n) a x.pos).1,.int .i64 (ie l (aa l n) a x.pos).2.1,.st .fault (ie l (aa l n) a x.pos).2.2],[]⟩):=
 uv Ep fun l a x  hn hv hs hp ho=>by have ho1:=ho _ rfl;exact vr n l a x  ho1 hn hv hs hp hT
theorem I9:aA prog 121:=ee func121
theorem yF(n:Nat)(l:List Tokn)(a:Int)(ho:l.length<=4097/\aO l/\0<=a/\a<=(l.length:Int)/\((l.length:Int)-a).toNat+1<n+1)(hT:ab prog 37 (p2 (.lst (.st .token)) (.int .i64) fun l a=>⟨some (l.length<=4097/\aO l/\0<=a/\a<=(l.length:Int)/\((l.length:Int)-a).toNat+1<n),none,.tup [.st .term (aa l n a).1,.int .i64 (aa l n a).2.1,.st .fault (aa l n a).2.2],[]⟩)):aB prog 121 [.lst (.st .token) l none,.int .i64 a] [] (⟨some (l.length<=4097/\aO l/\0<=a/\a<=(l.length:Int)/\((l.length:Int)-a).toNat+1<n+1),none,.tup [.st .term (gq l (aa l n) a).1,.int .i64 (gq l (aa l n) a).2.1,.st .fault (gq l (aa l n) a).2.2],[]⟩):=
 g0 (sc fA (sc dX (sc iL (sc o6 (sc (BF n hT) (sc (yE n hT) (sc (BE n hT) sn))))))) ⟨[(7,fun S0=>⟨Nat,fun k=>k<=(az l a).text.length,fun k=>[(9,.int .i64 k)],fun k=>[(8,.box (.agg [.int .i64 1,.str [],.str [],.int .i64 (ei ((az l a).text.take k)),.nils,.nils,.nils,.nils,.int .i64 (az l a).pos]))],fun k=>(az l a).text.length-k⟩)],[],[]⟩ func121 (I3 n l a ho)
theorem Er(n:Nat)(hT:ab prog 37 (p2 (.lst (.st .token)) (.int .i64) fun l a=>⟨some (l.length<=4097/\aO l/\0<=a/\a<=(l.length:Int)/\((l.length:Int)-a).toNat+1<n),none,.tup [.st .term (aa l n a).1,.int .i64 (aa l n a).2.1,.st .fault (aa l n a).2.2],[]⟩)):ab prog 121 (p2 (.lst (.st .token)) (.int .i64) fun l a=>⟨some (l.length<=4097/\aO l/\0<=a/\a<=(l.length:Int)/\((l.length:Int)-a).toNat+1<n+1),none,.tup [.st .term (gq l (aa l n) a).1,.int .i64 (gq l (aa l n) a).2.1,.st .fault (gq l (aa l n) a).2.2],[]⟩):=
 dB I9 fun l a _ _ ho=>yF n l a (ho _ rfl) hT
theorem Ia:aA prog 76:=ee func76
theorem yG(n:Nat)(l:List Tokn)(a:Int)(ho:l.length<=4097/\aO l/\0<=a/\a<=(l.length:Int)/\((l.length:Int)-a).toNat+1<n+1)(hT:ab prog 37 (p2 (.lst (.st .token)) (.int .i64) fun l a=>⟨some (l.length<=4097/\aO l/\0<=a/\a<=(l.length:Int)/\((l.length:Int)-a).toNat+1<n),none,.tup [.st .term (aa l n a).1,.int .i64 (aa l n a).2.1,.st .fault (aa l n a).2.2],[]⟩)):aB prog 76 [.lst (.st .token) l none,.int .i64 a] [] (⟨some (l.length<=4097/\aO l/\0<=a/\a<=(l.length:Int)/\((l.length:Int)-a).toNat+1<n+1),none,.tup [.st .term (jd l (aa l n) a).1,.int .i64 (jd l (aa l n) a).2.1,.st .fault (jd l (aa l n) a).2.2],[]⟩):=
 g1 (fun f=>Nat.beq f 75) (fun _=>[]) nn nn nn (sc fA (sc dX (sc iL (sc (Er n hT) (sc (BB n hT) sn))))) ⟨[(3,fun S0=>⟨Nat×Trm×Int×Flt,fun y=>(y.2.2.2.err=0->a<y.2.2.1/\y.2.2.1<=(l.length:Int)/\(l.length:Int)-y.2.2.1<y.1)/\eV l (aa l n) (az l a).pos y.1 y.2=jd l (aa l n) a,fun y=>[(1,.int .i64 y.2.2.1)],fun y=>[(8,.box (.st .term y.2.1)),(9,.box (.st .fault y.2.2.2))],fun y=>y.1⟩)],[],[]⟩ func76 (I4 n l a ho)
theorem Es(n:Nat)(hT:ab prog 37 (p2 (.lst (.st .token)) (.int .i64) fun l a=>⟨some (l.length<=4097/\aO l/\0<=a/\a<=(l.length:Int)/\((l.length:Int)-a).toNat+1<n),none,.tup [.st .term (aa l n a).1,.int .i64 (aa l n a).2.1,.st .fault (aa l n a).2.2],[]⟩)):ab prog 76 (p2 (.lst (.st .token)) (.int .i64) fun l a=>⟨some (l.length<=4097/\aO l/\0<=a/\a<=(l.length:Int)/\((l.length:Int)-a).toNat+1<n+1),none,.tup [.st .term (jd l (aa l n) a).1,.int .i64 (jd l (aa l n) a).2.1,.st .fault (jd l (aa l n) a).2.2],[]⟩):=
 dB Ia fun l a _ _ ho=>yG n l a (ho _ rfl) hT
theorem wG:aA prog 37:=ee func37
theorem yH(n:Nat)(l:List Tokn)(a:Int)(ho:l.length<=4097/\aO l/\0<=a/\a<=(l.length:Int)/\((l.length:Int)-a).toNat+1<n+1)(hT:ab prog 37 (p2 (.lst (.st .token)) (.int .i64) fun l a=>⟨some (l.length<=4097/\aO l/\0<=a/\a<=(l.length:Int)/\((l.length:Int)-a).toNat+1<n),none,.tup [.st .term (aa l n a).1,.int .i64 (aa l n a).2.1,.st .fault (aa l n a).2.2],[]⟩)):aB prog 37 [.lst (.st .token) l none,.int .i64 a] [] (⟨some (l.length<=4097/\aO l/\0<=a/\a<=(l.length:Int)/\((l.length:Int)-a).toNat+1<n+1),none,.tup [.st .term (aa l (n+1) a).1,.int .i64 (aa l (n+1) a).2.1,.st .fault (aa l (n+1) a).2.2],[]⟩):=
 g1 (fun f=>Nat.beq f 71||Nat.beq f 72||Nat.beq f 74||Nat.beq f 75) (fun _=>[]) nn nn nn (sc fA (sc dX (sc iL (sc cQ (sc (I7 n hT) (sc (wF n hT) (sc (uB) (sc (En n hT) (sc (ow) (sc (El n hT) (sc (Es n hT) sn))))))))))) a0 func37 (I5 n l a ho)
theorem uD:∀n:Nat,ab prog 37 (p2 (.lst (.st .token)) (.int .i64) fun l a=>⟨some (l.length<=4097/\aO l/\0<=a/\a<=(l.length:Int)/\((l.length:Int)-a).toNat+1<n),none,.tup [.st .term (aa l n a).1,.int .i64 (aa l n a).2.1,.st .fault (aa l n a).2.2],[]⟩)
 |0=>dB wG fun l a _ _ ho=>absurd (ho _ rfl).2.2.2.2 (Ql _)
 |n+1=>dB wG fun l a _ _ ho=>yH n l a (ho _ rfl) (uD n)
end Go.AL.Seat
end
section
namespace Go.Pd
open Go.AL
mutual
def fF:Trm->Int->Int
 |⟨_,_,_,_,_,_,_,ps,_⟩,m=>sizeTL ps 1 m
def sizeTL:List Trm->Int->Int->Int
 |[],n,_=>n
 |p::r,n,m=>if n<=m then sizeTL r (n+fF p (m-n)) m else n
end
mutual
def deepT:Trm->Nat
 |⟨_,_,_,_,_,_,_,ps,_⟩=>maxDT ps+1
def maxDT:List Trm->Nat
 |[]=>0
 |p::r=>max (deepT p) (maxDT r)
end
mutual
theorem sizeT_bd:∀(s:Trm)(m:Int),0<=m->1<=fF s m/\fF s m<=m+1
 |⟨_,_,_,_,_,_,_,ps,_⟩,m,h=>by simp only[fF];exact sizeTL_bd ps 1 m (by omega) (by omega)
theorem sizeTL_bd:∀(l:List Trm)(n m:Int),1<=n->n<=m+1->1<=sizeTL l n m/\sizeTL l n m<=m+1
 |[],n,m,h1,h2=>by simp only[sizeTL];omega
 |p::r,n,m,h1,h2=>by
  simp only[sizeTL];split
  ·have:=sizeT_bd p (m-n) (by omega);exact sizeTL_bd r _ m (by omega) (by omega)
  ·omega
end
mutual
theorem deepT_sz:∀s:Trm,deepT s<=szT s
 |⟨_,_,_,_,_,_,_,ps,_⟩=>by have:=maxDT_sz ps;simp only[deepT,szT];omega
theorem maxDT_sz:∀l:List Trm,maxDT l<=szTL l
 |[]=>ON _
 |p::r=>by have:=deepT_sz p;have:=maxDT_sz r;simp only[maxDT,szTL];omega
end
mutual
theorem sizeT_eq:∀(s:Trm)(m:Int),0<=m->fF s m=min (szT s:Int) (m+1)
 |⟨_,_,_,_,_,_,_,ps,_⟩,m,h=>by simp only[fF,szT];rw[sizeTL_eq ps 1 m (by omega)];omega
theorem sizeTL_eq:∀(l:List Trm)(n m:Int),n<=m+1->sizeTL l n m=min (n+szTL l) (m+1)
 |[],n,m,h=>by simp only[sizeTL,szTL];omega
 |p::r,n,m,h=>by
  simp only[sizeTL,szTL];have:=kt p;split
  ·rw[sizeT_eq p (m-n) (by omega),sizeTL_eq r _ m (by omega)];omega
  ·omega
end
mutual
theorem countT_size:∀(s:Trm)(m:Int),0<=m->(countT s m).1=min (szT s:Int) (m+1)
 |⟨_,_,_,_,_,_,_,ps,_⟩,m,h=>by simp only[countT,szT];rw[countL_size ps m 1 0 (by omega)];omega
theorem countL_size:∀(l:List Trm)(m n d:Int),n<=m+1->(countL l m n d).1=min (n+szTL l) (m+1)
 |[],m,n,d,h=>by simp only[countL,szTL];omega
 |p::r,m,n,d,h=>by
  simp only[countL,szTL];have:=kt p;split
  ·show n=_;omega
  ·rw[countL_size r m _ _ (by rw[countT_size p (m-n) (by omega)];omega),countT_size p (m-n) (by omega)];omega
end
mutual
theorem countT_deep:∀(s:Trm)(m:Int),(szT s:Int)<=m->(countT s m).2=deepT s
 |⟨_,_,_,_,_,_,_,ps,_⟩,m,h=>by simp only[szT]at h;simp only[countT,deepT];rw[countL_deep ps m 1 0 (by omega) (by omega)];omega
theorem countL_deep:∀(l:List Trm)(m n d:Int),n+szTL l<=m->0<=d->(countL l m n d).2=max d (maxDT l)
 |[],m,n,d,h,h0=>by simp only[countL,maxDT];omega
 |p::r,m,n,d,h,h0=>by
  simp only[szTL]at h;simp only[countL,maxDT];rw[OA (by omega)];have e1:(countT p (m-n)).1=szT p:=by rw[countT_size p (m-n) (by omega)];omega
  rw[countL_deep r m _ _ (by rw[e1];omega) (by omega),countT_deep p (m-n) (by omega)];omega
end
theorem Et(t:Trm):bF t=if 4096<fF t 4096 then 3 else if 40<(deepT t:Int)then 91 else if allT aS t=true then 0 else 80:=by
 unfold bF;rw[countT_size t 4096 (by omega),sizeT_eq t 4096 (by omega)];by_cases h:(4096:Int)<min (szT t:Int) (4096+1)
 ·rw[OB h,OB h]
 ·rw[OA h,OA h,countT_deep t 4096 (by omega)]
mutual
def eqT:Trm->Trm->Bool->Bool
 |⟨k,g,q,z,ns,vs,ss,ps,pp⟩,⟨k',g',q',z',ns',vs',ss',ps',pp'⟩,b=>
  decide (k=k')&&decide (g=g')&&decide (q=q')&&decide (z=z')&&(!b||decide (pp=pp'))&&decide (ns=ns')&&decide (vs=vs')&&eqL ss ss'&&eqTL ps ps' b
def eqTL:List Trm->List Trm->Bool->Bool
 |[],[],_=>true
 |x::r,y::s,b=>eqT x y b&&eqTL r s b
 |_,_,_=>false
end
theorem uE:∀{l m:List Trm} {b:Bool},l.length≠m.length->eqTL l m b=false
 |[],[],_,h=>absurd rfl h
 |[],_::_,_,_=>rfl
 |_::_,[],_,_=>rfl
 |x::r,y::s,b,h=>by rw[eqTL,uE (l:=r) (m:=s) (by simpa using h),Ps]
theorem gB(a c:Trm)(b:Bool):eqT a c b=(decide (a.kind=c.kind)&&decide (a.pkg=c.pkg)&&decide (a.name=c.name)&&decide (a.n=c.n)&&(!b||decide (a.pos=c.pos))&&decide (a.names=c.names)&&decide (a.vars=c.vars)&&eqL a.shapes c.shapes&&eqTL a.parts c.parts b):=by cases a;cases c;rw[eqT]
mutual
theorem eqS_self:∀a:Shape,eqS a a=true
 |⟨k,p,m,ns,ps⟩=>by simp[eqS,eqL_self ps]
theorem eqL_self:∀l:List Shape,eqL l l=true
 |[]=>by simp[eqL]
 |a::r=>by simp[eqL,eqS_self a,eqL_self r]
end
mutual
theorem eqT_self:∀(a:Trm)(b:Bool),eqT a a b=true
 |⟨k,g,q,z,ns,vs,ss,ps,pp⟩,b=>by simp[eqT,eqL_self ss,eqTL_self ps b]
theorem eqTL_self:∀(l:List Trm)(b:Bool),eqTL l l b=true
 |[],b=>by simp[eqTL]
 |a::r,b=>by simp[eqTL,eqT_self a b,eqTL_self r b]
end
def fY(ns:List Str)(b:Bool):Bool:=ns.all aX&&(!b||decide ns.Nodup)
def jg(t:Trm)(n v s p:Int):Bool:=decide ((t.names.length:Int)=n)&&decide ((t.vars.length:Int)=v)&&decide ((t.shapes.length:Int)=s)&&decide ((t.parts.length:Int)=p)
def mg(s:Str):Nat->Nat->List Int->List Int×Flt
 |0,_,acc=>(acc,⟨0,0⟩)
 |f+1,i,acc=>if i<s.length then(if dE (s.drop i)=0 then([],⟨30,i⟩)else mg s f (i+dE (s.drop i)) (acc++[(hZ (s.drop i)).1]))else(acc,⟨0,0⟩)
def kK(s:Str):List Int×Flt:=mg s (s.length+1) 0 []
end Go.Pd
end
section
namespace Go.Pd
open Go.AL
theorem uF:∀(f:Nat)(s:Str)(i:Nat)(acc:List Int),s.length-i<f->i<=s.length->((mg s f i acc).2.err=0↔j8 s i=none)
 |0,s,i,acc,h,_=>absurd h (Ql _)
 |f+1,s,i,acc,h,hi=>by
  rw[mg];by_cases k:i<s.length
  ·rw[OB k];by_cases b:dE (s.drop i)=0
   ·rw[OB b,vR k b];simp
   ·rw[OA b,oI k b];have:=lY (s:=s) (n:=i) hi;exact uF f s _ _ (by omega) this
  ·rw[OA k,vQ (by omega)];simp
theorem uG(s:Str):(kK s).2.err=0↔dF s=none:=by rw[<-CG];exact uF _ s 0 [] (by omega) (OJ _)
theorem Eu{s:Str}(h:s.all eJ=true):decide ((kK s).2.err=0)=kx s:=by
 unfold kx;rw[h,OY]
 cases e:dF s with|none=>rw[Xd ((uG s).2 e)];rfl|some k=>rw[Xf (fun q=>by have:=(uG s).1 q;rw[e]at this;cases this)];rfl
theorem Ib{c:Prop}[Decidable c]{a b:Bool}{P:Prop}(h:(if c then a else b)=true)(f:a=true->P)(g:b=true->P):P:=by
 by_cases k:c
 ·rw[OB k]at h;exact f h
 ·rw[OA k]at h;exact g h
theorem uH{t:Trm}(h:nf t=true):nc t.names=true/\t.vars.all aX=true:=by
 unfold nf hU at h
 repeat' (refine Ib h (fun h=>?_) (fun h=>?_))
 all_goals simp only[OF,OK,P9]at h
 all_goals refine⟨?_,?_⟩
 all_goals first
  |exact h.1.2|exact h.1.1.2
  |(have e1:=OR (l:=t.vars) (by omega);rw[e1];rfl)
  |(have e1:=OR (l:=t.names) (by omega);rw[e1];rfl)
  |exact h.elim
theorem Ev{t:Trm}(h:fY t.names true=false):aS t=false:=by rw[P5];intro e;unfold aS at e;rw[OF]at e;have:=(uH e.2).1;unfold nc at this;unfold fY at h;simp at this h;exact h this.1 this.2
theorem Ic{t:Trm}(h:fY t.vars false=false):aS t=false:=by rw[P5];intro e;unfold aS at e;rw[OF]at e;have:=(uH e.2).2;unfold fY at h;rw[this]at h;simp at h
def fZ(t:Trm):Bool:=allT (fun x=>decide (x.name.length<=100000)&&decide (x.names.length<=1000000)) t
theorem Ew{t x:Trm}(h:fZ t=true)(hx:x∈t.parts):fZ x=true:=by unfold fZ at h⊢;rw[iT,OF,iI]at h;exact P0.1 h.2 x hx
theorem Ex{t:Trm}(h:fZ t=true):t.name.length<=100000/\t.names.length<=1000000:=by unfold fZ at h;rw[iT,OF,OF,OK,OK]at h;exact h.1
end Go.Pd
end
section
open Go Go.AL Go.Pd
namespace Go.AL.Seat
theorem Ie(ns:List Str)(b:Bool)(hl:Wf (.lst .str) ns) :
  let A:=(0:Int);let B:=True;let C:=ns=ns/\b=b/\B;let D:=(↑(List.length ns):Int);let E:=dfl Ty.str;let F:=B/\false=fY ns b/\B;let G:=b=false;let H:=(0:Nat);let I:=ns=ns/\b=b/\true=true/\false=false/\B;let J:=(1:Int);(∃(x:Nat),let K:=List.take x ns;(x<=List.length ns/\List.all K aX=true/\(b=true->List.Nodup K))/\A=(↑x:Int)/\C)/\∀(x:Nat),let K:=List.take x ns;let L:=(↑x:Int);let M:=A<=L/\L<D;let N:=Int.toNat L;let O:=inR IntKind.i64 (L+J)/\∃(y:Nat),let P:=List.take y ns;(y<=List.length ns/\List.all P aX=true/\(b=true->List.Nodup P))/\List.length ns-y<List.length ns-x/\L+J=(↑y:Int)/\C;x<=List.length ns/\List.all K aX=true/\(b=true->List.Nodup K)->if decide (L<D)=true then M/\if(!aX (List.getD ns N E))=true then F else(∃(x_1:Nat),let P:=(↑x_1:Int);(P<=L/\(b=true->¬List.getD ns N E∈List.take x_1 ns)/\(G->x_1=H))/\A=P/\L=L/\I)/\∀(x_1:Nat),let P:=(↑x_1:Int);P<=L/\(b=true->¬List.getD ns N E∈List.take x_1 ns)/\(G->x_1=H)->if decide (P<L)=true then if b=true then(A<=P/\P<D)/\M/\if decide (List.getD ns (Int.toNat P) E=List.getD ns N E)=true then F else inR IntKind.i64 (P+J)/\∃(y:Nat),((↑y:Int)<=L/\(b=true->¬List.getD ns N E∈List.take y ns)/\(G->y=H))/\Int.toNat L-y<Int.toNat L-x_1/\P+J=(↑y:Int)/\L=L/\I else O else O else B/\true=fY ns b/\B:=by
 conv=>zeta
 have ln:=hl.len;simp only[OH,PO,Ph,Pb];refine⟨⟨0,⟨OJ _,by simp,by simp⟩,rfl⟩,?_⟩;rintro k ⟨h1,h2,h3⟩;apply a6<;>intro h
 ·replace h:=Xo h;have hk:k<ns.length:=by omega
  have hmem:=bO ns k (dfl .str) hk;have ht:=dW ns k (dfl .str) hk;refine⟨by omega,a6 (fun a=>?_) (fun a=>?_)⟩
  ·have a':ns.all aX=false:=by rw[P5];intro e;have:=P0.1 e _ hmem;rw[this]at a;simp at a
   unfold fY;rw[a'];simp
  ·have a':aX (ns.getD k (dfl .str))=true:=by simpa using a
   refine⟨⟨0,⟨by omega,by simp,fun _=>rfl⟩,rfl⟩,?_⟩;rintro j ⟨j1,j2,j3⟩
   have nextk:(b=true->j=k)->inR IntKind.i64 ((k:Int)+1)/\∃y:Nat,(y<=ns.length/\(ns.take y).all aX=true/\(b=true->(ns.take y).Nodup))/\ns.length-y<ns.length-k/\(k:Int)+1=(y:Int):=by
    intro hjk;refine⟨ba hk ln,k+1,⟨by omega,?_,fun hb=>?_⟩,by omega,by omega⟩
    ·rw[ht,Qa,h2];simpa using a'
    ·obtain rfl:=hjk hb;rw[ht,List.nodup_append];refine⟨h3 hb,by simp,fun x hx y hy=>?_⟩;rw[Pp]at hy;subst hy;intro e;subst e;exact j2 hb hx
   apply a6<;>intro b1
   ·replace b1:=Xo b1;have hj:j<k:=by omega
    have hjn:j<ns.length:=by omega
    have htj:=dW ns j (dfl .str) hjn;apply a6<;>intro hb
    ·refine⟨by omega,by omega,a6 (fun c=>?_) (fun c=>?_)⟩
     ·replace c:=Xo c;have hnd:¬ns.Nodup:=by intro hn;rw[QO]at hn;have:=Qj.1 hn j k hjn hk hj;rw[OG,OG,OC hjn,OC hk]at c;exact this c
      unfold fY;simp[hnd,hb]
     ·refine⟨ba hjn ln,j+1,⟨by omega,fun _=>?_,fun q=>by rw[hb]at q;cases q⟩,by omega,by omega⟩;rw[htj,Po,Pp,Ry];exact⟨j2 hb,fun e=>c (Xd e.symm)⟩
    ·exact nextk (fun q=>absurd q hb)
   ·refine nextk (fun _=>?_);have:¬((j:Int)<(k:Int)):=fun e=>b1 (Xd e);omega
 ·replace h:¬((k:Int)<(ns.length:Int)):=fun e=>h (Xd e);have e:k=ns.length:=by omega
  subst e;rw[Pt]at h2 h3;unfold fY;rw[h2];cases b
  ·simp
  ·simp[h3]
theorem Ey(n:Nat)(s:Shape)(hs:Wf (.st .shape) s)(hn:sz s<=n+1) :
  let A:=s=s/\s=s/\True;let B:=(↑(List.length s.parts):Int);let C:=dfl (Ty.st SN.shape);(∃(x:Nat),(x<=List.length s.parts/\allS bh s=(bh s&&allL bh (List.drop x s.parts)))/\(0:Int)=(↑x:Int)/\A)/\∀(x:Nat),let D:=(↑x:Int);let E:=List.getD s.parts (Int.toNat D) C;x<=List.length s.parts/\allS bh s=(bh s&&allL bh (List.drop x s.parts))->if decide (D<B)=true then((0:Int)<=D/\D<B)/\sz E<=n/\if(!allS bh E)=true then True/\true=!allS bh s/\True else inR IntKind.i64 (D+(1:Int))/\∃(y:Nat),(y<=List.length s.parts/\allS bh s=(bh s&&allL bh (List.drop y s.parts)))/\List.length s.parts-y<List.length s.parts-x/\D+(1:Int)=(↑y:Int)/\A else True/\decide (s.kind=(10:Int))=!allS bh s/\True:=by
 conv=>zeta
 have ln:=hs.parts.len;have hz:=pz s;simp only[OH,PO,Ph,Pb];refine⟨⟨0,⟨OJ _,by rw[nN];rfl⟩,rfl⟩,?_⟩;rintro k ⟨h1,h3⟩;apply a6<;>intro h
 ·replace h:=Xo h;have hk:k<s.parts.length:=by omega
  have hm:=jU (bO s.parts k (dfl (.st .shape)) hk);rw[aJ s.parts k (dfl (.st .shape)) hk]at h3;simp only[allL]at h3;refine⟨by omega,by omega,a6 (fun e=>?_) (fun e=>?_)⟩
  ·have e:allS bh (s.parts.getD k (dfl (.st .shape)))=false:=by simpa using e
   rw[e]at h3;rw[h3];simp
  ·have e:allS bh (s.parts.getD k (dfl (.st .shape)))=true:=by simpa using e
   rw[e,OY]at h3;exact⟨ba hk ln,k+1,⟨by omega,h3⟩,by omega,by omega⟩
 ·replace h:¬((k:Int)<(s.parts.length:Int)):=fun e=>h (Xd e);have e:k=s.parts.length:=by omega
  subst e;rw[h3,OO];simp[allL,bh]
theorem Ez(l:List Shape)(hl:Wf (.lst (.st .shape)) l) :
  let A:=(0:Int);let B:=l=l/\True;let C:=(↑(List.length l):Int);let D:=dfl (Ty.st SN.shape);let E:=True/\false=List.all l cm/\True;(∃(x:Nat),(x<=List.length l/\List.all l cm=List.all (List.drop x l) cm)/\A=(↑x:Int)/\B)/\∀(x:Nat),let F:=(↑x:Int);let G:=A<=F/\F<C;let H:=List.getD l (Int.toNat F) D;x<=List.length l/\List.all l cm=List.all (List.drop x l) cm->if decide (F<C)=true then G/\if(!decide (bD H=A))=true then E else G/\sz H<=(400:Nat)/\if(!allS bh H)=true then E else inR IntKind.i64 (F+(1:Int))/\∃(y:Nat),(y<=List.length l/\List.all l cm=List.all (List.drop y l) cm)/\List.length l-y<List.length l-x/\F+(1:Int)=(↑y:Int)/\B else True/\true=List.all l cm/\True:=by
 conv=>zeta
 have ln:=hl.len;simp only[OH,PO,Ph,Pb];refine⟨⟨0,⟨OJ _,rfl⟩,rfl⟩,?_⟩;rintro k ⟨h1,h3⟩;apply a6<;>intro h
 ·replace h:=Xo h;have hk:k<l.length:=by omega
  rw[aJ l k (dfl (.st .shape)) hk,P4]at h3;have ht:cm (l.getD k (dfl (.st .shape)))=(decide (bD (l.getD k (dfl (.st .shape)))=0)&&allS bh (l.getD k (dfl (.st .shape)))):=rfl;refine⟨by omega,a6 (fun c=>?_) (fun c=>?_)⟩
  ·have c:¬bD (l.getD k (dfl (.st .shape)))=0:=by simpa using c
   rw[ht,Xf c,P2,P2]at h3;rw[h3]
  ·have c:bD (l.getD k (dfl (.st .shape)))=0:=by simpa using c
   have hz:sz (l.getD k (dfl (.st .shape)))<=400:=by
    unfold bD at c;by_cases q:400<sz (l.getD k (dfl (.st .shape)))
    ·rw[OB q]at c;exact absurd c (by decide)
    ·omega
   rw[ht,Xd c,OY]at h3;refine⟨by omega,hz,a6 (fun e=>?_) (fun e=>?_)⟩
   ·have e:allS bh (l.getD k (dfl (.st .shape)))=false:=by simpa using e
    rw[e,P2]at h3;rw[h3]
   ·have e:allS bh (l.getD k (dfl (.st .shape)))=true:=by simpa using e
    rw[e,OY]at h3;exact⟨ba hk ln,k+1,⟨by omega,h3⟩,by omega,by omega⟩
 ·replace h:¬((k:Int)<(l.length:Int)):=fun e=>h (Xd e);have e:k=l.length:=by omega
  subst e;rw[h3,OO];rfl
theorem Ig(t:Trm)(n v s p:Int)  :
  let A:=True/\false=jg t n v s p/\True;if decide ((↑(List.length t.names):Int)=n)=true then if decide ((↑(List.length t.vars):Int)=v)=true then if decide ((↑(List.length t.shapes):Int)=s)=true then True/\decide ((↑(List.length t.parts):Int)=p)=jg t n v s p/\True else A else A else A:=by
 conv=>zeta
 unfold jg
 repeat' (apply a6<;>intro _)
 all_goals simp_all
theorem EA(s:Str)(hs:Wf .str s)(ho:s.length<=100000) :
  let A:=(0:Int);let B:=A=A/\A=A/\True;let C:=(↑(List.length s):Int);let D:=List.take (Int.toNat C) s;let E:=kK s;(∃(x:Nat×Nat×List Int),(x.2.1<=List.length s/\List.length s-x.2.1<x.1/\List.length x.2.2<=x.2.1/\mg s x.1 x.2.1 x.2.2=kK s)/\A=(↑x.2.1:Int)/\x.2.2=[]/\s=s/\List.length x.2.2=(0:Nat)/\B)/\∀(x:Nat×Nat×List Int),let F:=(↑x.2.1:Int);let G:=hZ (List.drop (Int.toNat F) D);x.2.1<=List.length s/\List.length s-x.2.1<x.1/\List.length x.2.2<=x.2.1/\mg s x.1 x.2.1 x.2.2=kK s->if decide (F<C)=true then(A<=F/\F<=C/\C<=C)/\if decide (G.2=A)=true then True/\E.1=[]/\(30:Int)=E.2.err/\F=E.2.pos/\True else(List.length x.2.2=List.length x.2.2/\(List.length x.2.2+List.length [G.1])*(8:Nat)<=(140737488355328:Nat))/\inR IntKind.i64 (F+G.2)/\∃(y:Nat×Nat×List Int),(y.2.1<=List.length s/\List.length s-y.2.1<y.1/\List.length y.2.2<=y.2.1/\mg s y.1 y.2.1 y.2.2=kK s)/\List.length s-y.2.1<List.length s-x.2.1/\F+G.2=(↑y.2.1:Int)/\x.2.2++[G.1]=y.2.2/\s=s/\List.length (x.2.2++[G.1])=List.length y.2.2/\B else True/\x.2.2=E.1/\A=E.2.err/\A=E.2.pos/\True:=by
 conv=>zeta
 have ln:=hs.str;simp only[OH,PO,Ph,Pb,Pt,nr];refine⟨⟨(s.length+1,0,[]),⟨OJ _,by simp,by simp,rfl⟩,by simp,rfl,rfl⟩,?_⟩;rintro⟨f,i,acc⟩ ⟨h1,h2,h3,h4⟩;simp only at h1 h2 h3 h4⊢;obtain⟨g,rfl⟩:∃g,f=g+1:=⟨f-1,by omega⟩;rw[mg]at h4;apply a6<;>intro h
 ·replace h:=Xo h;have hk:i<s.length:=by omega
  rw[OB hk]at h4;refine⟨by omega,a6 (fun e=>?_) (fun e=>?_)⟩
  ·have e:dE (s.drop i)=0:=by have:=Xo e;omega
   rw[OB e]at h4;rw[<-h4];exact⟨rfl,rfl,rfl⟩
  ·have e:¬dE (s.drop i)=0:=fun q=>e (Xd (by omega));rw[OA e]at h4;have hu:=lY (s:=s) (n:=i) h1;refine⟨by simp only[OD];omega,aj (by omega) (by omega),(g,i+dE (s.drop i),acc++[(hZ (s.drop i)).1]),⟨hu,by simp only;omega,by simp only[OE,OD];omega,h4⟩,by simp only;omega,by simp only;omega,rfl,rfl⟩
 ·have hk:¬i<s.length:=fun e=>h (Xd (by omega));rw[OA hk]at h4;rw[<-h4];exact⟨rfl,rfl,rfl⟩
theorem Lm(s:Str)(hs:Wf .str s)(ho:s.length<=100000) :
  let A:=(0:Int);let B:=s=s/\True;let C:=(↑(List.length s):Int);let D:=(0:UInt8);let E:=(1:Int);(∃(x:Nat),(x<=List.length s/\List.all s eJ=List.all (List.drop x s) eJ)/\A=(↑x:Int)/\B)/\∀(x:Nat),let F:=(↑x:Int);let G:=A<=F/\F<C;let H:=(↑(UInt8.toNat (List.getD s (Int.toNat F) D)):Int);let I:=inR IntKind.i64 (F+E)/\∃(y:Nat),(y<=List.length s/\List.all s eJ=List.all (List.drop y s) eJ)/\List.length s-y<List.length s-x/\F+E=(↑y:Int)/\B;x<=List.length s/\List.all s eJ=List.all (List.drop x s) eJ->if decide (F<C)=true then G/\if decide (H<(32:Int))=true then G/\if(!decide (H=(9:Int)))=true then G/\if(!decide (H=(10:Int)))=true then True/\false=kx s/\True else I else I else I else List.length s<=(100000:Nat)/\True/\decide ((kK s).2.err=A)=kx s/\True:=by
 conv=>zeta
 have ln:=hs.str;simp only[OH,PO,Ph,Pb];refine⟨⟨0,⟨OJ _,rfl⟩,rfl⟩,?_⟩;rintro k ⟨h1,h3⟩;apply a6<;>intro h
 ·replace h:=Xo h;have hk:k<s.length:=by omega
  rw[aJ s k 0 hk,P4]at h3;have hq:=vX (s.getD k 0);have eb:(UInt8.toNat (s.getD k 0):Int)=bI (s.getD k 0):=rfl;clear eb;have nx:eJ (s.getD k 0)=true->inR IntKind.i64 ((k:Int)+1)/\∃y:Nat,(y<=s.length/\s.all eJ=(s.drop y).all eJ)/\s.length-y<s.length-k/\(k:Int)+1=(y:Int):=by intro q;rw[q,OY]at h3;exact⟨ba hk ln,k+1,⟨by omega,h3⟩,by omega,by omega⟩
  have nq:¬(bI (s.getD k 0)<32/\bI (s.getD k 0)≠10/\bI (s.getD k 0)≠9)->eJ (s.getD k 0)=true:=fun e=>by
   cases q:eJ (s.getD k 0)
   ·exact absurd (hq.1 q) e
   ·rfl
  refine⟨by omega,a6 (fun a=>?_) (fun a=>?_)⟩
  ·replace a:=Xo a;refine⟨by omega,a6 (fun c=>?_) (fun c=>?_)⟩
   ·have c:¬(UInt8.toNat (s.getD k 0):Int)=9:=by simpa using c
    refine⟨by omega,a6 (fun d=>?_) (fun d=>?_)⟩
    ·have d:¬(UInt8.toNat (s.getD k 0):Int)=10:=by simpa using d
     rw[hq.2 ⟨a,d,c⟩,P2]at h3;unfold kx;rw[h3];rfl
    ·have d:(UInt8.toNat (s.getD k 0):Int)=10:=by simpa using d
     exact nx (nq (fun e=>e.2.1 d))
   ·have c:(UInt8.toNat (s.getD k 0):Int)=9:=by simpa using c
    exact nx (nq (fun e=>e.2.2 c))
  ·exact nx (nq (fun e=>a (Xd e.1)))
 ·have e:k=s.length:=by have:¬((k:Int)<(s.length:Int)):=fun e=>h (Xd e);omega
  subst e;rw[OO]at h3;exact⟨ho,Eu h3⟩
theorem Ln(t:Trm)(ht:Wf (.st .term) t)(ho:t.name.length<=100000/\t.names.length<=1000000) :
  let A:=(0:Int);let B:=True;let C:=B/\false=aS t/\B;let D:=(1:Int);let E:=B/\jg t A A A A=aS t/\B;let F:=if decide (t.name=[])=true then E else C;let G:=(↑(List.length t.names):Int);let H:=(↑(List.length t.parts):Int);let I:=B/\jg t A A A D=aS t/\B;let J:=if aX t.name=true then I else C;let K:=inR IntKind.i64 (G+D);let L:=if dH t.name=true then I else C;let M:=if decide (t.kind=D)=true then if decide (t.name=[])=true then if decide (A<=t.n)=true then if decide (t.n<=(999999999999999:Int))=true then E else C else C else C else if decide (t.kind=(2:Int))=true then List.length t.name<=(100000:Nat)/\if kx t.name=true then E else C else if decide (t.kind=(3:Int))=true then F else if decide (t.kind=(4:Int))=true then F else if decide (t.kind=(5:Int))=true then if aX t.name=true then if decide (t.pkg=[])=true then E else if aX t.pkg=true then E else C else C else if decide (t.kind=(6:Int))=true then if decide (t.name=[])=true then if decide (G<=(4096:Int))=true then B/\jg t G A G D=aS t/\B else C else C else if decide (t.kind=(7:Int))=true then if decide (t.name=[])=true then if decide (D<=H)=true then B/\jg t A A A H=aS t/\B else C else C else if decide (t.kind=(8:Int))=true then if decide (t.name=[])=true then B/\jg t G A A G=aS t/\B else C else if decide (t.kind=(9:Int))=true then J else if decide (t.kind=(10:Int))=true then J else if decide (t.kind=(11:Int))=true then if decide (t.name=[])=true then B/\jg t A A D H=aS t/\B else C else if decide (t.kind=(12:Int))=true then if decide (t.name=[])=true then B/\jg t A A D (3:Int)=aS t/\B else C else if decide (t.kind=(13:Int))=true then if decide (t.name=[])=true then K/\K/\B/\jg t G G (G+D) (G+D)=aS t/\B else C else if decide (t.kind=(14:Int))=true then if aX t.name=true then B/\jg t A A A (2:Int)=aS t/\B else C else if decide (t.kind=(15:Int))=true then if decide (t.name=[])=true then B/\jg t A A D D=aS t/\B else C else if decide (t.kind=(16:Int))=true then L else if decide (t.kind=(17:Int))=true then L else C;let N:=if(!decide (t.kind=(5:Int)))=true then if(!decide (t.pkg=[]))=true then C else M else M;if decide (t.pos<A)=true then C else if(!fY t.names true)=true then C else if(!fY t.vars false)=true then C else if(!List.all t.shapes cm)=true then C else if(!decide (t.kind=D))=true then if(!decide (t.n=A))=true then C else N else N:=by
 conv=>zeta
 have dnQ:∀n:Nat,decide ((1:Int)<=(n:Int))=decide (0<n):=fun n=>Pv.2 (by omega);have b1:nf t=false->aS t=false:=fun e=>by unfold aS;rw[e,Ps]
 have b2:ky t=false->aS t=false:=fun e=>by unfold aS;rw[e,P2]
 simp only[PO,Ph,Pb];refine a6 (fun h=>?_) (fun h1=>?_)
 ·symm;apply b2;unfold ky;have:=Xo h;rw[Xf (by omega)];rfl
 replace h1:¬t.pos<0:=fun e=>h1 (Xd e);refine a6 (fun h=>?_) (fun h2=>?_)
 ·exact(Ev (by simpa using h)).symm
 have h2:fY t.names true=true:=by simpa using h2
 refine a6 (fun h=>?_) (fun h3=>?_)
 ·exact(Ic (by simpa using h)).symm
 have h3:fY t.vars false=true:=by simpa using h3
 have h3:t.vars.all aX=true:=by unfold fY at h3;rw[OF]at h3;exact h3.1
 have h2:nc t.names=true:=by unfold fY at h2;unfold nc;simpa using h2
 refine a6 (fun h=>?_) (fun h4=>?_)
 ·have h:t.shapes.all cm=false:=by simpa using h
  symm;apply b2;unfold ky;rw[h,Ps]
 have h4:t.shapes.all cm=true:=by simpa using h4
 have hd:ky t=((decide (t.n=0)||decide (t.kind=1))&&(decide (t.pkg=[])||decide (t.kind=5))):=by unfold ky;rw[Xd (by omega),h4,OY,Qe]
 have hb:ky t=true->aS t=nf t:=fun e=>by unfold aS;rw[e,OY]
 clear h1 h4;have eb:((decide (t.n=0)||decide (t.kind=1))&&(decide (t.pkg=[])||decide (t.kind=5)))=true->aS t=nf t:=fun e=>hb (hd.trans e);have e5:((decide (t.n=0)||decide (t.kind=1))&&(decide (t.pkg=[])||decide (t.kind=5)))=false->aS t=false:=fun e=>b2 (hd.trans e);clear hd hb b1 b2;apply a6<;>intro k1
 ·have k1:¬t.kind=1:=by simpa using k1
  apply a6<;>intro k2
  ·have k2:¬t.n=0:=by simpa using k2
   symm;apply e5;rw[Xf k1,Xf k2];rfl
  have k2:t.n=0:=by simpa using k2
  apply a6<;>intro k3
  ·have k3:¬t.kind=5:=by simpa using k3
   apply a6<;>intro k4
   ·have k4:¬t.pkg=[]:=by simpa using k4
    symm;apply e5;rw[Xf k3,Xf k4,Ri,Ps]
   ·have k4:t.pkg=[]:=by simpa using k4
    rw[eb (by rw[Xd k2,Xd k4];rfl)];clear eb e5;unfold nf jg hU;rw[h2,h3];simp only[dnZ,dn1,dn2,dn3,dnN,dnS,dnL,dnP,dnQ];clear h2 h3
    repeat' (first|apply a6<;>intro _|refine⟨aj (by omega) (by have:=ho.2;omega),?_⟩|refine And.intro ho.1 ?_|fail)
    all_goals (first|(simp_all;done)|(simp_all;intros;omega))
  ·have k3:t.kind=5:=by simpa using k3
   rw[eb (by rw[Xd k2,Xd k3,PN];rfl)];clear eb e5;unfold nf jg hU;rw[h2,h3];simp only[dnZ,dn1,dn2,dn3,dnN,dnS,dnL,dnP,dnQ];clear h2 h3
   repeat' (first|apply a6<;>intro _|refine⟨aj (by omega) (by have:=ho.2;omega),?_⟩|refine And.intro ho.1 ?_|fail)
   all_goals (first|(simp_all;done)|(simp_all;intros;omega))
 ·have k1:t.kind=1:=by simpa using k1
  apply a6<;>intro k3
  ·have k3:¬t.kind=5:=by simpa using k3
   apply a6<;>intro k4
   ·have k4:¬t.pkg=[]:=by simpa using k4
    symm;apply e5;rw[Xf k3,Xf k4,Ri,Ps]
   ·have k4:t.pkg=[]:=by simpa using k4
    rw[eb (by rw[Xd k1,Xd k4,PN];rfl)];clear eb e5;unfold nf jg hU;rw[h2,h3];simp only[dnZ,dn1,dn2,dn3,dnN,dnS,dnL,dnP,dnQ];clear h2 h3
    repeat' (first|apply a6<;>intro _|refine⟨aj (by omega) (by have:=ho.2;omega),?_⟩|refine And.intro ho.1 ?_|fail)
    all_goals (first|(simp_all;done)|(simp_all;intros;omega))
  ·have k3:t.kind=5:=by simpa using k3
   rw[k1]at k3;exact absurd k3 (by decide)
theorem Ih(n:Nat)(t:Trm)(ht:Wf (.st .term) t)(hn:szT t<=n+1)(ho:fZ t=true) :
  let A:=True/\false=allT aS t/\True;let B:=t=t/\false=false/\t=t/\True;let C:=(↑(List.length t.parts):Int);let D:=dfl (Ty.st SN.term);(List.length t.name<=(100000:Nat)/\List.length t.names<=(1000000:Nat))/\if(!aS t)=true then A else(∃(x:Nat),(x<=List.length t.parts/\allT aS t=allTL aS (List.drop x t.parts))/\(0:Int)=(↑x:Int)/\B)/\∀(x:Nat),let E:=(↑x:Int);let F:=List.getD t.parts (Int.toNat E) D;x<=List.length t.parts/\allT aS t=allTL aS (List.drop x t.parts)->if decide (E<C)=true then((0:Int)<=E/\E<C)/\(szT F<=n/\fZ F=true)/\if(!allT aS F)=true then A else inR IntKind.i64 (E+(1:Int))/\∃(y:Nat),(y<=List.length t.parts/\allT aS t=allTL aS (List.drop y t.parts))/\List.length t.parts-y<List.length t.parts-x/\E+(1:Int)=(↑y:Int)/\B else True/\true=allT aS t/\True:=by
 conv=>zeta
 have ln:=ht.term_parts.len;have hz:=mW t;simp only[OH,PO,Ph,Pb];refine⟨Ex ho,?_⟩;apply a6<;>intro h
 ·have h:aS t=false:=by simpa using h
  rw[iT,h];rfl
 have h:aS t=true:=by simpa using h
 refine⟨⟨0,⟨OJ _,by rw[iT,h];rfl⟩,rfl⟩,?_⟩;rintro k ⟨h1,h3⟩;apply a6<;>intro h
 ·replace h:=Xo h;have hk:k<t.parts.length:=by omega
  have hm:=jt (bO t.parts k (dfl (.st .term)) hk);rw[aJ t.parts k (dfl (.st .term)) hk]at h3;simp only[allTL]at h3;refine⟨by omega,⟨by omega,Ew ho (bO t.parts k (dfl (.st .term)) hk)⟩,?_⟩;cases e:allT aS (t.parts.getD k (dfl (.st .term)))
  ·rw[e]at h3;rw[h3];simp
  ·simp only[e,OY]at h3;exact⟨ba hk ln,k+1,⟨by omega,h3⟩,by omega,by omega⟩
 ·replace h:¬((k:Int)<(t.parts.length:Int)):=fun e=>h (Xd e);have e:k=t.parts.length:=by omega
  subst e;rw[h3,OO];rfl
theorem Lo(n:Nat)(s:Trm)(m:Int)(hs:Wf (.st .term) s)(ho:szT s<=n+1/\0<=m/\m<=1000000) :
  let A:=(1:Int);let B:=(0:Int);let C:=s=s/\m=m/\B=B/\s=s/\True;let D:=(↑(List.length s.parts):Int);let E:=dfl (Ty.st SN.term);(∃(x:Nat×Int),(x.1<=List.length s.parts/\A<=x.2/\x.2<=m+A/\sizeTL (List.drop x.1 s.parts) x.2 m=fF s m)/\A=x.2/\B=(↑x.1:Int)/\C)/\∀(x:Nat×Int),let F:=(↑x.1:Int);let G:=m-x.2;let H:=List.getD s.parts (Int.toNat F) E;let I:=True/\x.2=fF s m/\True;x.1<=List.length s.parts/\A<=x.2/\x.2<=m+A/\sizeTL (List.drop x.1 s.parts) x.2 m=fF s m->if decide (F<D)=true then if decide (x.2<=m)=true then(B<=F/\F<D)/\inR IntKind.i64 G/\(szT H<=n/\B<=m-x.2/\m-x.2<=(1000000:Int))/\inR IntKind.i64 (x.2+fF H G)/\inR IntKind.i64 (F+A)/\∃(y:Nat×Int),(y.1<=List.length s.parts/\A<=y.2/\y.2<=m+A/\sizeTL (List.drop y.1 s.parts) y.2 m=fF s m)/\List.length s.parts-y.1<List.length s.parts-x.1/\x.2+fF H G=y.2/\F+A=(↑y.1:Int)/\C else I else I:=by
 conv=>zeta
 have ln:=hs.term_parts.len;have hz:=mW s;obtain⟨ho1,ho2,ho3⟩:=ho;have h0:sizeTL s.parts 1 m=fF s m:=by cases s;rw[fF]
 simp only[OH,PO,Ph,Pb];refine⟨⟨(0,1),⟨OJ _,by omega,by omega,h0⟩,rfl,rfl⟩,?_⟩;rintro⟨k,c⟩ ⟨h1,h2,h3,h4⟩;simp only at h1 h2 h3 h4⊢;apply a6<;>intro hk
 ·replace hk:=Xo hk;have hk:k<s.parts.length:=by omega
  have hm:=jt (bO s.parts k (dfl (.st .term)) hk);rw[aJ s.parts k (dfl (.st .term)) hk]at h4;simp only[sizeTL]at h4;apply a6<;>intro hc
  ·replace hc:=Xo hc;rw[OB hc]at h4;have hb:=sizeT_bd (s.parts.getD k (dfl (.st .term))) (m-c) (by omega);exact⟨by omega,aj (by omega) (by omega),by omega,aj (by omega) (by omega),ba hk ln,(k+1,_),⟨by omega,by simp only;omega,by simp only;omega,h4⟩,by simp only;omega,rfl,rfl⟩
  ·rw[OA (fun e=>hc (Xd e))]at h4;exact h4
 ·replace hk:¬((k:Int)<(s.parts.length:Int)):=fun e=>hk (Xd e);have e:k=s.parts.length:=by omega
  subst e;rw[OO]at h4;simp only[sizeTL]at h4;exact h4
theorem Lp(n:Nat)(s:Trm)(hs:Wf (.st .term) s)(hn:szT s<=n+1)(hb:n<=1000000) :
  let A:=(0:Int);let B:=(↑(maxDT s.parts):Int);let C:=s=s/\A=A/\s=s/\True;let D:=(↑(List.length s.parts):Int);let E:=dfl (Ty.st SN.term);let F:=(1:Int);(∃(x:Nat×Int),(x.1<=List.length s.parts/\A<=x.2/\max x.2 (↑(maxDT (List.drop x.1 s.parts)):Int)=B)/\A=x.2/\A=(↑x.1:Int)/\C)/\∀(x:Nat×Int),let G:=(↑x.1:Int);let H:=List.getD s.parts (Int.toNat G) E;let I:=(↑(deepT H):Int);let J:=inR IntKind.i64 (G+F);x.1<=List.length s.parts/\A<=x.2/\max x.2 (↑(maxDT (List.drop x.1 s.parts)):Int)=B->if decide (G<D)=true then(A<=G/\G<D)/\szT H<=n/\if decide (x.2<I)=true then J/\∃(y:Nat×Int),(y.1<=List.length s.parts/\A<=y.2/\max y.2 (↑(maxDT (List.drop y.1 s.parts)):Int)=B)/\List.length s.parts-y.1<List.length s.parts-x.1/\I=y.2/\G+F=(↑y.1:Int)/\C else J/\∃(y:Nat×Int),(y.1<=List.length s.parts/\A<=y.2/\max y.2 (↑(maxDT (List.drop y.1 s.parts)):Int)=B)/\List.length s.parts-y.1<List.length s.parts-x.1/\x.2=y.2/\G+F=(↑y.1:Int)/\C else inR IntKind.i64 (x.2+F)/\True/\x.2+F=(↑(deepT s):Int)/\True:=by
 conv=>zeta
 have ln:=hs.term_parts.len;have hz:=mW s;have hd:deepT s=maxDT s.parts+1:=by cases s;rw[deepT]
 have hds:=maxDT_sz s.parts;simp only[OH,PO,Ph,Pb];refine⟨⟨(0,0),⟨OJ _,by simp,by simp only[Q0];omega⟩,rfl,rfl⟩,?_⟩;rintro⟨k,c⟩ ⟨h1,h2,h3⟩;simp only at h1 h2 h3⊢;apply a6<;>intro h
 ·replace h:=Xo h;have hk:k<s.parts.length:=by omega
  have hm:=jt (bO s.parts k (dfl (.st .term)) hk);rw[aJ s.parts k (dfl (.st .term)) hk]at h3;simp only[maxDT]at h3;refine⟨by omega,by omega,a6 (fun a=>?_) (fun a=>?_)⟩
  ·replace a:=Xo a;exact⟨ba hk ln,(k+1,(deepT (s.parts.getD k (dfl (.st .term))):Int)),⟨by omega,by simp only;omega,by simp only;omega⟩,by simp only;omega,rfl,rfl⟩
  ·replace a:¬c<(deepT (s.parts.getD k (dfl (.st .term))):Int):=fun e=>a (Xd e);exact⟨ba hk ln,(k+1,c),⟨by omega,by simp only;omega,by simp only;omega⟩,by simp only;omega,rfl,rfl⟩
 ·replace h:¬((k:Int)<(s.parts.length:Int)):=fun e=>h (Xd e);have e:k=s.parts.length:=by omega
  subst e;rw[OO]at h3;simp only[maxDT]at h3;exact⟨aj (by omega) (by omega),by omega⟩
theorem Ii(s:Trm)(hs:Wf (.st .term) s)(ho:fZ s=true) :
  let A:=(4096:Int);let B:=True;let C:=szT s<=(4096:Nat);(szT s<=szT s/\(0:Int)<=A/\A<=(1000000:Int))/\if decide (A<fF s A)=true then B/\(3:Int)=bF s/\B else C/\if decide ((40:Int)<(↑(deepT s):Int))=true then B/\(91:Int)=bF s/\B else(C/\fZ s=true)/\if(!allT aS s)=true then B/\(80:Int)=bF s/\B else B/\(0:Int)=bF s/\B:=by
 conv=>zeta
 simp only[PO,Ph,Pb];rw[Et];refine⟨⟨ON _,by omega,by omega⟩,a6 (fun h=>?_) (fun h=>?_)⟩
 ·rw[OB (Xo h)]
 ·have h':¬(4096:Int)<fF s 4096:=fun e=>h (Xd e);have hs4:szT s<=4096:=by rw[sizeT_eq s 4096 (by omega)]at h';omega
  rw[OA h'];refine⟨hs4,a6 (fun g=>?_) (fun g=>⟨⟨hs4,ho⟩,?_⟩)⟩
  ·rw[OB (Xo g)]
  ·rw[OA (fun e=>g (Xd e))];cases allT aS s<;>simp
theorem BG(a b:List Str)(ha:Wf (.lst .str) a)(hb:Wf (.lst .str) b) :
  let A:=(↑(List.length a):Int);let B:=(↑(List.length b):Int);let C:=True/\false=decide (a=b)/\True;let D:=List.length a=List.length b;let E:=(0:Int);let F:=a=a/\b=b/\false=false/\True;if(!decide (A=B))=true then C else(∃(x:Nat),(x<=List.length a/\D/\(a=b↔List.drop x a=List.drop x b))/\E=(↑x:Int)/\F)/\∀(x:Nat),let G:=(↑x:Int);x<=List.length a/\D/\(a=b↔List.drop x a=List.drop x b)->if decide (G<A)=true then(E<=G/\G<A)/\(E<=G/\G<B)/\if(!decide (List.getD a (Int.toNat G) (dfl Ty.str)=List.getD b (Int.toNat G) (dfl Ty.str)))=true then C else inR IntKind.i64 (G+(1:Int))/\∃(y:Nat),(y<=List.length a/\D/\(a=b↔List.drop y a=List.drop y b))/\List.length a-y<List.length a-x/\G+(1:Int)=(↑y:Int)/\F else True/\true=decide (a=b)/\True:=by
 conv=>zeta
 have la:=ha.len;simp only[OH,PO,Ph,Pb];apply a6<;>intro h
 ·have h:¬(a.length:Int)=b.length:=by simpa using h
  symm;rw[P1];intro e;rw[e]at h;exact h rfl
 have hl:a.length=b.length:=by simp at h;omega
 refine⟨⟨0,⟨by omega,hl,by simp⟩,by simp⟩,?_⟩;rintro k ⟨h1,_,h3⟩;apply a6<;>intro h
 ·replace h:=Xo h;have hk:k<a.length:=by omega
  have hk':k<b.length:=by omega
  rw[aJ a k (dfl .str) hk,aJ b k (dfl .str) hk',PG]at h3;refine⟨by omega,by omega,a6 (fun c=>?_) (fun c=>?_)⟩
  ·have c:¬a.getD k (dfl .str)=b.getD k (dfl .str):=by simpa using c
   symm;rw[P1];exact fun e=>c (h3.1 e).1
  ·have c:a.getD k (dfl .str)=b.getD k (dfl .str):=by simpa using c
   exact⟨ba hk la,k+1,⟨by omega,hl,h3.trans ⟨fun e=>e.2,fun e=>⟨c,e⟩⟩⟩,by omega,by omega⟩
 ·replace h:¬((k:Int)<(a.length:Int)):=fun e=>h (Xd e);have e:k=a.length:=by omega
  subst e;symm;rw[Qg];rw[OO,hl,OO]at h3;exact h3.2 rfl
end Go.AL.Seat
end
