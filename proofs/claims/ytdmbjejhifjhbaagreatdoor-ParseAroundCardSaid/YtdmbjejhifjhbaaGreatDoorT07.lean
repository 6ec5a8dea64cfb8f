/- Plain facts. No condition. -/
import Derived.Test.YtdmbjejhifjhbaaGreatDoorT06
set_option linter.all false
set_option maxRecDepth 100000
section
namespace Go.Proofs.YtdmbjejhifjhbaaGreatDoor.JParseAround
open Go.AL Go.AL.Seat Go.Pd Go.ChangeShapes Go.WideShapes Go.RowKit Go.Proofs.YtdmbjejhifjhbaaGreatDoor.Join
set_option maxRecDepth 1000000
theorem par:Tryz.f7.params=#[9]:=by kernel_rfl
theorem res:Tryz.f7.resultTypes=#[4]:=by kernel_rfl
theorem spec{H:Type}(ds:List (DataW H))(hd:ds.length=1):Rows.parseAroundSpec.fn H ds={results:=[.lit (.bool true)],args:=ds}:=by
 match ds,hd with
 |[d0],_=>rfl
theorem EG(H:Type)(enc:TypeId×Value->H)(W:World)(base:Nat)(args:Array Value)(ds gs:List (DataW H))(before:List MemPlace)
 (hval:∀(j:Nat) t v,Tryz.f7.params[j]?=some t->args[j]?=some v->Value.okWide Tryz.prog W .any base t v)
 (hW:DataW.Whole enc Tryz.prog Tryz.f7.params.toList Rows.parseAroundSpec.vars false W args.toList ds gs before)(hL:laidMet Tryz.prog laid W)(hsh:W.ShapedOpen Tryz.prog) :
  Calls Tryz.prog 7 args W fun e W'=>∃v,e=.returned v/\Rows.parseAroundSpec.post enc Tryz.prog Tryz.f7 false true false false W args v W':=by
 letI:Tabs:=qf W
 haveI:SeatLaid:=Dp hL hsh
 have hW':=hW;obtain⟨p,q,hA,hV,_,_,_⟩:=hW;rw[par]at hA hval;obtain⟨v0,vs0,d0,ds0,p0,q0,hargs0,rfl,rfl,h0,r0⟩:=trodAll_cons hA;obtain⟨rfl,rfl,rfl⟩:=trodAll_nil r0;obtain rfl:args=#[v0]:=by have:=Jj List.toArray hargs0;simpa using this
 obtain⟨x0,hx0⟩:=CV undS (hval 0 9 v0 rfl rfl) h0;refine(AO (mC dp x0 ⟨_,_,hx0⟩ (fun h=>(k0 (lW h).1).1) (fun s h=>⟨ka h,(oI (ka h)).1,(oI (ka h)).2⟩) (fun h1 h2=>zx h1 h2) nj) (fun b o v h=>h.2) (VL.cons hx0 .nil)).mono fun e W' ⟨he,hb⟩=>?_;subst he;refine⟨_,rfl,CU (tb:=4) Fc (fun t ht=>?_) rfl (fun ds hd=>spec ds ?_) res undB hW' hb⟩
 ·rw[par]at ht;have ht:t∈[9]:=ht;simp only[Hy,Jc,or_false]at ht;rcases ht with rfl
  ·exact⟨GR,Nat.lt_trans (by decide) sy⟩
 ·rw[par]at hd;exact hd
theorem reads(os:Os){H:Type}(enc:TypeId×Value->H):(DataW.whole enc Tryz.prog ((lA os).forCall (fun _ _=>0) ⟨#[],#[.string ⟨#[]⟩],[]⟩).memory Tryz.f7.params.toList Rows.parseAroundSpec.vars false [Value.string ⟨#[]⟩] 8).map (fun x=>(x.1,x.2.1))=some ([.lit (.string [])],[]):=by kernel_rfl
theorem GK(os:Os)(started:os.Started)(H:Type)(enc:TypeId×Value->H)(F:Stop.Interp) :
  ReturnsInHanded {} Tryz.checked os 7 .any ((OpenSpec.ofChange Rows.parseAroundSpec).preRow enc Tryz.prog Tryz.f7 Rows.parseAroundRow.domain false Rows.parseAroundRow.laid) (((OpenSpec.ofChange Rows.parseAroundSpec).at F).post enc Tryz.prog Tryz.f7 false true false false):=by
 obtain⟨⟨y1,y2,y3⟩,hx,hy⟩:=HA.1 (reads os enc);simp only[Prod.mk.injEq]at hy;obtain⟨rfl,rfl⟩:=hy
 refine returnsInHanded_of_row (C:=Tryz.checked) (s:=OpenSpec.ofChange Rows.parseAroundSpec) own started (by kernel_rfl) Tryz.func7
  (witness_row_atRef (enc:=enc) (C:=Tryz.checked) false (lA os) #[.string ⟨#[]⟩] rfl (by kernel_rfl) (by kernel_rfl) (by kernel_rfl)
   (OpenSpec.preRow_of_cond 8 hx (by kernel_rfl) (fun k hk=>by cases hk) (by kernel_rfl) (Dq os _))) ?_
 intro W base args ds gs before hval hW _ _ _ hL hsh _;exact EG H enc W base args ds gs before hval hW hL hsh
theorem c1:(Rows.parseAroundRow.inPlace ==Tryz.prog.inPlace 7)=true:=by kernel_rfl
theorem c2:(Rows.parseAroundRow.unfollowed ==Tryz.prog.unfollowed 7)=true:=by kernel_rfl
theorem c3:(Rows.parseAroundRow.recurses ==Tryz.prog.recurses 7)=true:=by kernel_rfl
theorem c4:(Rows.parseAroundRow.named ==Tryz.prog.varsNamed 7)=true:=by kernel_rfl
theorem GL:joinedFacts Tryz.prog 7 Tryz.f7 (OpenSpec.ofChange Rows.parseAroundSpec).bare Rows.parseAroundRow=true:=by unfold joinedFacts;rw[c1,c2,c3,c4];kernel_rfl
theorem said:Rows.ParseAroundSaid:=
 OpenClaim.holds_of_cond 7 Tryz.f7 rfl rfl rfl rfl rfl rfl rfl ⟨rfl,rfl,rfl,rfl,rfl⟩ rfl rfl rfl rfl rfl (by kernel_rfl) Tryz.func7 GL
  (Xo (by kernel_rfl)) (by unfold Func.isWrapper;first|(rw[Hj (by decide+kernel)];kernel_rfl)|(rw[Hh (by decide+kernel)];exact⟨rfl,rfl⟩))
  (fun os started H enc _ F=>by rw[OpenClaim.pre_eq_preRow];exact GK os started H enc F)
theorem fI(f:FuncId)(fn:Func)(hf:Tryz.pinned.checked.prog.funcNamed "pandect/pandectlaw09.ParseAround"=some f)(hfn:Tryz.pinned.checked.prog.funcs[f]?=some fn) :
  true=Tryz.pinned.checked.prog.looks []/\∀(j:Nat) t,fn.params[j]?=some t->Tryz.pinned.checked.prog.wantsStandIn t=false:=by
 obtain rfl:f=7:=Iz ((show Tryz.prog.funcNamed "pandect/pandectlaw09.ParseAround"=some 7 by kernel_rfl).symm.trans hf) |>.symm;obtain rfl:fn=Tryz.f7:=(Iz (Tryz.func7.symm.trans hfn)).symm;refine ⟨by kernel_rfl,fun j t ht=>?_⟩;rw [par] at ht;have ht:=Array.mem_of_getElem? ht;simp only [List.mem_toArray,Hy,Jc,or_false] at ht;rcases ht with rfl
 ·exact(show Tryz.prog.wantsStandIn 9=false by kernel_rfl)
theorem card:Rows.ParseAroundCardSaid:=
 Claim7.holds_tied_plain_at .later [] _ _ _ _ said (fun _ h=>by cases h) (by kernel_rfl) (fun _ h=>by cases h) parseAround_row_tie rfl ⟨rfl,rfl⟩ (by kernel_rfl) rfl fI (by kernel_rfl)
end Go.Proofs.YtdmbjejhifjhbaaGreatDoor.JParseAround
end
