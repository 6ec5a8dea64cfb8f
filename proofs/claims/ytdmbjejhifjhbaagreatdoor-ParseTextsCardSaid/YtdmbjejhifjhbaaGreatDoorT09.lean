/- Plain facts. No condition. -/
import Derived.Test.YtdmbjejhifjhbaaGreatDoorT08
set_option linter.all false
set_option maxRecDepth 100000
section
namespace Go.Proofs.YtdmbjejhifjhbaaGreatDoor.JParseTexts
open Go.AL Go.AL.Seat Go.Pd Go.ChangeShapes Go.WideShapes Go.RowKit Go.Proofs.YtdmbjejhifjhbaaGreatDoor.Join
set_option maxRecDepth 1000000
theorem par:Tryz.f5.params=#[9]:=by kernel_rfl
theorem res:Tryz.f5.resultTypes=#[4]:=by kernel_rfl
theorem spec{H:Type}(ds:List (DataW H))(hd:ds.length=1):Rows.parseTextsSpec.fn H ds={results:=[.lit (.bool true)],args:=ds}:=by
 match ds,hd with
 |[d0],_=>rfl
theorem LY(H:Type)(enc:TypeId×Value->H)(W:World)(base:Nat)(args:Array Value)(ds gs:List (DataW H))(before:List MemPlace)
 (hval:∀(j:Nat) t v,Tryz.f5.params[j]?=some t->args[j]?=some v->Value.okWide Tryz.prog W .any base t v)
 (hW:DataW.Whole enc Tryz.prog Tryz.f5.params.toList Rows.parseTextsSpec.vars false W args.toList ds gs before)(hL:laidMet Tryz.prog laid W)(hsh:W.ShapedOpen Tryz.prog) :
  Calls Tryz.prog 5 args W fun e W'=>∃v,e=.returned v/\Rows.parseTextsSpec.post enc Tryz.prog Tryz.f5 false true false false W args v W':=by
 letI:Tabs:=tH W
 haveI:SeatLaid:=K2 hL hsh
 have hW':=hW;obtain⟨p,q,hA,hV,_,_,_⟩:=hW;rw[par]at hA hval;obtain⟨v0,vs0,d0,ds0,p0,q0,hargs0,rfl,rfl,h0,r0⟩:=trodAll_cons hA;obtain⟨rfl,rfl,rfl⟩:=trodAll_nil r0;obtain rfl:args=#[v0]:=by have:=Qi List.toArray hargs0;simpa using this
 obtain⟨x0,hx0⟩:=Jw undS (hval 0 9 v0 rfl rfl) h0;refine(Gx (qz kf kg x0 ⟨_,_,hx0⟩ qe qf vq vr) (fun b o v h=>h.2) (VL.cons hx0 .nil)).mono fun e W' ⟨he,hb⟩=>?_;subst he;refine⟨_,rfl,Jv (tb:=4) Mu (fun t ht=>?_) rfl (fun ds hd=>spec ds ?_) res undB hW' hb⟩
 ·rw[par]at ht;have ht:t∈[9]:=ht;simp only[Pa,QQ,or_false]at ht;rcases ht with rfl
  ·exact⟨Oh,Nat.lt_trans (by decide) fP⟩
 ·rw[par]at hd;exact hd
theorem reads(os:Os){H:Type}(enc:TypeId×Value->H):(DataW.whole enc Tryz.prog ((od os).forCall (fun _ _=>0) ⟨#[],#[.string ⟨#[]⟩],[]⟩).memory Tryz.f5.params.toList Rows.parseTextsSpec.vars false [Value.string ⟨#[]⟩] 8).map (fun x=>(x.1,x.2.1))=some ([.lit (.string [])],[]):=by kernel_rfl
theorem Oa(os:Os)(started:os.Started)(H:Type)(enc:TypeId×Value->H)(F:Stop.Interp) :
  ReturnsInHanded {} Tryz.checked os 5 .any ((OpenSpec.ofChange Rows.parseTextsSpec).preRow enc Tryz.prog Tryz.f5 Rows.parseTextsRow.domain false Rows.parseTextsRow.laid) (((OpenSpec.ofChange Rows.parseTextsSpec).at F).post enc Tryz.prog Tryz.f5 false true false false):=by
 obtain⟨⟨y1,y2,y3⟩,hx,hy⟩:=Pb.1 (reads os enc);simp only[Qw]at hy;obtain⟨rfl,rfl⟩:=hy
 refine returnsInHanded_of_row (C:=Tryz.checked) (s:=OpenSpec.ofChange Rows.parseTextsSpec) own started (by kernel_rfl) Tryz.func5
  (witness_row_atRef (enc:=enc) (C:=Tryz.checked) false (od os) #[.string ⟨#[]⟩] rfl (by kernel_rfl) (by kernel_rfl) (by kernel_rfl)
   (OpenSpec.preRow_of_cond 8 hx (by kernel_rfl) (fun k hk=>by cases hk) (by kernel_rfl) (K3 os _))) ?_
 intro W base args ds gs before hval hW _ _ _ hL hsh _;exact LY H enc W base args ds gs before hval hW hL hsh
theorem c1:(Rows.parseTextsRow.inPlace ==Tryz.prog.inPlace 5)=true:=by kernel_rfl
theorem c2:(Rows.parseTextsRow.unfollowed ==Tryz.prog.unfollowed 5)=true:=by kernel_rfl
theorem c3:(Rows.parseTextsRow.recurses ==Tryz.prog.recurses 5)=true:=by kernel_rfl
theorem c4:(Rows.parseTextsRow.named ==Tryz.prog.varsNamed 5)=true:=by kernel_rfl
theorem Ob:joinedFacts Tryz.prog 5 Tryz.f5 (OpenSpec.ofChange Rows.parseTextsSpec).bare Rows.parseTextsRow=true:=by unfold joinedFacts;rw[c1,c2,c3,c4];kernel_rfl
theorem said:Rows.ParseTextsSaid:=
 OpenClaim.holds_of_cond 5 Tryz.f5 rfl rfl rfl rfl rfl rfl rfl ⟨rfl,rfl,rfl,rfl,rfl⟩ rfl rfl rfl rfl rfl (by kernel_rfl) Tryz.func5 Ob
  (Xo (by kernel_rfl)) (by unfold Func.isWrapper;first|(rw[OQ (by decide+kernel)];kernel_rfl)|(rw[OP (by decide+kernel)];exact⟨rfl,rfl⟩))
  (fun os started H enc _ F=>by rw[OpenClaim.pre_eq_preRow];exact Oa os started H enc F)
theorem iC(f:FuncId)(fn:Func)(hf:Tryz.pinned.checked.prog.funcNamed "pandect/pandectlaw09.ParseTexts"=some f)(hfn:Tryz.pinned.checked.prog.funcs[f]?=some fn) :
  true=Tryz.pinned.checked.prog.looks []/\∀(j:Nat) t,fn.params[j]?=some t->Tryz.pinned.checked.prog.wantsStandIn t=false:=by
 obtain rfl:f=5:=Qp ((show Tryz.prog.funcNamed "pandect/pandectlaw09.ParseTexts"=some 5 by kernel_rfl).symm.trans hf) |>.symm;obtain rfl:fn=Tryz.f5:=(Qp (Tryz.func5.symm.trans hfn)).symm;refine ⟨by kernel_rfl,fun j t ht=>?_⟩;rw [par] at ht;have ht:=Array.mem_of_getElem? ht;simp only [List.mem_toArray,Pa,QQ,or_false] at ht;rcases ht with rfl
 ·exact(show Tryz.prog.wantsStandIn 9=false by kernel_rfl)
theorem card:Rows.ParseTextsCardSaid:=
 Claim7.holds_tied_plain_at .later [] _ _ _ _ said (fun _ h=>by cases h) (by kernel_rfl) (fun _ h=>by cases h) parseTexts_row_tie rfl ⟨rfl,rfl⟩ (by kernel_rfl) rfl iC (by kernel_rfl)
end Go.Proofs.YtdmbjejhifjhbaaGreatDoor.JParseTexts
end
