/- Plain facts. No condition. -/
import Derived.Test.YtdmbjejhifjhbaaGreatDoorT07
set_option linter.all false
set_option maxRecDepth 100000
section
namespace Go.Proofs.YtdmbjejhifjhbaaGreatDoor.JParseWritten
open Go.AL Go.AL.Seat Go.Pd Go.ChangeShapes Go.WideShapes Go.RowKit Go.Proofs.YtdmbjejhifjhbaaGreatDoor.Join
set_option maxRecDepth 1000000
theorem par:Tryz.f8.params=#[9]:=by kernel_rfl
theorem res:Tryz.f8.resultTypes=#[4]:=by kernel_rfl
theorem spec{H:Type}(ds:List (DataW H))(hd:ds.length=1):Rows.parseWrittenSpec.fn H ds={results:=[.lit (.bool true)],args:=ds}:=by
 match ds,hd with
 |[d0],_=>rfl
theorem JD(H:Type)(enc:TypeId×Value->H)(W:World)(base:Nat)(args:Array Value)(ds gs:List (DataW H))(before:List MemPlace)
 (hval:∀(j:Nat) t v,Tryz.f8.params[j]?=some t->args[j]?=some v->Value.okWide Tryz.prog W .any base t v)
 (hW:DataW.Whole enc Tryz.prog Tryz.f8.params.toList Rows.parseWrittenSpec.vars false W args.toList ds gs before)(hL:laidMet Tryz.prog laid W)(hsh:W.ShapedOpen Tryz.prog) :
  Calls Tryz.prog 8 args W fun e W'=>∃v,e=.returned v/\Rows.parseWrittenSpec.post enc Tryz.prog Tryz.f8 false true false false W args v W':=by
 letI:Tabs:=mc W
 haveI:SeatLaid:=HH hL hsh
 haveI:SeatPow:=Kf hL
 have hW':=hW;obtain⟨p,q,hA,hV,_,_,_⟩:=hW;rw[par]at hA hval;obtain⟨v0,vs0,d0,ds0,p0,q0,hargs0,rfl,rfl,h0,r0⟩:=trodAll_cons hA;obtain⟨rfl,rfl,rfl⟩:=trodAll_nil r0;obtain rfl:args=#[v0]:=by have:=OH List.toArray hargs0;simpa using this
 obtain⟨x0,hx0⟩:=He undS (hval 0 9 v0 rfl rfl) h0;refine(El (nk cX bm x0 ⟨_,_,hx0⟩ (Gi x0) (Gj x0) (Gb x0) (Gc x0) pn pq) (fun b o v h=>h.2) (fun b x h=>h.2) (VL.cons hx0 .nil)).mono fun e W' ⟨he,hb⟩=>?_;subst he;refine⟨_,rfl,Hc (tb:=4) K8 (fun t ht=>?_) rfl (fun ds hd=>spec ds ?_) res undB hW' hb⟩
 ·rw[par]at ht;have ht:t∈[9]:=ht;simp only[Nw,Ph,or_false]at ht;rcases ht with rfl
  ·exact⟨Mq,Nat.lt_trans (by decide) vl⟩
 ·rw[par]at hd;exact hd
theorem reads(os:Os){H:Type}(enc:TypeId×Value->H):(DataW.whole enc Tryz.prog ((mW os).forCall (fun _ _=>0) ⟨#[],#[.string ⟨#[]⟩],[]⟩).memory Tryz.f8.params.toList Rows.parseWrittenSpec.vars false [Value.string ⟨#[]⟩] 8).map (fun x=>(x.1,x.2.1))=some ([.lit (.string [])],[]):=by kernel_rfl
theorem Mi(os:Os)(started:os.Started)(H:Type)(enc:TypeId×Value->H)(F:Stop.Interp) :
  ReturnsInHanded {} Tryz.checked os 8 .any ((OpenSpec.ofChange Rows.parseWrittenSpec).preRow enc Tryz.prog Tryz.f8 Rows.parseWrittenRow.domain false Rows.parseWrittenRow.laid) (((OpenSpec.ofChange Rows.parseWrittenSpec).at F).post enc Tryz.prog Tryz.f8 false true false false):=by
 obtain⟨⟨y1,y2,y3⟩,hx,hy⟩:=NB.1 (reads os enc);simp only[Prod.mk.injEq]at hy;obtain⟨rfl,rfl⟩:=hy
 refine returnsInHanded_of_row (C:=Tryz.checked) (s:=OpenSpec.ofChange Rows.parseWrittenSpec) own started (by kernel_rfl) Tryz.func8
  (witness_row_atRef (enc:=enc) (C:=Tryz.checked) false (mW os) #[.string ⟨#[]⟩] rfl (by kernel_rfl) (by kernel_rfl) (by kernel_rfl)
   (OpenSpec.preRow_of_cond 8 hx (by kernel_rfl) (fun k hk=>by cases hk) (by kernel_rfl) (HI os _))) ?_
 intro W base args ds gs before hval hW _ _ _ hL hsh _;exact JD H enc W base args ds gs before hval hW hL hsh
theorem c1:(Rows.parseWrittenRow.inPlace ==Tryz.prog.inPlace 8)=true:=by kernel_rfl
theorem c2:(Rows.parseWrittenRow.unfollowed ==Tryz.prog.unfollowed 8)=true:=by kernel_rfl
theorem c3:(Rows.parseWrittenRow.recurses ==Tryz.prog.recurses 8)=true:=by kernel_rfl
theorem c4:(Rows.parseWrittenRow.named ==Tryz.prog.varsNamed 8)=true:=by kernel_rfl
theorem Mj:joinedFacts Tryz.prog 8 Tryz.f8 (OpenSpec.ofChange Rows.parseWrittenSpec).bare Rows.parseWrittenRow=true:=by unfold joinedFacts;rw[c1,c2,c3,c4];kernel_rfl
theorem said:Rows.ParseWrittenSaid:=
 OpenClaim.holds_of_cond 8 Tryz.f8 rfl rfl rfl rfl rfl rfl rfl ⟨rfl,rfl,rfl,rfl,rfl⟩ rfl rfl rfl rfl rfl (by kernel_rfl) Tryz.func8 Mj
  (Xo (by kernel_rfl)) (by unfold Func.isWrapper;first|(rw[N6 (by decide+kernel)];kernel_rfl)|(rw[N3 (by decide+kernel)];exact⟨rfl,rfl⟩))
  (fun os started H enc _ F=>by rw[OpenClaim.pre_eq_preRow];exact Mi os started H enc F)
theorem gy(f:FuncId)(fn:Func)(hf:Tryz.pinned.checked.prog.funcNamed "pandect/pandectlaw09.ParseWritten"=some f)(hfn:Tryz.pinned.checked.prog.funcs[f]?=some fn) :
  true=Tryz.pinned.checked.prog.looks []/\∀(j:Nat) t,fn.params[j]?=some t->Tryz.pinned.checked.prog.wantsStandIn t=false:=by
 obtain rfl:f=8:=O1 ((show Tryz.prog.funcNamed "pandect/pandectlaw09.ParseWritten"=some 8 by kernel_rfl).symm.trans hf) |>.symm;obtain rfl:fn=Tryz.f8:=(O1 (Tryz.func8.symm.trans hfn)).symm;refine ⟨by kernel_rfl,fun j t ht=>?_⟩;rw [par] at ht;have ht:=Array.mem_of_getElem? ht;simp only [List.mem_toArray,Nw,Ph,or_false] at ht;rcases ht with rfl
 ·exact(show Tryz.prog.wantsStandIn 9=false by kernel_rfl)
theorem card:Rows.ParseWrittenCardSaid:=
 Claim7.holds_tied_plain_at .later [] _ _ _ _ said (fun _ h=>by cases h) (by kernel_rfl) (fun _ h=>by cases h) parseWritten_row_tie rfl ⟨rfl,rfl⟩ (by kernel_rfl) rfl gy (by kernel_rfl)
end Go.Proofs.YtdmbjejhifjhbaaGreatDoor.JParseWritten
end
