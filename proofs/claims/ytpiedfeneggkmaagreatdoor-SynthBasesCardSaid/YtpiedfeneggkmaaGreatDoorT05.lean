/- Plain facts. No condition. -/
import Derived.Test.YtpiedfeneggkmaaGreatDoorT04
set_option linter.all false
set_option maxRecDepth 100000
section
namespace Go.Proofs.YtpiedfeneggkmaaGreatDoor.JSynthBases
open Go.AL Go.AL.Seat Go.Pd Go.ChangeShapes Go.WideShapes Go.RowKit Go.Proofs.YtpiedfeneggkmaaGreatDoor.Join
set_option maxRecDepth 1000000
theorem par:Tryz.f4.params=#[29,27]:=by kernel_rfl
theorem res:Tryz.f4.resultTypes=#[4]:=by kernel_rfl
theorem spec{H:Type}(ds:List (DataW H))(hd:ds.length=2):Rows.synthBasesSpec.fn H ds={results:=[.lit (.bool true)],args:=ds}:=by
 match ds,hd with
 |[d0,d1],_=>rfl
theorem tO(H:Type)(enc:TypeId×Value->H)(W:World)(base:Nat)(args:Array Value)(ds gs:List (DataW H))(before:List MemPlace)
 (hval:∀(j:Nat) t v,Tryz.f4.params[j]?=some t->args[j]?=some v->Value.okWide Tryz.prog W .any base t v)
 (hW:DataW.Whole enc Tryz.prog Tryz.f4.params.toList Rows.synthBasesSpec.vars false W args.toList ds gs before)(hL:laidMet Tryz.prog laid W)(hsh:W.ShapedOpen Tryz.prog) :
  Calls Tryz.prog 4 args W fun e W'=>∃v,e=.returned v/\Rows.synthBasesSpec.post enc Tryz.prog Tryz.f4 false true false false W args v W':=by
 letI:Tabs:=kW W
 haveI:SeatLaid:=tg hL hsh
 have hW':=hW;obtain⟨p,q,hA,hV,_,_,_⟩:=hW;rw[par]at hA hval;obtain⟨v0,vs0,d0,ds0,p0,q0,hargs0,rfl,rfl,h0,r0⟩:=trodAll_cons hA;obtain⟨v1,vs1,d1,ds1,p1,q1,hargs1,rfl,rfl,h1,r1⟩:=trodAll_cons r0;obtain⟨rfl,rfl,rfl⟩:=trodAll_nil r1;subst hargs1;obtain rfl:args=#[v0,v1]:=by have:=xq List.toArray hargs0;simpa using this
 obtain⟨x0,hx0⟩:=sP vO (hval 0 29 v0 rfl rfl) h0;obtain⟨fu1,hf1⟩:=h1;obtain⟨x1,hx1⟩:=ui vN te (hval 1 27 v1 rfl rfl) hf1;refine(rE (ig jE x0 x1 ⟨_,_,hx0⟩ ⟨_,_,hx1⟩ qf oM oN) (fun b o v h=>h.2) (fun b x h=>h.2) (VL.cons hx0 (VL.cons hx1 .nil))).mono fun e W' ⟨he,hb⟩=>?_;subst he;refine⟨_,rfl,sM (tb:=4) uv (fun t ht=>?_) rfl (fun ds hd=>spec ds ?_) res undB hW' hb⟩
 ·rw[par]at ht;have ht:t∈[29,27]:=ht;simp only[wC,xJ,or_false]at ht;rcases ht with rfl|rfl
  ·exact⟨vP,Nat.lt_trans (by decide) uQ⟩
  ·exact⟨vQ,Nat.lt_trans (by decide) uQ⟩
 ·rw[par]at hd;exact hd
theorem reads(os:Os){H:Type}(enc:TypeId×Value->H):(DataW.whole enc Tryz.prog ((gJ os).forCall (fun _ _=>0) ⟨#[],#[.agg #[.string ⟨#[]⟩,.slice none 0 0,.slice none 0 0,.slice none 0 0],.slice none 0 0],[]⟩).memory Tryz.f4.params.toList Rows.synthBasesSpec.vars false [Value.agg #[.string ⟨#[]⟩,.slice none 0 0,.slice none 0 0,.slice none 0 0],Value.slice none 0 0] 8).map (fun x=>(x.1,x.2.1))=some ([.agg [.lit (.string []),.nil,.nil,.nil],.nil],[]):=by kernel_rfl
theorem vG(os:Os)(started:os.Started)(H:Type)(enc:TypeId×Value->H)(F:Stop.Interp) :
  ReturnsInHanded {} Tryz.checked os 4 .any ((OpenSpec.ofChange Rows.synthBasesSpec).preRow enc Tryz.prog Tryz.f4 Rows.synthBasesRow.domain false Rows.synthBasesRow.laid) (((OpenSpec.ofChange Rows.synthBasesSpec).at F).post enc Tryz.prog Tryz.f4 false true false false):=by
 obtain⟨⟨y1,y2,y3⟩,hx,hy⟩:=we.1 (reads os enc);simp only[yq]at hy;obtain⟨rfl,rfl⟩:=hy
 refine returnsInHanded_of_row (C:=Tryz.checked) (s:=OpenSpec.ofChange Rows.synthBasesSpec) own started (by kernel_rfl) Tryz.func4
  (witness_row_atRef (enc:=enc) (C:=Tryz.checked) false (gJ os) #[.agg #[.string ⟨#[]⟩,.slice none 0 0,.slice none 0 0,.slice none 0 0],.slice none 0 0] rfl (by kernel_rfl) (by kernel_rfl) (by kernel_rfl)
   (OpenSpec.preRow_of_cond 8 hx (by kernel_rfl) (fun k hk=>by cases hk) (by kernel_rfl) (th os _))) ?_
 intro W base args ds gs before hval hW _ _ _ hL hsh _;exact tO H enc W base args ds gs before hval hW hL hsh
theorem c1:(Rows.synthBasesRow.inPlace ==Tryz.prog.inPlace 4)=true:=by kernel_rfl
theorem c2:(Rows.synthBasesRow.unfollowed ==Tryz.prog.unfollowed 4)=true:=by kernel_rfl
theorem c3:(Rows.synthBasesRow.recurses ==Tryz.prog.recurses 4)=true:=by kernel_rfl
theorem c4:(Rows.synthBasesRow.named ==Tryz.prog.varsNamed 4)=true:=by kernel_rfl
theorem vH:joinedFacts Tryz.prog 4 Tryz.f4 (OpenSpec.ofChange Rows.synthBasesSpec).bare Rows.synthBasesRow=true:=by unfold joinedFacts;rw[c1,c2,c3,c4];kernel_rfl
theorem said:Rows.SynthBasesSaid:=
 OpenClaim.holds_of_cond 4 Tryz.f4 rfl rfl rfl rfl rfl rfl rfl ⟨rfl,rfl,rfl,rfl,rfl⟩ rfl rfl rfl rfl rfl (by kernel_rfl) Tryz.func4 vH
  (Xo (by kernel_rfl)) (by unfold Func.isWrapper;first|(rw[wh (by decide+kernel)];kernel_rfl)|(rw[w5 (by decide+kernel)];exact⟨rfl,rfl⟩))
  (fun os started H enc _ F=>by rw[OpenClaim.pre_eq_preRow];exact vG os started H enc F)
theorem bY(f:FuncId)(fn:Func)(hf:Tryz.pinned.checked.prog.funcNamed "pandect/pandectlaw14.SynthBases"=some f)(hfn:Tryz.pinned.checked.prog.funcs[f]?=some fn) :
  true=Tryz.pinned.checked.prog.looks []/\∀(j:Nat) t,fn.params[j]?=some t->Tryz.pinned.checked.prog.wantsStandIn t=false:=by
 obtain rfl:f=4:=wH ((show Tryz.prog.funcNamed "pandect/pandectlaw14.SynthBases"=some 4 by kernel_rfl).symm.trans hf) |>.symm;obtain rfl:fn=Tryz.f4:=(wH (Tryz.func4.symm.trans hfn)).symm;refine ⟨by kernel_rfl,fun j t ht=>?_⟩;rw [par] at ht;have ht:=Array.mem_of_getElem? ht;simp only [List.mem_toArray,wC,xJ,or_false] at ht;rcases ht with rfl | rfl
 ·exact(show Tryz.prog.wantsStandIn 29=false by kernel_rfl)
 ·exact(show Tryz.prog.wantsStandIn 27=false by kernel_rfl)
theorem card:Rows.SynthBasesCardSaid:=
 Claim7.holds_tied_plain_at .later [] _ _ _ _ said (fun _ h=>by cases h) (by kernel_rfl) (fun _ h=>by cases h) synthBases_row_tie rfl ⟨rfl,rfl⟩ (by kernel_rfl) rfl bY (by kernel_rfl)
end Go.Proofs.YtpiedfeneggkmaaGreatDoor.JSynthBases
end
