/- Plain facts. No condition. -/
import Derived.Test.YtdmbjejhifjhbaaGreatDoorT08
set_option linter.all false
set_option maxRecDepth 100000
section
namespace Go.Proofs.YtdmbjejhifjhbaaGreatDoor.JParseTerms
open Go.AL Go.AL.Seat Go.Pd Go.ChangeShapes Go.WideShapes Go.RowKit Go.Proofs.YtdmbjejhifjhbaaGreatDoor.Join
set_option maxRecDepth 1000000
theorem par:Tryz.f4.params=#[22,3]:=by kernel_rfl
theorem res:Tryz.f4.resultTypes=#[4]:=by kernel_rfl
theorem spec{H:Type}(ds:List (DataW H))(hd:ds.length=2):Rows.parseTermsSpec.fn H ds={results:=[.lit (.bool true)],args:=ds}:=by
 match ds,hd with
 |[d0,d1],_=>rfl
theorem Lx(H:Type)(enc:TypeId×Value->H)(W:World)(base:Nat)(args:Array Value)(ds gs:List (DataW H))(before:List MemPlace)
 (hval:∀(j:Nat) t v,Tryz.f4.params[j]?=some t->args[j]?=some v->Value.okWide Tryz.prog W .any base t v)
 (hW:DataW.Whole enc Tryz.prog Tryz.f4.params.toList Rows.parseTermsSpec.vars false W args.toList ds gs before)(hL:laidMet Tryz.prog laid W)(hsh:W.ShapedOpen Tryz.prog) :
  Calls Tryz.prog 4 args W fun e W'=>∃v,e=.returned v/\Rows.parseTermsSpec.post enc Tryz.prog Tryz.f4 false true false false W args v W':=by
 letI:Tabs:=ta W
 haveI:SeatLaid:=JD hL hsh
 have hW':=hW;obtain⟨p,q,hA,hV,_,_,_⟩:=hW;rw[par]at hA hval;obtain⟨v0,vs0,d0,ds0,p0,q0,hargs0,rfl,rfl,h0,r0⟩:=trodAll_cons hA;obtain⟨v1,vs1,d1,ds1,p1,q1,hargs1,rfl,rfl,h1,r1⟩:=trodAll_cons r0;obtain⟨rfl,rfl,rfl⟩:=trodAll_nil r1;subst hargs1;obtain rfl:args=#[v0,v1]:=by have:=Qb List.toArray hargs0;simpa using this
 obtain⟨fu0,hf0⟩:=h0;obtain⟨x0,hx0⟩:=Ns undL O4 (hval 0 22 v0 rfl rfl) hf0;obtain⟨x1,hx1⟩:=J8 undI (hval 1 3 v1 rfl rfl) h1;refine(G4 (pY bS x0 x1 ⟨_,_,hx0⟩ wc EJ) (fun b o v h=>h.2) (VL.cons hx0 (VL.cons hx1 .nil))).mono fun e W' ⟨he,hb⟩=>?_;subst he;refine⟨_,rfl,J6 (tb:=4) M8 (fun t ht=>?_) rfl (fun ds hd=>spec ds ?_) res undB hW' hb⟩
 ·rw[par]at ht;have ht:t∈[22,3]:=ht;simp only[OT,Qy,or_false]at ht;rcases ht with rfl|rfl
  ·exact⟨O5,fF⟩
  ·exact⟨O6,Nat.lt_trans (by decide) fF⟩
 ·rw[par]at hd;exact hd
theorem reads(os:Os){H:Type}(enc:TypeId×Value->H):(DataW.whole enc Tryz.prog ((nP os).forCall (fun _ _=>0) ⟨#[],#[.slice none 0 0,.int .i64 0],[]⟩).memory Tryz.f4.params.toList Rows.parseTermsSpec.vars false [Value.slice none 0 0,Value.int .i64 0] 8).map (fun x=>(x.1,x.2.1))=some ([.nil,.lit (.int .i64 0)],[]):=by kernel_rfl
theorem NU(os:Os)(started:os.Started)(H:Type)(enc:TypeId×Value->H)(F:Stop.Interp) :
  ReturnsInHanded {} Tryz.checked os 4 .any ((OpenSpec.ofChange Rows.parseTermsSpec).preRow enc Tryz.prog Tryz.f4 Rows.parseTermsRow.domain false Rows.parseTermsRow.laid) (((OpenSpec.ofChange Rows.parseTermsSpec).at F).post enc Tryz.prog Tryz.f4 false true false false):=by
 obtain⟨⟨y1,y2,y3⟩,hx,hy⟩:=OV.1 (reads os enc);simp only[Qd]at hy;obtain⟨rfl,rfl⟩:=hy
 refine returnsInHanded_of_row (C:=Tryz.checked) (s:=OpenSpec.ofChange Rows.parseTermsSpec) own started (by kernel_rfl) Tryz.func4
  (witness_row_atRef (enc:=enc) (C:=Tryz.checked) false (nP os) #[.slice none 0 0,.int .i64 0] rfl (by kernel_rfl) (by kernel_rfl) (by kernel_rfl)
   (OpenSpec.preRow_of_cond 8 hx (by kernel_rfl) (fun k hk=>by cases hk) (by kernel_rfl) (JE os _))) ?_
 intro W base args ds gs before hval hW _ _ _ hL hsh _;exact Lx H enc W base args ds gs before hval hW hL hsh
theorem c1:(Rows.parseTermsRow.inPlace ==Tryz.prog.inPlace 4)=true:=by kernel_rfl
theorem c2:(Rows.parseTermsRow.unfollowed ==Tryz.prog.unfollowed 4)=true:=by kernel_rfl
theorem c3:(Rows.parseTermsRow.recurses ==Tryz.prog.recurses 4)=true:=by kernel_rfl
theorem c4:(Rows.parseTermsRow.named ==Tryz.prog.varsNamed 4)=true:=by kernel_rfl
theorem NV:joinedFacts Tryz.prog 4 Tryz.f4 (OpenSpec.ofChange Rows.parseTermsSpec).bare Rows.parseTermsRow=true:=by unfold joinedFacts;rw[c1,c2,c3,c4];kernel_rfl
theorem said:Rows.ParseTermsSaid:=
 OpenClaim.holds_of_cond 4 Tryz.f4 rfl rfl rfl rfl rfl rfl rfl ⟨rfl,rfl,rfl,rfl,rfl⟩ rfl rfl rfl rfl rfl (by kernel_rfl) Tryz.func4 NV
  (Xo (by kernel_rfl)) (by unfold Func.isWrapper;first|(rw[OB (by decide+kernel)];kernel_rfl)|(rw[OA (by decide+kernel)];exact⟨rfl,rfl⟩))
  (fun os started H enc _ F=>by rw[OpenClaim.pre_eq_preRow];exact NU os started H enc F)
theorem ir(f:FuncId)(fn:Func)(hf:Tryz.pinned.checked.prog.funcNamed "pandect/pandectlaw09.ParseTerms"=some f)(hfn:Tryz.pinned.checked.prog.funcs[f]?=some fn) :
  true=Tryz.pinned.checked.prog.looks []/\∀(j:Nat) t,fn.params[j]?=some t->Tryz.pinned.checked.prog.wantsStandIn t=false:=by
 obtain rfl:f=4:=Q3 ((show Tryz.prog.funcNamed "pandect/pandectlaw09.ParseTerms"=some 4 by kernel_rfl).symm.trans hf) |>.symm;obtain rfl:fn=Tryz.f4:=(Q3 (Tryz.func4.symm.trans hfn)).symm;refine ⟨by kernel_rfl,fun j t ht=>?_⟩;rw [par] at ht;have ht:=Array.mem_of_getElem? ht;simp only [List.mem_toArray,OT,Qy,or_false] at ht;rcases ht with rfl | rfl
 ·exact(show Tryz.prog.wantsStandIn 22=false by kernel_rfl)
 ·exact(show Tryz.prog.wantsStandIn 3=false by kernel_rfl)
theorem card:Rows.ParseTermsCardSaid:=
 Claim7.holds_tied_plain_at .later [] _ _ _ _ said (fun _ h=>by cases h) (by kernel_rfl) (fun _ h=>by cases h) parseTerms_row_tie rfl ⟨rfl,rfl⟩ (by kernel_rfl) rfl ir (by kernel_rfl)
end Go.Proofs.YtdmbjejhifjhbaaGreatDoor.JParseTerms
end
