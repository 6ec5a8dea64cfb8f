/- Plain facts. No condition. -/
import Derived.Test.YtpiedfeneggkmaaGreatDoorT08
set_option linter.all false
set_option maxRecDepth 100000
section
namespace Go.Proofs.YtpiedfeneggkmaaGreatDoor.JSynthTypes
open Go.AL Go.AL.Seat Go.Pd Go.ChangeShapes Go.WideShapes Go.RowKit Go.Proofs.YtpiedfeneggkmaaGreatDoor.Join
set_option maxRecDepth 1000000
theorem par:Tryz.f3.params=#[26,29]:=by kernel_rfl
theorem res:Tryz.f3.resultTypes=#[4]:=by kernel_rfl
theorem spec{H:Type}(ds:List (DataW H))(hd:ds.length=2):Rows.synthTypesSpec.fn H ds={results:=[.lit (.bool true)],args:=ds}:=by
 match ds,hd with
 |[d0,d1],_=>rfl
theorem Fu(H:Type)(enc:TypeId×Value->H)(W:World)(base:Nat)(args:Array Value)(ds gs:List (DataW H))(before:List MemPlace)
 (hval:∀(j:Nat) t v,Tryz.f3.params[j]?=some t->args[j]?=some v->Value.okWide Tryz.prog W .any base t v)
 (hW:DataW.Whole enc Tryz.prog Tryz.f3.params.toList Rows.synthTypesSpec.vars false W args.toList ds gs before)(hku:Rows.uptoSmall H (ds++gs)=true)(hL:laidMet Tryz.prog laid W)(hsh:W.ShapedOpen Tryz.prog) :
  Calls Tryz.prog 3 args W fun e W'=>∃v,e=.returned v/\Rows.synthTypesSpec.post enc Tryz.prog Tryz.f3 false true false false W args v W':=by
 letI:Tabs:=qd W
 haveI:SeatLaid:=E4 hL hsh
 have hW':=hW;obtain⟨p,q,hA,hV,_,_,_⟩:=hW;rw[par]at hA hval;obtain⟨v0,vs0,d0,ds0,p0,q0,hargs0,rfl,rfl,h0,r0⟩:=trodAll_cons hA;obtain⟨v1,vs1,d1,ds1,p1,q1,hargs1,rfl,rfl,h1,r1⟩:=trodAll_cons r0;obtain⟨rfl,rfl,rfl⟩:=trodAll_nil r1;subst hargs1;obtain rfl:args=#[v0,v1]:=by have:=congrArg List.toArray hargs0;simpa using this
 obtain⟨x0,hx0,hq0⟩:=BQ (BZ Tryz.prog) Ha (hval 0 26 v0 rfl rfl) h0 (Eg hku (by simp));obtain⟨x1,hx1⟩:=DO HC (hval 1 29 v1 rfl rfl) h1;refine(BC (lL bQ (sz (bQ x0 x1).1) x0 x1 ⟨_,_,hx0⟩ ⟨_,_,hx1⟩ (lJ _ x0 (Nat.le_refl _) hq0).1 (lJ _ x0 (Nat.le_refl _) hq0).2 (Nat.le_refl _) CI xw xF) (fun b o v h=>h.2) (fun b x h=>h.2) (VL.cons hx0 (VL.cons hx1 .nil))).mono fun e W' ⟨he,hb⟩=>?_;subst he;refine⟨_,rfl,DN (tb:=4) G0 (fun t ht=>?_) rfl (fun ds hd=>spec ds ?_) res undB hW' hb⟩
 ·rw[par]at ht;have ht:t∈[26,29]:=ht;simp only[List.mem_cons,List.not_mem_nil,or_false]at ht;rcases ht with rfl|rfl
  ·exact⟨HG,Nat.lt_trans (by decide) dx⟩
  ·exact⟨HD,Nat.lt_trans (by decide) dx⟩
 ·rw[par]at hd;exact hd
theorem reads(os:Os){H:Type}(enc:TypeId×Value->H):(DataW.whole enc Tryz.prog ((kO os).forCall (fun _ _=>0) ⟨#[],#[.agg #[.int .i64 0,.string ⟨#[]⟩,.string ⟨#[]⟩,.int .i64 0,.slice none 0 0,.slice none 0 0,.slice none 0 0,.slice none 0 0,.int .i64 0],.agg #[.string ⟨#[]⟩,.slice none 0 0,.slice none 0 0,.slice none 0 0]],[]⟩).memory Tryz.f3.params.toList Rows.synthTypesSpec.vars false [Value.agg #[.int .i64 0,.string ⟨#[]⟩,.string ⟨#[]⟩,.int .i64 0,.slice none 0 0,.slice none 0 0,.slice none 0 0,.slice none 0 0,.int .i64 0],Value.agg #[.string ⟨#[]⟩,.slice none 0 0,.slice none 0 0,.slice none 0 0]] 8).map (fun x=>(x.1,x.2.1))=some ([.agg [.lit (.int .i64 0),.lit (.string []),.lit (.string []),.lit (.int .i64 0),.nil,.nil,.nil,.nil,.lit (.int .i64 0)],.agg [.lit (.string []),.nil,.nil,.nil]],[]):=by kernel_rfl
theorem Hu(os:Os)(started:os.Started)(H:Type)(enc:TypeId×Value->H)(F:Stop.Interp) :
  ReturnsInHanded {} Tryz.checked os 3 .any ((Rows.OpenSpec.upto Rows.synthTypesSpec).preRow enc Tryz.prog Tryz.f3 Rows.synthTypesUptoRow.domain false Rows.synthTypesUptoRow.laid) (((Rows.OpenSpec.upto Rows.synthTypesSpec).at F).post enc Tryz.prog Tryz.f3 false true false false):=by
 obtain⟨⟨y1,y2,y3⟩,hx,hy⟩:=Option.map_eq_some_iff.1 (reads os enc);simp only[Prod.mk.injEq]at hy;obtain⟨rfl,rfl⟩:=hy
 refine returnsInHanded_of_row (C:=Tryz.checked) (s:=Rows.OpenSpec.upto Rows.synthTypesSpec) own started (by kernel_rfl) Tryz.func3
  (witness_row_atRef (enc:=enc) (C:=Tryz.checked) false (kO os) #[.agg #[.int .i64 0,.string ⟨#[]⟩,.string ⟨#[]⟩,.int .i64 0,.slice none 0 0,.slice none 0 0,.slice none 0 0,.slice none 0 0,.int .i64 0],.agg #[.string ⟨#[]⟩,.slice none 0 0,.slice none 0 0,.slice none 0 0]] rfl (by kernel_rfl) (by kernel_rfl) (by kernel_rfl)
   (OpenSpec.preRow_of_cond 8 hx (by kernel_rfl) (fun k hk=>by cases hk;kernel_rfl) (by kernel_rfl) (E5 os _))) ?_
 intro W base args ds gs before hval hW _ hku _ hL hsh _;exact Fu H enc W base args ds gs before hval hW (hku _ rfl) hL hsh
theorem c1:(Rows.synthTypesUptoRow.inPlace ==Tryz.prog.inPlace 3)=true:=by kernel_rfl
theorem c2:(Rows.synthTypesUptoRow.unfollowed ==Tryz.prog.unfollowed 3)=true:=by kernel_rfl
theorem c3:(Rows.synthTypesUptoRow.recurses ==Tryz.prog.recurses 3)=true:=by kernel_rfl
theorem c4:(Rows.synthTypesUptoRow.named ==Tryz.prog.varsNamed 3)=true:=by kernel_rfl
theorem Hv:joinedFacts Tryz.prog 3 Tryz.f3 (Rows.OpenSpec.upto Rows.synthTypesSpec).bare Rows.synthTypesUptoRow=true:=by unfold joinedFacts;rw[c1,c2,c3,c4];kernel_rfl
theorem said:Rows.SynthTypesUptoSaid:=
 OpenClaim.holds_of_cond 3 Tryz.f3 rfl rfl rfl rfl rfl rfl rfl ⟨rfl,rfl,rfl,rfl,rfl⟩ rfl rfl rfl rfl rfl (by kernel_rfl) Tryz.func3 Hv
  (Xo (by kernel_rfl)) (by unfold Func.isWrapper;first|(rw[if_pos (by decide+kernel)];kernel_rfl)|(rw[if_neg (by decide+kernel)];exact⟨rfl,rfl⟩))
  (fun os started H enc _ F=>by rw[OpenClaim.pre_eq_preRow];exact Hu os started H enc F)
theorem ew(f:FuncId)(fn:Func)(hf:Tryz.pinned.checked.prog.funcNamed "pandect/pandectlaw14.SynthTypes"=some f)(hfn:Tryz.pinned.checked.prog.funcs[f]?=some fn) :
  true=Tryz.pinned.checked.prog.looks []/\∀(j:Nat) t,fn.params[j]?=some t->Tryz.pinned.checked.prog.wantsStandIn t=false:=by
 obtain rfl:f=3:=Option.some.inj ((show Tryz.prog.funcNamed "pandect/pandectlaw14.SynthTypes"=some 3 by kernel_rfl).symm.trans hf) |>.symm;obtain rfl:fn=Tryz.f3:=(Option.some.inj (Tryz.func3.symm.trans hfn)).symm;refine ⟨by kernel_rfl,fun j t ht=>?_⟩;rw [par] at ht;have ht:=Array.mem_of_getElem? ht;simp only [List.mem_toArray,List.mem_cons,List.not_mem_nil,or_false] at ht;rcases ht with rfl | rfl
 ·exact(show Tryz.prog.wantsStandIn 26=false by kernel_rfl)
 ·exact(show Tryz.prog.wantsStandIn 29=false by kernel_rfl)
theorem card:Rows.SynthTypesUptoCardSaid:=
 Claim7.holds_tied_plain_at .later [] _ _ _ _ said (fun _ h=>by cases h) (by kernel_rfl) (fun _ h=>by cases h) synthTypesUpto_row_tie rfl ⟨rfl,rfl⟩ (by kernel_rfl) rfl ew (by kernel_rfl)
end Go.Proofs.YtpiedfeneggkmaaGreatDoor.JSynthTypes
end
