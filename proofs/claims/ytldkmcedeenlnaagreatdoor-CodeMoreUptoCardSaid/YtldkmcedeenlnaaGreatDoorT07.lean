/- Plain facts. No condition. -/
import Derived.Test.YtldkmcedeenlnaaGreatDoorT06
set_option linter.all false
set_option maxRecDepth 100000
section
namespace Go.Proofs.YtldkmcedeenlnaaGreatDoor.JCodeMore
open Go.AL Go.AL.Seat Go.Pd Go.ChangeShapes Go.WideShapes Go.RowKit Go.Proofs.YtldkmcedeenlnaaGreatDoor.Join
set_option maxRecDepth 1000000
theorem par:Tryz.f7.params=#[26,27,51]:=by kernel_rfl
theorem res:Tryz.f7.resultTypes=#[4]:=by kernel_rfl
theorem spec {H:Type} (ds:List (DataW H)) (hd:ds.length=3):Rows.codeMoreSpec.fn H ds={results:=[.lit (.bool true)],args:=ds}:=by
 match ds,hd with
 | [d0,d1,d2],_=>rfl
theorem Fa (H:Type) (enc:TypeId × Value→H) (W:World) (base:Nat) (args:Array Value) (ds gs:List (DataW H)) (before:List MemPlace)
  (hval:∀(j:Nat) t v,Tryz.f7.params[j]?=some t→args[j]?=some v→Value.okWide Tryz.prog W .any base t v)
  (hW:DataW.Whole enc Tryz.prog Tryz.f7.params.toList Rows.codeMoreSpec.vars false W args.toList ds gs before) (hku:Rows.uptoSmall H (ds++gs)=true) (hL:laidMet Tryz.prog laid W) (hsh:W.ShapedOpen Tryz.prog) :
  Calls Tryz.prog 7 args W fun e W'=>∃v,e=.returned v/\Rows.codeMoreSpec.post enc Tryz.prog Tryz.f7 false true false false W args v W':=by
 letI:Tabs:=qj W
 haveI:SeatLaid:=DN hL hsh
 have hW':=hW
 obtain ⟨p,q,hA,hV,_,_,_⟩:=hW
 rw [par] at hA hval
 obtain ⟨v0,vs0,d0,ds0,p0,q0,hargs0,rfl,rfl,h0,r0⟩:=trodAll_cons hA
 obtain ⟨v1,vs1,d1,ds1,p1,q1,hargs1,rfl,rfl,h1,r1⟩:=trodAll_cons r0
 obtain ⟨v2,vs2,d2,ds2,p2,q2,hargs2,rfl,rfl,h2,r2⟩:=trodAll_cons r1
 obtain ⟨rfl,rfl,rfl⟩:=trodAll_nil r2
 subst hargs1
 subst hargs2
 obtain rfl:args=#[v0,v1,v2]:=by
  have:=congrArg List.toArray hargs0
  simpa using this
 obtain ⟨x0,hx0,hq0⟩:=BM (BO Tryz.prog) HE (hval 0 26 v0 rfl rfl) h0 (DS hku (by simp))
 obtain ⟨fu1,hf1⟩:=h1
 obtain ⟨x1,hx1⟩:=Fz Io Eb (hval 1 27 v1 rfl rfl) hf1
 obtain ⟨x2,hx2⟩:=BN Eb (hval 2 51 v2 rfl rfl) h2
 refine (Bz (nz Ga (fun t l=>yC (szT t) t l) qG x0 x1 x2 ⟨_,_,hx0⟩ yz (fun a b c=>BX we hq0 a b c) F9 za wI) (fun b o v h=>h.2) (fun b x h=>h.2) (VL.cons hx0 (VL.cons hx1 (VL.cons hx2 .nil)))).mono fun e W' ⟨he,hb⟩=>?_
 subst he
 refine ⟨_,rfl,Dy (tb:=4) FI (fun t ht=>?_) rfl (fun ds hd=>spec ds ?_) res undB hW' hb⟩
 ·rw [par] at ht
  have ht:t∈[26,27,51]:=ht
  simp only [List.mem_cons,List.not_mem_nil,or_false] at ht
  rcases ht with rfl | rfl | rfl
  ·exact ⟨Iq,Nat.lt_trans (by decide) GO⟩
  ·exact ⟨Ir,Nat.lt_trans (by decide) GO⟩
  ·exact ⟨Is,Ip⟩
 ·rw [par] at hd
  exact hd
theorem reads (os:Os) {H:Type} (enc:TypeId × Value→H):(DataW.whole enc Tryz.prog ((kK os).forCall (fun _ _=>0) ⟨#[],#[.agg #[.int .i64 0,.string ⟨#[]⟩,.string ⟨#[]⟩,.int .i64 0,.slice none 0 0,.slice none 0 0,.slice none 0 0,.slice none 0 0,.int .i64 0],.slice none 0 0,.agg #[.string ⟨#[]⟩,.string ⟨#[]⟩,.int .i64 0,.string ⟨#[]⟩,.string ⟨#[]⟩,.slice none 0 0,.slice none 0 0]],[]⟩).memory Tryz.f7.params.toList Rows.codeMoreSpec.vars false [Value.agg #[.int .i64 0,.string ⟨#[]⟩,.string ⟨#[]⟩,.int .i64 0,.slice none 0 0,.slice none 0 0,.slice none 0 0,.slice none 0 0,.int .i64 0],Value.slice none 0 0,Value.agg #[.string ⟨#[]⟩,.string ⟨#[]⟩,.int .i64 0,.string ⟨#[]⟩,.string ⟨#[]⟩,.slice none 0 0,.slice none 0 0]] 8).map (fun x=>(x.1,x.2.1))=some ([.agg [.lit (.int .i64 0),.lit (.string []),.lit (.string []),.lit (.int .i64 0),.nil,.nil,.nil,.nil,.lit (.int .i64 0)],.nil,.agg [.lit (.string []),.lit (.string []),.agg [.lit (.int .i64 0),.lit (.string []),.lit (.string []),.nil,.nil]]],[]):=by kernel_rfl
theorem HY (os:Os) (started:os.Started) (H:Type) (enc:TypeId × Value→H) (F:Stop.Interp) :
  ReturnsInHanded {} Tryz.checked os 7 .any ((Rows.OpenSpec.upto Rows.codeMoreSpec).preRow enc Tryz.prog Tryz.f7 Rows.codeMoreUptoRow.domain false Rows.codeMoreUptoRow.laid) (((Rows.OpenSpec.upto Rows.codeMoreSpec).at F).post enc Tryz.prog Tryz.f7 false true false false):=by
 obtain ⟨⟨y1,y2,y3⟩,hx,hy⟩:=Option.map_eq_some_iff.1 (reads os enc)
 simp only [Prod.mk.injEq] at hy
 obtain ⟨rfl,rfl⟩:=hy
 refine returnsInHanded_of_row (C:=Tryz.checked) (s:=Rows.OpenSpec.upto Rows.codeMoreSpec) own started (by kernel_rfl) Tryz.func7
  (witness_row_atRef (enc:=enc) (C:=Tryz.checked) false (kK os) #[.agg #[.int .i64 0,.string ⟨#[]⟩,.string ⟨#[]⟩,.int .i64 0,.slice none 0 0,.slice none 0 0,.slice none 0 0,.slice none 0 0,.int .i64 0],.slice none 0 0,.agg #[.string ⟨#[]⟩,.string ⟨#[]⟩,.int .i64 0,.string ⟨#[]⟩,.string ⟨#[]⟩,.slice none 0 0,.slice none 0 0]] rfl (by kernel_rfl) (by kernel_rfl) (by kernel_rfl)
   (OpenSpec.preRow_of_cond 8 hx (by kernel_rfl) (fun k hk=>by cases hk;kernel_rfl) (by kernel_rfl) (DO os _))) ?_
 intro W base args ds gs before hval hW _ hku _ hL hsh _
 exact Fa H enc W base args ds gs before hval hW (hku _ rfl) hL hsh
theorem c1:(Rows.codeMoreUptoRow.inPlace ==Tryz.prog.inPlace 7)=true:=by kernel_rfl
theorem c2:(Rows.codeMoreUptoRow.unfollowed ==Tryz.prog.unfollowed 7)=true:=by kernel_rfl
theorem c3:(Rows.codeMoreUptoRow.recurses ==Tryz.prog.recurses 7)=true:=by kernel_rfl
theorem c4:(Rows.codeMoreUptoRow.named ==Tryz.prog.varsNamed 7)=true:=by kernel_rfl
theorem HZ:joinedFacts Tryz.prog 7 Tryz.f7 (Rows.OpenSpec.upto Rows.codeMoreSpec).bare Rows.codeMoreUptoRow=true:=by
 unfold joinedFacts
 rw [c1,c2,c3,c4]
 kernel_rfl
theorem said:Rows.CodeMoreUptoSaid:=
 OpenClaim.holds_of_cond 7 Tryz.f7 rfl rfl rfl rfl rfl rfl rfl ⟨rfl,rfl,rfl,rfl,rfl⟩ rfl rfl rfl rfl rfl (by kernel_rfl) Tryz.func7 HZ
  (Xo (by kernel_rfl)) (by unfold Func.isWrapper;first | (rw [if_pos (by decide+kernel)];kernel_rfl) | (rw [if_neg (by decide+kernel)];exact ⟨rfl,rfl⟩))
  (fun os started H enc _ F=>by rw [OpenClaim.pre_eq_preRow];exact HY os started H enc F)
theorem dq (f:FuncId) (fn:Func) (hf:Tryz.pinned.checked.prog.funcNamed "pandect/pandectlaw31.CodeMore"=some f) (hfn:Tryz.pinned.checked.prog.funcs[f]?=some fn) :
  true=Tryz.pinned.checked.prog.looks []/\∀(j:Nat) t,fn.params[j]?=some t→Tryz.pinned.checked.prog.wantsStandIn t=false:=by
 obtain rfl:f=7:=Option.some.inj ((show Tryz.prog.funcNamed "pandect/pandectlaw31.CodeMore"=some 7 by kernel_rfl).symm.trans hf) |>.symm
 obtain rfl:fn=Tryz.f7:=(Option.some.inj (Tryz.func7.symm.trans hfn)).symm
 refine ⟨by kernel_rfl,fun j t ht=>?_⟩
 rw [par] at ht
 have ht:=Array.mem_of_getElem? ht
 simp only [List.mem_toArray,List.mem_cons,List.not_mem_nil,or_false] at ht
 rcases ht with rfl | rfl | rfl
 ·exact (show Tryz.prog.wantsStandIn 26=false by kernel_rfl)
 ·exact (show Tryz.prog.wantsStandIn 27=false by kernel_rfl)
 ·exact (show Tryz.prog.wantsStandIn 51=false by kernel_rfl)
theorem card:Rows.CodeMoreUptoCardSaid:=
 Claim7.holds_tied_plain_at .later [] _ _ _ _ said (fun _ h=>by cases h) (by kernel_rfl) (fun _ h=>by cases h) codeMoreUpto_row_tie rfl ⟨rfl,rfl⟩ (by kernel_rfl) rfl dq (by kernel_rfl)
end Go.Proofs.YtldkmcedeenlnaaGreatDoor.JCodeMore
end
