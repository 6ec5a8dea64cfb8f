/- Plain facts. No condition. -/
import Derived.Test.YtpiedfeneggkmaaGreatDoorT06
set_option linter.all false
set_option maxRecDepth 100000
section
namespace Go.Proofs.YtpiedfeneggkmaaGreatDoor.JSynthLets
open Go.AL Go.AL.Seat Go.Pd Go.ChangeShapes Go.WideShapes Go.RowKit Go.Proofs.YtpiedfeneggkmaaGreatDoor.Join
set_option maxRecDepth 1000000
theorem par:Tryz.f6.params=#[26,29,9]:=by kernel_rfl
theorem res:Tryz.f6.resultTypes=#[4]:=by kernel_rfl
theorem spec {H:Type} (ds:List (DataW H)) (hd:ds.length=3):Rows.synthLetsSpec.fn H ds={results:=[.lit (.bool true)],args:=ds}:=by
 match ds,hd with
 | [d0,d1,d2],_=>rfl
theorem BU (H:Type) (enc:TypeId × Value→H) (W:World) (base:Nat) (args:Array Value) (ds gs:List (DataW H)) (before:List MemPlace)
  (hval:∀(j:Nat) t v,Tryz.f6.params[j]?=some t→args[j]?=some v→Value.okWide Tryz.prog W .any base t v)
  (hW:DataW.Whole enc Tryz.prog Tryz.f6.params.toList Rows.synthLetsSpec.vars false W args.toList ds gs before) (hwt:(DataW.weightsEach Tryz.prog (Tryz.f6.params.toList++(OpenSpec.ofChange Rows.synthLetsSpec).bare.plain.varTypes Tryz.prog) (ds++gs)).all (·<=reachBytes)=true) (hL:laidMet Tryz.prog laid W) (hsh:W.ShapedOpen Tryz.prog) :
  Calls Tryz.prog 6 args W fun e W'=>∃v,e=.returned v/\Rows.synthLetsSpec.post enc Tryz.prog Tryz.f6 false true false false W args v W':=by
 letI:Tabs:=oq W
 haveI:SeatLaid:=AP hL hsh
 have hW':=hW
 obtain ⟨p,q,hA,hV,_,_,_⟩:=hW
 rw [par] at hA hval
 obtain ⟨v0,vs0,d0,ds0,p0,q0,hargs0,rfl,rfl,h0,r0⟩:=trodAll_cons hA
 obtain ⟨v1,vs1,d1,ds1,p1,q1,hargs1,rfl,rfl,h1,r1⟩:=trodAll_cons r0
 obtain ⟨v2,vs2,d2,ds2,p2,q2,hargs2,rfl,rfl,h2,r2⟩:=trodAll_cons r1
 obtain ⟨rfl,rfl,rfl⟩:=trodAll_nil r2
 subst hargs1
 subst hargs2
 obtain rfl:args=#[v0,v1,v2]:=by
  have:=congrArg List.toArray hargs0
  simpa using this
 obtain ⟨x0,hx0,hq0⟩:=yJ (vM Tryz.prog) Ds (hval 0 26 v0 rfl rfl) h0 (fun n hn=>Xo (List.all_eq_true.1 hwt n (iC (i:=0) (t:=26) (by rw [par];rfl) rfl n hn)))
 obtain ⟨x1,hx1⟩:=Az DS (hval 1 29 v1 rfl rfl) h1
 obtain ⟨x2,hx2⟩:=Ay undS (hval 2 9 v2 rfl rfl) h2
 refine (yu (l6 bV (sz (bV x0 x1).1) x0 x1 x2 ⟨_,_,hx0⟩ ⟨_,_,hx1⟩ (qg _ x0 (Nat.le_refl _) hq0) ⟨_,_,hx2⟩ (Nat.le_refl _) Cr B5 zO uL) (fun b o v h=>h.2) (fun b x h=>h.2) (VL.cons hx0 (VL.cons hx1 (VL.cons hx2 .nil)))).mono fun e W' ⟨he,hb⟩=>?_
 subst he
 refine ⟨_,rfl,Ax (tb:=4) Cn (fun t ht=>?_) rfl (fun ds hd=>spec ds ?_) res undB hW' hb⟩
 ·rw [par] at ht
  have ht:t∈[26,29,9]:=ht
  simp only [List.mem_cons,List.not_mem_nil,or_false] at ht
  rcases ht with rfl | rfl | rfl
  ·exact ⟨DY,Nat.lt_trans (by decide) dj⟩
  ·exact ⟨DT,Nat.lt_trans (by decide) dj⟩
  ·exact ⟨DU,Nat.lt_trans (by decide) dj⟩
 ·rw [par] at hd
  exact hd
theorem reads (os:Os) {H:Type} (enc:TypeId × Value→H):(DataW.whole enc Tryz.prog ((jC os).forCall (fun _ _=>0) ⟨#[],#[.agg #[.int .i64 0,.string ⟨#[]⟩,.string ⟨#[]⟩,.int .i64 0,.slice none 0 0,.slice none 0 0,.slice none 0 0,.slice none 0 0,.int .i64 0],.agg #[.string ⟨#[]⟩,.slice none 0 0,.slice none 0 0,.slice none 0 0],.string ⟨#[]⟩],[]⟩).memory Tryz.f6.params.toList Rows.synthLetsSpec.vars false [Value.agg #[.int .i64 0,.string ⟨#[]⟩,.string ⟨#[]⟩,.int .i64 0,.slice none 0 0,.slice none 0 0,.slice none 0 0,.slice none 0 0,.int .i64 0],Value.agg #[.string ⟨#[]⟩,.slice none 0 0,.slice none 0 0,.slice none 0 0],Value.string ⟨#[]⟩] 8).map (fun x=>(x.1,x.2.1))=some ([.agg [.lit (.int .i64 0),.lit (.string []),.lit (.string []),.lit (.int .i64 0),.nil,.nil,.nil,.nil,.lit (.int .i64 0)],.agg [.lit (.string []),.nil,.nil,.nil],.lit (.string [])],[]):=by kernel_rfl
theorem DJ (os:Os) (started:os.Started) (H:Type) (enc:TypeId × Value→H) (F:Stop.Interp) :
  ReturnsInHanded {} Tryz.checked os 6 .any ((OpenSpec.ofChange Rows.synthLetsSpec).preRow enc Tryz.prog Tryz.f6 Rows.synthLetsRow.domain false Rows.synthLetsRow.laid) (((OpenSpec.ofChange Rows.synthLetsSpec).at F).post enc Tryz.prog Tryz.f6 false true false false):=by
 obtain ⟨⟨y1,y2,y3⟩,hx,hy⟩:=Option.map_eq_some_iff.1 (reads os enc)
 simp only [Prod.mk.injEq] at hy
 obtain ⟨rfl,rfl⟩:=hy
 refine returnsInHanded_of_row (C:=Tryz.checked) (s:=OpenSpec.ofChange Rows.synthLetsSpec) own started (by kernel_rfl) Tryz.func6
  (witness_row_atRef (enc:=enc) (C:=Tryz.checked) false (jC os) #[.agg #[.int .i64 0,.string ⟨#[]⟩,.string ⟨#[]⟩,.int .i64 0,.slice none 0 0,.slice none 0 0,.slice none 0 0,.slice none 0 0,.int .i64 0],.agg #[.string ⟨#[]⟩,.slice none 0 0,.slice none 0 0,.slice none 0 0],.string ⟨#[]⟩] rfl (by kernel_rfl) (by kernel_rfl) (by kernel_rfl)
   (OpenSpec.preRow_of_cond 8 hx (by kernel_rfl) (fun k hk=>by cases hk) (by kernel_rfl) (AQ os _))) ?_
 intro W base args ds gs before hval hW _ _ hwt hL hsh _
 exact BU H enc W base args ds gs before hval hW hwt hL hsh
theorem c1:(Rows.synthLetsRow.inPlace ==Tryz.prog.inPlace 6)=true:=by kernel_rfl
theorem c2:(Rows.synthLetsRow.unfollowed ==Tryz.prog.unfollowed 6)=true:=by kernel_rfl
theorem c3:(Rows.synthLetsRow.recurses ==Tryz.prog.recurses 6)=true:=by kernel_rfl
theorem c4:(Rows.synthLetsRow.named ==Tryz.prog.varsNamed 6)=true:=by kernel_rfl
theorem DK:joinedFacts Tryz.prog 6 Tryz.f6 (OpenSpec.ofChange Rows.synthLetsSpec).bare Rows.synthLetsRow=true:=by
 unfold joinedFacts
 rw [c1,c2,c3,c4]
 kernel_rfl
theorem said:Rows.SynthLetsSaid:=
 OpenClaim.holds_of_cond 6 Tryz.f6 rfl rfl rfl rfl rfl rfl rfl ⟨rfl,rfl,rfl,rfl,rfl⟩ rfl rfl rfl rfl rfl (by kernel_rfl) Tryz.func6 DK
  (Xo (by kernel_rfl)) (by unfold Func.isWrapper;first | (rw [if_pos (by decide+kernel)];kernel_rfl) | (rw [if_neg (by decide+kernel)];exact ⟨rfl,rfl⟩))
  (fun os started H enc _ F=>by rw [OpenClaim.pre_eq_preRow];exact DJ os started H enc F)
theorem plain (f:FuncId) (fn:Func) (hf:Tryz.pinned.checked.prog.funcNamed "pandect/pandectlaw14.SynthLets"=some f) (hfn:Tryz.pinned.checked.prog.funcs[f]?=some fn) :
  true=Tryz.pinned.checked.prog.looks []/\∀(j:Nat) t,fn.params[j]?=some t→Tryz.pinned.checked.prog.wantsStandIn t=false:=by
 obtain rfl:f=6:=Option.some.inj ((show Tryz.prog.funcNamed "pandect/pandectlaw14.SynthLets"=some 6 by kernel_rfl).symm.trans hf) |>.symm
 obtain rfl:fn=Tryz.f6:=(Option.some.inj (Tryz.func6.symm.trans hfn)).symm
 refine ⟨by kernel_rfl,fun j t ht=>?_⟩
 rw [par] at ht
 have ht:=Array.mem_of_getElem? ht
 simp only [List.mem_toArray,List.mem_cons,List.not_mem_nil,or_false] at ht
 rcases ht with rfl | rfl | rfl
 ·exact (show Tryz.prog.wantsStandIn 26=false by kernel_rfl)
 ·exact (show Tryz.prog.wantsStandIn 29=false by kernel_rfl)
 ·exact (show Tryz.prog.wantsStandIn 9=false by kernel_rfl)
theorem card:Rows.SynthLetsCardSaid:=
 Claim7.holds_tied_plain_at .later [] _ _ _ _ said (fun _ h=>by cases h) (by kernel_rfl) (fun _ h=>by cases h) synthLets_row_tie rfl ⟨rfl,rfl⟩ (by kernel_rfl) rfl plain (by kernel_rfl)
end Go.Proofs.YtpiedfeneggkmaaGreatDoor.JSynthLets
end
