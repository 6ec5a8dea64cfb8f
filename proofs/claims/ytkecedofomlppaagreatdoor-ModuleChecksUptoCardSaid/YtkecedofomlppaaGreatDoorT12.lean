/- Plain facts. No condition. -/
import Derived.Test.YtkecedofomlppaaGreatDoorT11
set_option linter.all false
set_option maxRecDepth 100000
section
namespace Go.Proofs.YtkecedofomlppaaGreatDoor.JModuleChecks
open Go.AL Go.AL.Seat Go.Pd Go.ChangeShapes Go.WideShapes Go.RowKit Go.Proofs.YtkecedofomlppaaGreatDoor.Join
set_option maxRecDepth 1000000
theorem par:Tryz.f4.params=#[26]:=by kernel_rfl
theorem res:Tryz.f4.resultTypes=#[4]:=by kernel_rfl
theorem spec {H:Type} (ds:List (DataW H)) (hd:ds.length=1):Rows.moduleChecksSpec.fn H ds={results:=[.lit (.bool true)],args:=ds}:=by
 match ds,hd with
 | [d0],_=>rfl
theorem Fk (H:Type) (enc:TypeId × Value→H) (W:World) (base:Nat) (args:Array Value) (ds gs:List (DataW H)) (before:List MemPlace)
  (hval:∀(j:Nat) t v,Tryz.f4.params[j]?=some t→args[j]?=some v→Value.okWide Tryz.prog W .any base t v)
  (hW:DataW.Whole enc Tryz.prog Tryz.f4.params.toList Rows.moduleChecksSpec.vars false W args.toList ds gs before) (hku:Rows.uptoSmall H (ds++gs)=true) (hL:laidMet Tryz.prog laid W) (hsh:W.ShapedOpen Tryz.prog) :
  Calls Tryz.prog 4 args W fun e W'=>∃v,e=.returned v/\Rows.moduleChecksSpec.post enc Tryz.prog Tryz.f4 false true false false W args v W':=by
 letI:Tabs:=jF W
 haveI:SeatLaid:=DY hL hsh
 haveI:SeatPow:=FY hL
 have hW':=hW
 obtain ⟨p,q,hA,hV,_,_,_⟩:=hW
 rw [par] at hA hval
 obtain ⟨v0,vs0,d0,ds0,p0,q0,hargs0,rfl,rfl,h0,r0⟩:=trodAll_cons hA
 obtain ⟨rfl,rfl,rfl⟩:=trodAll_nil r0
 obtain rfl:args=#[v0]:=by
  have:=congrArg List.toArray hargs0
  simpa using this
 obtain ⟨x0,hx0,hq0⟩:=BF (BN Tryz.prog) Hc (hval 0 26 v0 rfl rfl) h0 (Eb hku (by simp))
 refine (Bk (jU x0 ⟨_,_,hx0⟩ (List.all_eq_true.2 fun d hd=>vt (hq0 d hd)) wW) (fun b o v h=>h.2) (fun b x h=>h.2) (VL.cons hx0 .nil)).mono fun e W' ⟨he,hb⟩=>?_
 subst he
 refine ⟨_,rfl,Dx (tb:=4) FW (fun t ht=>?_) rfl (fun ds hd=>spec ds ?_) res undB hW' hb⟩
 ·rw [par] at ht
  have ht:t∈[26]:=ht
  simp only [List.mem_cons,List.not_mem_nil,or_false] at ht
  rcases ht with rfl
  ·exact ⟨HL,Nat.lt_trans (by decide) dr⟩
 ·rw [par] at hd
  exact hd
theorem reads (os:Os) {H:Type} (enc:TypeId × Value→H):(DataW.whole enc Tryz.prog ((kf os).forCall (fun _ _=>0) ⟨#[],#[.agg #[.string ⟨#[]⟩,.slice none 0 0,.slice none 0 0,.slice none 0 0,.int .i64 0]],[]⟩).memory Tryz.f4.params.toList Rows.moduleChecksSpec.vars false [Value.agg #[.string ⟨#[]⟩,.slice none 0 0,.slice none 0 0,.slice none 0 0,.int .i64 0]] 8).map (fun x=>(x.1,x.2.1))=some ([.agg [.lit (.string []),.nil,.nil,.nil,.lit (.int .i64 0)]],[]):=by kernel_rfl
theorem Ht (os:Os) (started:os.Started) (H:Type) (enc:TypeId × Value→H) (F:Stop.Interp) :
  ReturnsInHanded {} Tryz.checked os 4 .any ((Rows.OpenSpec.upto Rows.moduleChecksSpec).preRow enc Tryz.prog Tryz.f4 Rows.moduleChecksUptoRow.domain false Rows.moduleChecksUptoRow.laid) (((Rows.OpenSpec.upto Rows.moduleChecksSpec).at F).post enc Tryz.prog Tryz.f4 false true false false):=by
 obtain ⟨⟨y1,y2,y3⟩,hx,hy⟩:=Option.map_eq_some_iff.1 (reads os enc)
 simp only [Prod.mk.injEq] at hy
 obtain ⟨rfl,rfl⟩:=hy
 refine returnsInHanded_of_row (C:=Tryz.checked) (s:=Rows.OpenSpec.upto Rows.moduleChecksSpec) own started (by kernel_rfl) Tryz.func4
  (witness_row_atRef (enc:=enc) (C:=Tryz.checked) false (kf os) #[.agg #[.string ⟨#[]⟩,.slice none 0 0,.slice none 0 0,.slice none 0 0,.int .i64 0]] rfl (by kernel_rfl) (by kernel_rfl) (by kernel_rfl)
   (OpenSpec.preRow_of_cond 8 hx (by kernel_rfl) (fun k hk=>by cases hk;kernel_rfl) (by kernel_rfl) (DZ os _))) ?_
 intro W base args ds gs before hval hW _ hku _ hL hsh _
 exact Fk H enc W base args ds gs before hval hW (hku _ rfl) hL hsh
end Go.Proofs.YtkecedofomlppaaGreatDoor.JModuleChecks
end
