/- The layer: Go code as conditions, and that they are sound. Plain facts. No condition. -/
import Derived.Test.YtdmbjejhifjhbaaGreatDoorT11
import Derived.Lib.AtoiErrMem
import Derived.Shelf.SlIter.Sorted
import Derived.Shelf.SlSortCmp.Whole1
import Derived.Shelf.Slices.CompactS
import Derived.Shelf.Slices.In.SortNone
import Derived.Shelf.Small.Strs
import Derived.Shelf.Sort.Plain
import Derived.Shelf.Strconv.Atoi
set_option linter.unusedVariables false
set_option linter.unusedSimpArgs false
set_option linter.unnecessarySimpa false
set_option linter.deprecated false
set_option linter.unusedSectionVars false
set_option maxRecDepth 100000
section
namespace Go.AL
variable [Tabs]
open Go.Proofs Go.RowKit Go.Maps Go.Sort Go.Shelf
variable {P:Program} {ρ:Ren}
def eH {α:Type} (F:Fence) (n:Nat) (P:Program) (g:Nat) (lb:Array Value) (enc:α→Value) (S:List α→Prop) (N:Nat) (w:World):Prop:=
 ∀(l:Nat) (J:List α→World→Prop) (W:World),Below w.heap.size w W→AbidesFrom W.heap.size J→(∀pre W1,J pre W1→Below w.heap.size w W1)→
  (∀pre x W1,J pre W1→pre.length < N→YieldAt F (n - 1) P l #[enc x] W1 fun e W'=>e=.returned (.bool true)/\J (pre++[x]) W'/\KeepsWalks W1 W')→
  J [] W→
  CallsIn F n P g (#[.func (.yield l) #[] #[]]++lb) W fun e W'=>(∃v,e=.returned v)/\∃xs,S xs/\J xs W'
theorem eH.bounded {α:Type} {F:Fence} {n:Nat} {g:Nat} {lb:Array Value} {enc:α→Value} {S:List α→Prop} {N:Nat} {w:World}
  (h:eH F n P g lb enc S N w):eH F n P g lb enc (fun xs=>S xs/\xs.length<=N) N w:=fun l J W hW hJ hB hY h0=>by
 refine (h l (fun xs W'=>J xs W'/\xs.length<=N) W hW (fun s A B row hs hg hr=>⟨hJ s A B row hs.1 hg hr,hs.2⟩) (fun pre W1 h=>hB pre W1 h.1)
  (fun pre x W1 hj hl=>(hY pre x W1 hj.1 hl).mono (fun e w' hr=>⟨hr.1,⟨hr.2.1,by simp;omega⟩,hr.2.2⟩)) ⟨h0,Nat.zero_le _⟩).mono ?_
 rintro e W' ⟨hv,xs,hS,hJ',hlen⟩
 exact ⟨hv,xs,⟨hS,hlen⟩,hJ'⟩
set_option maxRecDepth 100000 in
set_option maxHeartbeats 2000000 in
theorem xQ (L:SlLaysZ.n11 P ρ) (F:Fence) (n:Nat) (h11:F.fn (ρ.f 11)) (hro:F.round=none) (hn:2<=n) (g:Nat) (lb:Array Value) (hFg:F.fn g) (eg:∀args w,(callFunc g args).run P w=.ok (.enter g args) w)
  (S:List (List UInt8)→Prop) (N:Nat) (hN:N<=maxLen) (hNb:N *16<=140737488355328) (w:World) (hseq:eH F (n - 1) P g lb encStr S N w) :
  CallsIn F n P (ρ.f 11) #[.slice none 0 0,.func (.func g) #[] lb] w fun e w'=>∃(v:Value) (ss:List (List UInt8)),e=.returned v/\S ss/\w'.ownsRow w.heap.size (ρ.t 26) 1 v ss.length (ss.map encStr)/\(v=.slice none 0 0↔ss=[])/\Below w.heap.size w w':=by
 have h1:1<=n:=by omega
 have mixed:=L.mixed;have t0:=L.t0;have a0:=L.a0;have z0:=L.z0;have v0:=L.v0;have t24:=L.t24;have a24:=L.a24;have z24:=L.z24;have v24:=L.v24;have t26:=L.t26;have a26:=L.a26;have z26:=L.z26;have v26:=L.v26;have t28:=L.t28;have a28:=L.a28;have z28:=L.z28;have v28:=L.v28
 have hne:ρ.t 24≠ρ.t 26:=fun e=>by have h:=L.t24;rw [e,L.t26] at h;cases h
 have u0:=run_underlying L.t0;have u24:=run_underlying L.t24;have u26:=run_underlying L.t26;have u28:=run_underlying L.t28
 obtain ⟨_,_,FG⟩:=L.f11
 refine callsIn_of_wp_marks FG rfl h11 ?_ hro
 simp only [SlBodyZ.n11_ntmps ρ,List.size_toArray,List.length_cons,List.length_nil,Nat.reduceAdd,Nat.reduceSub,Array.replicate_succ,Array.replicate_zero,List.push_toArray,List.append_toArray,List.nil_append,List.cons_append]
 gi_wp2
 refine wpIn_rangeFunc ?_
 intro fn hfn
 rw [hro]
 obtain ⟨W0,hW0⟩:∃W0,w.alloc (.cells #[.slice none 0 0] (ρ.t 24))=W0:=⟨_,rfl⟩
 have hs0:W0.heap.size=w.heap.size+1:=by rw [←hW0];simp
 have hv0:W0.heap[w.heap.size]?=some (.cells #[.slice none 0 0] (ρ.t 24) (0,0)):=by rw [←hW0];exact World.alloc_heap_new w _
 have hb0:Below w.heap.size w W0:=by rw [←hW0];exact (Below.refl _ w).alloc (Nat.le_refl _) _
 rw [hW0]
 obtain ⟨W1,hW1⟩:∃W1,(W0.alloc (.deferred (some []))).alloc (.loop (AnyZ.apRec ρ fn (.func (.func g) #[] lb) w.heap.size W0.heap.size .ready none))=W1:=⟨_,rfl⟩
 have hold:∀k,k < W0.heap.size→W1.heap[k]?=W0.heap[k]?:=fun k hk=>by
  rw [←hW1];exact (Below.heap_alloc _ _ k (by simp;omega)).trans (Below.heap_alloc _ _ k hk)
 have hb1:Below w.heap.size w W1:=by rw [←hW1];exact (hb0.alloc hb0.size _).alloc (by have:=hb0.size;simp;omega) _
 have hs1:W1.heap.size=W0.heap.size+2:=by rw [←hW1];simp
 have hM:AnyZ.ApAt ρ w fn (.func (.func g) #[] lb) w.heap.size (W0.heap.size+1) W0.heap.size [] W1:=
  ⟨⟨_,(hold w.heap.size (by omega)).trans hv0,⟨rfl,.inl ⟨rfl,rfl⟩⟩,by simp⟩,
   by rw [←hW1];have:=World.alloc_heap_new (W0.alloc (.deferred (some []))) (.loop (AnyZ.apRec ρ fn (.func (.func g) #[] lb) w.heap.size W0.heap.size .ready none));rwa [World.size_alloc] at this,
   by rw [←hW1];exact (Below.heap_alloc _ _ _ (by simp)).trans (World.alloc_heap_new W0 _),hb1⟩
 refine ⟨W0.heap.size+1,[{target:=.collected W0.heap.size,args:=#[]}],W1,{target:=.fn (.func g) lb,args:=#[.func (.yield (W0.heap.size+1)) #[] #[]]},W1,g,
  #[.func (.yield (W0.heap.size+1)) #[] #[]]++lb,W1,?_,?_,?_,?_,fun _=>h1,?_⟩
 ·rw [←hW1];exact run_enterLoop_outer _ _ _ _ _
 ·simp [resolve,go_sem]
 ·intro f' hf';simp [Target.leads] at hf';subst hf';exact hFg
 ·simp [invoke,go_sem,eg]
 ·refine (hseq (W0.heap.size+1) (AnyZ.ApAt ρ w fn (.func (.func g) #[] lb) w.heap.size (W0.heap.size+1) W0.heap.size) W1 hb1 (AnyZ.ap_abides ρ _ _ _ _ _ _ _ hb1.size) (fun _ _ h=>h.below)
   (fun pre x W hJ hl=>AnyZ.apYield {L with} F (n - 1 - 1) w fn hfn _ w.heap.size (W0.heap.size+1) W0.heap.size (by omega) (by omega) (by omega) (Nat.le_refl _) (by omega) N hN hNb pre x W hJ hl) hM).mono ?_
  rintro e W2 ⟨⟨v0,rfl⟩,ss,hS,h2⟩
  obtain ⟨v,hv,hrow,hnil⟩:=h2.box
  have hend:=run_endLoop (P:=P) h2.L (by simp [AnyZ.apRec])
  obtain ⟨W3,hW3⟩:∃W3,W2.putObj (W0.heap.size+1) (.loop {AnyZ.apRec ρ fn (.func (.func g) #[] lb) w.heap.size W0.heap.size .ready none with state:=.exhausted})=W3:=⟨_,rfl⟩
  rw [hW3] at hend
  have hg3:W2.grownBy W3 (some (W0.heap.size+1)):=by rw [←hW3];exact grownBy_putObj_a _ _ _
  have hv3:W3.heap[w.heap.size]?=some (.cells #[v] (ρ.t 24) (0,0)):=by rw [←hW3];exact (World.putObj_heap_other (by omega)).trans hv
  have hK3:W3.heap[W0.heap.size]?=some (.deferred (some [])):=by rw [←hW3];exact (World.putObj_heap_other (by omega)).trans h2.K
  have hrow3:=hrow.kept hg3 (ownsRow_ne_a hrow h2.L (fun cur e=>by first | cases e | exact hne (Obj.cells.inj e).2.1))
  have hb3:Below w.heap.size w W3:=h2.below.grown hg3 h2.below.size (fun k e=>by cases e;omega)
  obtain ⟨hc3,hf3⟩:=cell_of_box_a hv3
  clear hW3
  refine ⟨none,W3,hend,?_⟩
  gi_wp2
  rw [←hs0]
  refine ⟨by simp,.inl ⟨_,_,rfl,run_takeDeferred hK3,?_⟩⟩
  exact ⟨_,results_tmp rfl _ _ _,v,ss,rfl,hS,hrow3.kept (grownBy_putObj_a _ _ _) (ownsRow_ne_a hrow3 hK3 (fun cur e=>by first | cases e | exact hne (Obj.cells.inj e).2.1)),hnil,hb3.grown (grownBy_putObj_a _ _ _) hb3.size (fun k e=>by cases e;omega)⟩
set_option maxRecDepth 100000 in
set_option maxHeartbeats 2000000 in
theorem D8 (L:SlLaysZ.n8 P ρ) (F:Fence) (n:Nat) (h8:F.fn (ρ.f 8)) (h11:F.fn (ρ.f 11)) (hro:F.round=none) (hn:3<=n) (g:Nat) (lb:Array Value) (hFg:F.fn g) (eg:∀args w,(callFunc g args).run P w=.ok (.enter g args) w)
  (S:List (List UInt8)→Prop) (N:Nat) (hN:N<=maxLen) (hNb:N *16<=140737488355328) (w:World) (hseq:eH F (n - 1 - 1) P g lb encStr S N w) :
  CallsIn F n P (ρ.f 8) #[.func (.func g) #[] lb] w fun e w'=>∃(v:Value) (ss:List (List UInt8)),e=.returned v/\S ss/\w'.ownsRow w.heap.size (ρ.t 26) 1 v ss.length (ss.map encStr)/\(v=.slice none 0 0↔ss=[])/\Below w.heap.size w w':=by
 have h1:1<=n:=by omega
 have e11:∀args w,(callFunc (ρ.f 11) args).run P w=.ok (.enter (ρ.f 11) args) w:=L.f11.enters rfl
 have mixed:=L.mixed;have t0:=L.t0;have a0:=L.a0;have z0:=L.z0;have v0:=L.v0;have t24:=L.t24;have a24:=L.a24;have z24:=L.z24;have v24:=L.v24;have t26:=L.t26;have a26:=L.a26;have z26:=L.z26;have v26:=L.v26;have t28:=L.t28;have a28:=L.a28;have z28:=L.z28;have v28:=L.v28
 have u0:=run_underlying L.t0;have u24:=run_underlying L.t24;have u26:=run_underlying L.t26;have u28:=run_underlying L.t28
 obtain ⟨_,_,FG⟩:=L.f8
 refine callsIn_of_wp FG rfl h8 ?_ hro
 simp only [SlBodyZ.n8_ntmps ρ,List.size_toArray,List.length_cons,List.length_nil,Nat.reduceAdd,Nat.reduceSub,Array.replicate_succ,Array.replicate_zero,List.push_toArray,List.append_toArray,List.nil_append,List.cons_append]
 gi_wp2_with (gi_at_fn (ρ.f 11);refine (xQ {L with} F (n - 1) h11 hro (by omega) g lb hFg eg S N hN hNb _ hseq).mono ?_;rintro e w' ⟨v,ss,rfl,hS,hrow,hnil,hb⟩)
 go_ret
 exact ⟨v,ss,rfl,hS,hrow,hnil,hb⟩
set_option maxRecDepth 100000 in
set_option maxHeartbeats 2000000 in
theorem Fi (L:SlLaysZ.n6 P ρ) (F:Fence) (n:Nat) (h6:F.fn (ρ.f 6)) (h8:F.fn (ρ.f 8)) (h9:F.fn (ρ.f 9)) (h11:F.fn (ρ.f 11)) (hro:F.round=none) (hn:4<=n) (hsort:AnyZ.SortsIn P ρ F (n - 1)) (e9:∀args w,(callFunc (ρ.f 9) args).run P w=.ok (.enter (ρ.f 9) args) w) (g:Nat) (lb:Array Value) (hFg:F.fn g) (eg:∀args w,(callFunc g args).run P w=.ok (.enter g args) w)
  (S:List (List UInt8)→Prop) (N:Nat) (hN:N<=maxLen) (hNb:N *16<=140737488355328) (w:World) (hseq:eH F (n - 1 - 1 - 1) P g lb encStr S N w) :
  CallsIn F n P (ρ.f 6) #[.func (.func g) #[] lb] w fun e w'=>∃(v:Value) (ss:List (List UInt8)),e=.returned v/\S ss/\
   w'.ownsRow w.heap.size (ρ.t 26) 1 v ss.length ((ss.mergeSort (fun x y=>decide (x<=y))).map encStr)/\(v=.slice none 0 0↔ss=[])/\Below w.heap.size w w':=by
 have h1:1<=n:=by omega
 have e8:∀args w,(callFunc (ρ.f 8) args).run P w=.ok (.enter (ρ.f 8) args) w:=L.f8.enters rfl
 have mixed:=L.mixed;have t0:=L.t0;have a0:=L.a0;have z0:=L.z0;have v0:=L.v0;have t24:=L.t24;have a24:=L.a24;have z24:=L.z24;have v24:=L.v24;have t26:=L.t26;have a26:=L.a26;have z26:=L.z26;have v26:=L.v26;have t28:=L.t28;have a28:=L.a28;have z28:=L.z28;have v28:=L.v28
 have u0:=run_underlying L.t0;have u24:=run_underlying L.t24;have u26:=run_underlying L.t26;have u28:=run_underlying L.t28
 obtain ⟨_,_,FG⟩:=L.f6
 refine callsIn_of_wp FG rfl h6 ?_ hro
 simp only [SlBodyZ.n6_ntmps ρ,List.size_toArray,List.length_cons,List.length_nil,Nat.reduceAdd,Nat.reduceSub,Array.replicate_succ,Array.replicate_zero,List.push_toArray,List.append_toArray,List.nil_append,List.cons_append]
 gi_wp2_with (gi_at_fn (ρ.f 8);refine (D8 {L with} F (n - 1) h8 h11 hro (by omega) g lb hFg eg _ N hN hNb _ (eH.bounded hseq)).mono ?_;rintro e W ⟨v,ss,rfl,⟨hS,hlen⟩,hrow,hnil,hb⟩)
 rcases hrow.2 with ⟨rfl,hz⟩ | ⟨gb,cap,cur,rfl,hbase,hgb,r1,r2,r3,r4⟩
 ·
  have hss:ss=[]:=List.eq_nil_of_length_eq_zero hz
  subst hss
  gi_wp2_with (gi_at_fn (ρ.f 9);refine (hsort.2 none 0 W).mono ?_;rintro e w' ⟨rfl,rfl⟩)
  go_ret
  exact ⟨.slice none 0 0,[],rfl,hS,by simpa using hrow,by simp,hb⟩
 ·have hH:Go.Sort.Holds encStr W gb 0 ss.toArray:=holds_of_block hgb (by simpa using r4)
  have hgl:gb < W.heap.size:=(Array.getElem?_eq_some_iff.1 hgb).1
  have hsz:ss.length < 4611686018427387904:=by omega
  have cS:=hsort.1 gb 0 cap ss W hH hgl hsz
  gi_wp2_with (gi_at_fn (ρ.f 9);refine cS.mono ?_;rintro e w' ⟨rfl,nn,os,rfl⟩)
  go_ret
  exact ⟨_,ss,rfl,hS,ownsRow_sorted (by simp) hbase hgb r1 r2 r3,hnil,hb.grown (grownBy_sorted _) hb.size (fun j hj=>by cases hj;exact hbase)⟩
theorem AR {f:Nat} {args:List AV} {S:List (Nat × SObj)} {ob:Option Prop} {T:TypeId} {ss:List Str} (hk:ax S 0=none)
  (hC:∀w pub e vs,lL w pub→VL ⟨e,w,pub⟩ args vs→(∀id o,ax S id=some o→bv ⟨e,w,pub⟩ (fun _ _=>True) id o)→
   (∀s∈ss,s.length<=ck)/\Calls P f vs.toArray w fun en w'=>∃v,en=.returned v/\w'.ownsRow w.heap.size T 1 v ss.length (ss.map encStr)/\Below w.heap.size w w') :
  ar P f args S ⟨ob,none,.arr 0 ss.length 1,[(0,.box (.row .str ss))]⟩:=by
 intro w pub e vs hp ht hv hs hd hi
 obtain ⟨hlen,hC⟩:=hC w pub e vs hp hv hs
 refine hC.mono ?_
 rintro en w' ⟨v,rfl,⟨hl,hrow⟩,hb⟩
 have hpl:(aa (.row .str ss)).length=ss.length:=by
  have:=bO .str ss
  rw [show ac .str=1 from rfl,Nat.mul_one] at this
  exact this
 rcases hrow with ⟨rfl,hz⟩ | ⟨g,cap,cur,rfl,hbase,hg,h1,h2,h3,h4⟩
 ·have hss:ss=[]:=List.eq_nil_of_length_eq_zero hz
  subst hss
  refine ⟨_,_,fun _ _ _ h=>(by cases h),?_,After.fresh1 (c:=.box w.heap.size 0 0) hp hs hd hi hb hk (fun b o ho=>by obtain ⟨_,_,h⟩:=ho;omega) ⟨w.heap.size,0,by simp;rfl,fun j c' hc=>?_⟩⟩
  ·exact .arr 0 0 1 w.heap.size 0 0 none (by simp) (by omega) (by omega) (by unfold ck;omega) (.inr ⟨rfl,rfl,rfl⟩)
  ·simp [aa,bg] at hc
 ·refine ⟨_,_,fun _ _ _ h=>(by cases h),?_,After.fresh1 (c:=.box g 0 (aa (.row .str ss)).length) hp hs hd hi hb hk (fun b o ho=>by obtain ⟨rfl,_,_⟩:=ho;exact hbase) ⟨g,0,by simp,fun j c' hc=>?_⟩⟩
  ·exact .arr 0 ss.length 1 g (aa (.row .str ss)).length cap (some ⟨g,0,none⟩) (by simp) (by omega) h1 (by unfold maxLen at h2;unfold ck;omega) (.inl rfl)
  ·have hj:j < ss.length:=by
    rw [←hpl]
    rcases Nat.lt_or_ge j (aa (.row .str ss)).length with k | k
    ·exact k
    ·rw [List.getElem?_eq_none k] at hc;cases hc
   have hcx:=ir .str ss j ss[j] 0 (.str ss[j]) (by simp [hj]) rfl
   have hc0:(aa (.row .str ss))[j]?=some (.str ss[j]):=by rw [show j *ac .str+0=j by rw [show ac .str=1 from rfl];omega] at hcx;exact hcx
   rw [hc0] at hc
   cases hc
   have hcur:cur[j]?=some (encStr ss[j]):=by
    have:(cur.toList.take (ss.length *1))[j]?=some (encStr ss[j]):=by rw [h4];simp [hj]
    rw [List.getElem?_take] at this
    split at this
    ·simpa using this
    ·cases this
   refine ⟨.inl hbase,fun h=>?_,eZ hg _,encStr ss[j],by rw [Nat.zero_add,aM hg];exact hcur,.str _ (hlen _ (List.getElem_mem hj))⟩
   rcases h with h | h
   ·obtain ⟨v,hv⟩:=hp _ _ h
    have:=bd hv
    omega
   ·exact h
def fC (l:List Str):List Str:=l.mergeSort fun x y=>decide (x<=y)
theorem mY (l:List Str):(fC l).length=l.length:=List.length_mergeSort _
theorem AT {l:List Str} {s:Str}:s∈fC l↔s∈l:=List.mem_mergeSort
structure SortL (P:Program) (ρ:Ren):Prop where
 lay:SlLaysZ.n6 P ρ
 sorts:AnyZ.SortsIn P ρ Fence.wide 4
 e9:∀args w,(callFunc (ρ.f 9) args).run P w=.ok (.enter (ρ.f 9) args) w
theorem tJ (L:SortL P ρ) {g:Nat} {lb:Array Value} (eg:∀args w,(callFunc g args).run P w=.ok (.enter g args) w) {ks:List Str} (hN:ks.length *16<=140737488355328) {w:World}
  (hseq:eH Fence.wide 2 P g lb encStr (fun ss=>ss.Perm ks) ks.length w) :
  Calls P (ρ.f 6) #[.func (.func g) #[] lb] w fun en w'=>∃v,en=.returned v/\w'.ownsRow w.heap.size (ρ.t 26) 1 v (fC ks).length ((fC ks).map encStr)/\Below w.heap.size w w':=by
 refine callsIn_wide.1 ((Fi L.lay Fence.wide 5 trivial trivial trivial trivial rfl (by omega) L.sorts L.e9 g lb trivial eg _ ks.length (by unfold maxLen;omega) hN w hseq).mono ?_)
 rintro en w' ⟨v,ss,rfl,hS,hrow,_,hb⟩
 have e:ss.mergeSort (fun x y=>decide (x<=y))=fC ks:=mergeSort_of_perm hS
 have hl:ss.length=(fC ks).length:=by rw [mY];exact hS.length_eq
 rw [e,hl] at hrow
 exact ⟨v,rfl,hrow,hb⟩
theorem V.fn_inv {Ω:Om} {f:Nat} {cs:List AV} {v:Value} (h:V Ω (.fn f cs) v):∃vs,v=.func (.func f) #[] vs.toArray/\VL Ω cs vs:=by
 cases h with
 | fn _ _ vs h1 h2=>exact ⟨vs,rfl,h1,h2⟩
def Strs (n₀:Nat) (W:World) (sv:Value) (zs:List Str):Prop:=
 ((∃a cap,sv=.slice a 0 cap)/\zs=[])∨∃b off cap,sv=.slice (some ⟨b,off,none⟩) zs.length cap/\b < n₀/\∀j,j < zs.length→W.cell? ⟨b,off+j,none⟩=some (encStr (zs[j]?.getD []))
def rF {α:Type} (f:Nat→α) (k:Nat):List α:=(List.range k).map f
theorem AU {α:Type} (f:Nat→α) (k:Nat):rF f (k+1)=rF f k++[f k]:=by simp [rF,List.range_succ]
theorem vm {α:Type} (f:Nat→α) (k:Nat):(rF f k).length=k:=by simp [rF]
theorem D9 (zs:List Str):rF (fun j=>zs[j]?.getD []) zs.length=zs:=by
 apply List.ext_getElem
 ·simp [rF]
 ·intro i h1 h2
  simp [rF,h2]
def tK (P:Program) (g:Nat):Prop:=
 ∀(w:World) (b o:Nat) (sv:Value) (zs:List Str),zs.length<=maxLen→w.cell? ⟨b,o,none⟩=some sv→Strs w.heap.size w sv zs→
  eH Fence.wide 2 P g #[.pointer (some ⟨b,o,none⟩)] encStr (fun ss=>ss=zs) zs.length w
theorem V.dropTok {Ω:Om} {τ:Ty} {xs:List (den τ)} {o:Option Nat} {v:Value} (h:V Ω (.lst τ xs o) v):V Ω (.lst τ xs none) v:=by
 cases h with
 | lstNil=>exact .lstNil τ none (fun _ h=>by cases h)
 | lstVoid _ a=>exact .lstVoid τ a
 | lst _ _ _ b off cap vals h1 h2 h3 h4 h5=>exact .lst τ xs none b off cap vals h1 h2 (fun _ h=>by cases h) h4 h5
theorem mf (L:SortL P ρ) {g:Nat} (eg:∀args w,(callFunc g args).run P w=.ok (.enter g args) w) (K:tK P g) (zs:List Str) (hN:zs.length *16<=140737488355328) (tok:Option Nat) :
  ar P (ρ.f 6) [.fn g [.ptr 900 0]] [(900,.box (.lst .str zs tok))] ⟨some (zs.length *16<=140737488355328),none,.arr 0 (fC zs).length 1,[(0,.box (.row .str (fC zs)))]⟩:=by
 refine AR (T:=ρ.t 26) rfl fun w pub e vs hp hv hs=>?_
 obtain ⟨v1,rfl,h1⟩:=VL.one_inv hv
 obtain ⟨us,rfl,hus⟩:=h1.fn_inv
 obtain ⟨u,rfl,hu⟩:=VL.one_inv hus
 obtain ⟨b,o,len,rfl,he⟩:=hu.ptr_inv
 obtain ⟨b',o',he',hbox⟩:=hs 900 _ rfl
 rw [he] at he'
 cases he'
 obtain ⟨_,_,_,v,hcell,hvm⟩:=hbox 0 (.lst .str zs tok) rfl
 have hst:Strs w.heap.size w v zs:=by
  cases hvm with
  | lstNil=>exact .inl ⟨⟨_,_,rfl⟩,rfl⟩
  | lstVoid=>exact .inl ⟨⟨_,_,rfl⟩,rfl⟩
  | lst _ _ _ g0 off cap vals h1 h2 h3 h4 h5=>
   rcases Nat.eq_zero_or_pos zs.length with hz | hz
   ·have:=List.eq_nil_of_length_eq_zero hz
    subst this
    exact .inl ⟨⟨_,_,rfl⟩,rfl⟩
   ·have at_:∀j (hj:j < zs.length),w.cell? ⟨g0,off+j,none⟩=some (encStr zs[j]):=by
     intro j hj
     have q:=h4 j zs[j] (by simp [hj]) 0 (.str zs[j]) rfl
     have r:=h5 j zs[j] (by simp [hj]) 0 (.str zs[j]) rfl
     obtain ⟨r1,_⟩:=r.str_inv
     have:=q.2
     rw [r1] at this
     simpa [ac] using this
    exact .inr ⟨g0,off,cap,rfl,bd (at_ 0 hz),fun j hj=>by rw [at_ j hj];simp [hj]⟩
 refine ⟨fun s hs=>?_,?_⟩
 ·have hw:Wf (.lst .str) zs:=⟨_,_,V.dropTok hvm⟩
  exact (hw.mem (AT.1 hs)).str
 have hsq:=K w b (o+0) v zs (by unfold maxLen;omega) hcell hst
 refine tJ L eg hN (w:=w) ?_
 intro l J W a1 a2 a3 a4 a5
 refine (hsq l J W a1 a2 a3 a4 a5).mono ?_
 rintro e W' ⟨h1,xs,rfl,h3⟩
 exact ⟨h1,xs,.refl _,h3⟩
end Go.AL
end
section
namespace Go.AL
variable [Tabs]
open Go.Proofs Go.RowKit Go.Maps Go.Sort Go.Shelf
variable {P:Program} {ρ:Ren}
theorem After.row {w w':World} {pub:Nat→Nat→Prop} {e:Nat→Option CObj} {S:List (Nat × SObj)}
  (hp:lL w pub) (hs:∀id o,ax S id=some o→bv ⟨e,w,pub⟩ (fun _ _=>True) id o) (hd:∀id,ax S id=none→e id=none) (hi:Inj e)
  {k b:Nat} {c c':AV} (hk:ax S k=some (.box c)) (he:e k=some (.box b 0 (aa c).length)) (hl:(aa c').length=(aa c).length)
  (os:w'.os=w.os) (tape:w'.tape=w.tape) (output:w'.output=w.output) (size:w.heap.size<=w'.heap.size)
  (hblock:∀b',b' < w.heap.size→b'≠b∨(aa c).length=0→w'.heap[b']?=w.heap[b']?)
  (hcell:∀j,(aa c).length<=j→w'.cell? ⟨b,j,none⟩=w.cell? ⟨b,j,none⟩)
  (hkind:w'.shape? b=w.shape? b/\∀o,w'.frozen? ⟨b,o,none⟩=w.frozen? ⟨b,o,none⟩)
  (hval:∀(j:Nat) (c0:AV),(aa c')[j]?=some c0→∃v,w'.cell? ⟨b,j,none⟩=some v/\∀Ω',V Ω' c0 v) :
  After w pub e (ax (putB S [(k,.box c')])) w' (fun b o=>pub b o∨False) (fun i=>if k=i then some (.box b 0 (aa c).length) else e i):=by
 obtain ⟨b0,off0,he0,hbox⟩:=hs k _ hk
 have he0:e k=some (.box b0 off0 (aa c).length):=he0
 rw [he] at he0
 simp only [Xs,CObj.box.injEq] at he0
 obtain ⟨rfl,rfl,_⟩:=he0
 have inE:∀{o},o < (aa c).length→tI e k b o:=fun h=>⟨_,he,rfl,by omega,by omega⟩
 have outE:∀{b' o},¬tI e k b' o→b'≠b∨(aa c).length<=o:=by
  intro b' o h
  rcases Nat.lt_or_ge o (aa c).length with h' | h'
  ·exact .inl fun e=>h (e ▸ inE h')
  ·exact .inr h'
 have cell:∀b' o,b' < w.heap.size→¬tI e k b' o→w'.cell? ⟨b',o,none⟩=w.cell? ⟨b',o,none⟩:=by
  intro b' o h1 h2
  by_cases hb:b'=b
  ·subst hb
   rcases outE h2 with h | h
   ·exact absurd rfl h
   ·exact hcell o h
  ·exact ay (hblock b' h1 (.inl hb)) o
 refine After.slot hp hs hd hi (Q:=fun _ _=>False) os tape output size (fun b' h1 h2=>?_) cell (fun b' h1 h2=>?_) (fun b' o h=>?_) (fun _ _ h=>h.elim) (fun c0 h=>?_) (fun b' o h=>?_) (fun _=>?_)
 ·refine hblock b' h1 ?_
  rcases outE (h2 0) with h | h
  ·exact .inl h
  ·exact .inr (by omega)
 ·by_cases hb:b'=b
  ·subst hb;exact hkind
  ·have:=hblock b' h1 (.inl hb)
   exact ⟨bA this,fun o=>ba this o⟩
 ·obtain ⟨v,hv⟩:=hp b' o h
  refine cell b' o (bd hv) ?_
  rintro ⟨c1,h1,h2⟩
  rw [he] at h1
  cases h1
  obtain ⟨rfl,_,h3⟩:=h2
  have hj:o < (aa c).length:=by omega
  have:=(hbox o _ (List.getElem?_eq_getElem hj)).2.1
  exact this (by simpa using h)
 ·rw [he] at h
  cases h
  exact ⟨rfl,rfl,rfl⟩
 ·exact .inr ⟨_,he,h⟩
 ·refine ⟨b,0,by simp [hl],fun j c0 hc=>?_⟩
  have hj:j < (aa c).length:=by
   rw [←hl]
   rcases Nat.lt_or_ge j (aa c').length with q | q
   ·exact q
   ·rw [List.getElem?_eq_none q] at hc;cases hc
  obtain ⟨_,q2,q3,_⟩:=hbox j _ (List.getElem?_eq_getElem hj)
  obtain ⟨v,hv,hV⟩:=hval j c0 hc
  rw [Nat.zero_add] at q2 q3 ⊢
  refine ⟨.inr ⟨k,_,he,rfl,by omega,by omega⟩,fun h=>?_,?_,v,hv,hV _⟩
  ·rcases h with h | h
   ·exact q2 h
   ·exact h
  ·exact (hkind.2 j).trans q3
theorem vn {α:Type} [Inhabited α] (enc:α→Value) (w:World) (b:Nat) (d:Array α) (k:Nat) (h:k≠b∨d.size=0):(putRow enc w b 0 d).heap[k]?=w.heap[k]?:=by
 unfold putRow mapBlock
 simp only [Array.getElem?_modify]
 by_cases hk:b=k
 ·subst hk
  rcases h with h | h
  ·exact absurd rfl h
  ·simp only [if_true]
   cases hw:w.heap[b]? with
   | none=>rfl
   | some o=>
    simp only [Option.map_some,Xs]
    cases o with
    | cells c e f=>
     simp only [onCells,Obj.cells.injEq,and_true,true_and]
     apply Array.ext
     ·simp [putCells]
     ·intro i h1 h2
      simp [putCells,h]
    | _=>rfl
 ·rw [if_neg hk]
theorem tL {α:Type} [Inhabited α] (enc:α→Value) (w:World) (b:Nat) (d:Array α):(putRow enc w b 0 d).shape? b=w.shape? b:=by
 unfold putRow mapBlock World.shape?
 simp only [Array.getElem?_modify,if_true]
 cases w.heap[b]? with
 | none=>rfl
 | some o=>cases o <;> simp [onCells,putCells]
theorem g8 {τ:Ty} (hw:ac τ=1) (xs:List (den τ)):(aa (.row τ xs)).length=xs.length:=by
 have:=bO τ xs
 rw [hw,Nat.mul_one] at this
 exact this
theorem kJ {τ:Ty} (hw:ac τ=1) (xs:List (den τ)) (j:Nat) (x:den τ) (c:AV) (hx:xs[j]?=some x) (hc:(cells τ x)[0]?=some c):(aa (.row τ xs))[j]?=some c:=by
 have:=ir τ xs j x 0 c hx hc
 rw [hw,Nat.mul_one,Nat.add_zero] at this
 exact this
theorem strRow {Ω:Om} {own:Nat→Nat→Prop} {id b:Nat} {ss:List Str} (h:bv Ω own id (.box (.row .str ss))) {len:Nat} (he:Ω.e id=some (.box b 0 len)) :
  len=ss.length/\Go.Sort.Holds encStr Ω.w b 0 ss.toArray/\∀s∈ss,s.length<=ck:=by
 obtain ⟨b',off,h1,h2⟩:=h
 rw [he] at h1
 simp only [Xs,CObj.box.injEq] at h1
 obtain ⟨rfl,rfl,h1⟩:=h1
 have at_:∀j (hj:j < ss.length),Ω.w.frozen? ⟨b,0+j,none⟩=false/\Ω.w.cell? ⟨b,0+j,none⟩=some (encStr ss[j])/\ss[j].length<=ck:=by
  intro j hj
  obtain ⟨_,_,q3,v,q4,q5⟩:=h2 j _ (kJ (τ:=.str) rfl ss j ss[j] (.str ss[j]) (by simp [hj]) rfl)
  obtain ⟨rfl,q6⟩:=q5.str_inv
  exact ⟨q3,q4,q6⟩
 refine ⟨by rw [h1];exact g8 (τ:=.str) rfl ss,fun j hj=>?_,fun s hs=>?_⟩
 ·have hj':j < ss.length:=by simpa using hj
  obtain ⟨q1,q2,_⟩:=at_ j hj'
  exact ⟨by rw [q2];simp [hj'],q1⟩
 ·obtain ⟨j,hj,rfl⟩:=List.getElem_of_mem hs
  exact (at_ j hj).2.2
theorem vo {ss:List Str} {s:Str} (h:s∈Lib.compact ss):s∈ss:=by
 unfold Lib.compact Lib.compactUpTo at h
 obtain ⟨j,hj,rfl⟩:=List.mem_map.1 h
 have:=(List.mem_filter.1 hj).1
 rw [List.mem_range] at this
 simp [this]
theorem After.strRow {w:World} {pub:Nat→Nat→Prop} {e:Nat→Option CObj} {S:List (Nat × SObj)}
  (hp:lL w pub) (hs:∀id o,ax S id=some o→bv ⟨e,w,pub⟩ (fun _ _=>True) id o) (hd:∀id,ax S id=none→e id=none) (hi:Inj e)
  {k b len q:Nat} {ss ts:List Str} {gs:Array Obj} (hk:ax S k=some (.box (.row .str ss))) (he:e k=some (.box b 0 len)) (hl:ts.length=ss.length) (hb:b < w.heap.size) (ht:∀s∈ts,s.length<=ck) :
  After w pub e (ax (putB S [(k,.box (.row .str ts))])) (grow (putRow encStr (Sort.ahead w q) b 0 ts.toArray) gs) (fun b o=>pub b o∨False) (fun i=>if k=i then some (.box b 0 (aa (.row .str ss)).length) else e i):=by
 obtain ⟨rfl,hH,_⟩:=AL.strRow (hs k _ hk) he
 have hsz:(putRow encStr (Sort.ahead w q) b 0 ts.toArray).heap.size=w.heap.size:=by simp
 have old:∀j,j < w.heap.size→(grow (putRow encStr (Sort.ahead w q) b 0 ts.toArray) gs).heap[j]?=(putRow encStr (Sort.ahead w q) b 0 ts.toArray).heap[j]?:=by
  intro j hj
  unfold grow
  simp only
  rw [Array.getElem?_append_left (by rw [hsz];exact hj)]
 have hpl:=g8 (τ:=.str) rfl ss
 refine After.row hp hs hd hi hk (by rw [he,hpl]) (by rw [g8 rfl,g8 rfl,hl]) rfl rfl rfl (by simp [grow]) (fun b' h1 h2=>?_) (fun j hj=>?_) ⟨?_,fun o=>?_⟩ (fun j c0 hc=>?_)
 ·rw [old b' h1,vn encStr (Sort.ahead w q) b ts.toArray b' (by rw [hpl] at h2;simpa [hl] using h2)]
  rfl
 ·rw [ay (old b hb) j,cell?_putRow_other encStr (Sort.ahead w q) b 0 ts.toArray ⟨b,j,none⟩ (.inr (.inr (by rw [hpl] at hj;simp;omega)))]
  rfl
 ·rw [bA (old b hb),tL]
  rfl
 ·rw [ba (old b hb) o,frozen?_putRow]
  rfl
 ·have hj:j < ts.length:=by
   rw [←g8 (τ:=.str) rfl ts]
   rcases Nat.lt_or_ge j (aa (.row .str ts)).length with q | q
   ·exact q
   ·rw [List.getElem?_eq_none q] at hc;cases hc
  rw [kJ (τ:=.str) rfl ts j ts[j] (.str ts[j]) (by simp [hj]) rfl] at hc
  cases hc
  refine ⟨encStr ts[j],?_,fun Ω'=>.str _ (ht _ (List.getElem_mem hj))⟩
  rw [ay (old b hb) j]
  have:=cell?_putRow encStr (Sort.ahead w q) b 0 ss.toArray ts.toArray hH (by simp [hl]) j (by simpa using hj)
  rw [Nat.zero_add] at this
  rw [this]
  simp [hj]
theorem rG (L:Lays.n194 P ρ) (n:Nat) (ss:List Str) (hn:n=ss.length) :
  ar P (ρ.f 194) [.arr 900 n 1] [(900,.box (.row .str ss))]
   ⟨some (n=ss.length),none,.arr 900 (Lib.compact ss).length 1,[(900,.box (.row .str (Lib.compact ss++List.replicate (ss.length - (Lib.compact ss).length) [])))]⟩:=by
 subst hn
 intro w pub e vs hp ht hv hs hd hi
 obtain ⟨v,rfl,h1⟩:=VL.one_inv hv
 have hcl:(Lib.compact ss).length<=ss.length:=by
  unfold Lib.compact Lib.compactUpTo
  rw [List.length_map]
  exact Nat.le_trans (List.length_filter_le _ _) (by simp)
 cases h1 with
 | arr _ _ _ b len cap a he h2 h3 h4 h5=>
  have he:e 900=some (.box b 0 len):=he
  obtain ⟨rfl,hH,hlen⟩:=strRow (hs 900 _ rfl) he
  have hpl:=g8 (τ:=.str) rfl ss
  rcases h5 with rfl | ⟨rfl,hz,rfl⟩
  ·by_cases h0:ss=[]
   ·subst h0
    refine (Any.slices_Compact_string_empty L (some ⟨b,0,none⟩) cap w).mono ?_
    rintro en w' ⟨rfl,rfl⟩
    refine ⟨_,_,fun _ _ _ h=>(by cases h),?_,After.row (c':=.row .str []) hp hs hd hi rfl (show e 900=some (.box b 0 (aa (.row .str [])).length) from he) rfl rfl rfl rfl (Nat.le_refl _) (fun _ _ _=>rfl) (fun _ _=>rfl) ⟨rfl,fun _=>rfl⟩ (fun j c0 hc=>by simp [aa,bg] at hc)⟩
    exact .arr 900 0 1 b (aa (.row .str [])).length cap _ (by simp) (by omega) (by omega) h4 (.inl rfl)
   ·have hpos:0 < ss.length:=List.length_pos_iff.2 h0
    have hb:b < w.heap.size:=bd (hH 0 (by simpa using hpos)).1
    refine (Any.slices_Compact_string L b 0 cap ss w hH (by unfold ck at h4;omega) h3).mono ?_
    rintro en w' ⟨rfl,q,rfl⟩
    have hA:=After.strRow (q:=q) (gs:=#[]) (ts:=Lib.compact ss++List.replicate (ss.length - (Lib.compact ss).length) []) hp hs hd hi rfl he (by simp;omega) hb (fun s hs'=>by
     rcases List.mem_append.1 hs' with h | h
     ·exact hlen s (vo h)
     ·obtain ⟨_,rfl⟩:=List.mem_replicate.1 h;exact Nat.zero_le _)
    rw [grow_empty] at hA
    exact ⟨_,_,fun _ _ _ h=>(by cases h),.arr 900 (Lib.compact ss).length 1 b (aa (.row .str ss)).length cap _ (by simp) (by rw [hpl];omega) (by omega) h4 (.inl rfl),hA⟩
  ·have h0:ss=[]:=List.eq_nil_of_length_eq_zero hz
   subst h0
   refine (Any.slices_Compact_string_empty L none 0 w).mono ?_
   rintro en w' ⟨rfl,rfl⟩
   refine ⟨_,_,fun _ _ _ h=>(by cases h),?_,After.row (c':=.row .str []) hp hs hd hi rfl (show e 900=some (.box b 0 (aa (.row .str [])).length) from he) rfl rfl rfl rfl (Nat.le_refl _) (fun _ _ _=>rfl) (fun _ _=>rfl) ⟨rfl,fun _=>rfl⟩ (fun j c0 hc=>by simp [aa,bg] at hc)⟩
   exact .arr 900 0 1 b (aa (.row .str [])).length 0 _ (by simp) (by omega) (by omega) h4 (.inr ⟨rfl,rfl,rfl⟩)
end Go.AL
end
section
namespace Go.AL
variable [Tabs]
open Go.Proofs Go.Shelf
variable {P:Program} {ρ:Ren}
def GT (gv gk:Nat):Pat:=fun args S=>
 match args,S with
 | [.fn g [.ptr 900 0]],[(900,.box (.lst .str zs _))]=>
  if g=gv then some ⟨some (zs.length *16<=140737488355328),none,.arr 0 (fC zs).length 1,[(0,.box (.row .str (fC zs)))]⟩ else none
 | [.fn g [.ptr 900 0]],[(900,.box (.map 901)),(901,.map .str _ m)]=>
  if g=gk then some ⟨some (m.length *16<=140737488355328),none,.arr 0 (fC (m.map (·.1))).length 1,[(0,.box (.row .str (fC (m.map (·.1)))))]⟩ else none
 | _,_=>none
def mg (gv:Nat):Pat:=fun args S=>
 match args,S with
 | [.fn g [.ptr 900 0]],[(900,.box (.lst .str zs _))]=>
  if g=gv then some ⟨some (zs.length *16<=140737488355328),none,.arr 0 (fC zs).length 1,[(0,.box (.row .str (fC zs)))]⟩ else none
 | _,_=>none
theorem rH {f gv:Nat} (L:SortL P ρ) (hf:ρ.f 6=f) (eg:∀args w,(callFunc gv args).run P w=.ok (.enter gv args) w) (V:tK P gv) (he:au P f):ad P f (mg gv):=by
 subst hf
 intro args S A h hob hkeys
 unfold mg at h
 split at h
 ·split at h
  ·rename_i e
   subst e
   cases h
   exact ⟨he,mf L eg V _ (hob _ rfl) _⟩
  ·cases h
 ·cases h
def mh:Pat:=fun args S=>
 match args,S with
 | [.arr 900 n 1],[(900,.box (.row .str ss))]=>
  some ⟨some (n=ss.length),none,.arr 900 (Lib.compact ss).length 1,[(900,.box (.row .str (Lib.compact ss++List.replicate (ss.length - (Lib.compact ss).length) [])))]⟩
 | _,_=>none
theorem rI {f:Nat} (L:Lays.n194 P ρ) (hf:ρ.f 194=f) (he:au P f):ad P f mh:=by
 subst hf
 intro args S A h hob hkeys
 unfold mh at h
 split at h
 ·cases h
  exact ⟨he,rG L _ _ (hob _ rfl)⟩
 ·cases h
end Go.AL
end
section
namespace Go.AL
open Go.Lib
theorem vp {l:List Str} (hs:l.Pairwise (·<= ·)):(Lib.compact l).length=l.length↔l.Nodup:=by
 unfold Lib.compact Lib.compactUpTo
 rw [List.length_map]
 have e:((List.range l.length).filter (keeps l.toArray)).length=l.length↔∀j,j < l.length→keeps l.toArray j=true:=by
  have h:=List.length_filter_eq_length_iff (p:=keeps l.toArray) (l:=List.range l.length)
  rw [List.length_range] at h
  rw [h]
  simp
 rw [e,List.nodup_iff_pairwise_ne,List.pairwise_iff_getElem]
 rw [List.pairwise_iff_getElem] at hs
 constructor
 ·intro h i j hi hj hij eq
  have hk:=h j hj
  have hj1:j - 1 < l.length:=by omega
  have h1:l[i]<=l[j - 1]:=by
   rcases Nat.lt_or_ge i (j - 1) with q | q
   ·exact hs i (j - 1) hi hj1 q
   ·have:i=j - 1:=by omega
    subst this
    exact List.le_refl _
  have h2:l[j - 1]<=l[j]:=hs (j - 1) j hj1 hj (by omega)
  have h3:l[j - 1]=l[j]:=List.le_antisymm h2 (by rw [←eq];exact h1)
  unfold keeps at hk
  simp [hj,hj1,h3] at hk
  omega
 ·intro h j hj
  unfold keeps
  rcases Nat.eq_zero_or_pos j with q | q
  ·simp [q]
  ·have hj1:j - 1 < l.length:=by omega
   have:=h (j - 1) j hj1 hj (by omega)
   simp [hj,hj1]
   exact .inr fun e=>this e.symm
theorem tM (l:List Str):(fC l).Pairwise (·<= ·):=by
 have tr:∀a b c:Str,decide (a<=b)=true→decide (b<=c)=true→decide (a<=c)=true:=fun a b c h1 h2=>by
  simp only [decide_eq_true_eq] at *;exact List.le_trans h1 h2
 have to:∀a b:Str,(decide (a<=b) || decide (b<=a))=true:=fun a b=>by
  simp only [Bool.or_eq_true,decide_eq_true_eq];exact List.le_total _ _
 exact (List.pairwise_mergeSort tr to l).imp fun h=>by simpa using h
theorem vq {l:List Str}:(fC l).Nodup↔l.Nodup:=(List.mergeSort_perm l _).nodup_iff
theorem kK (l:List Str):(Lib.compact (fC l)).length=l.length↔l.Nodup:=by
 letI:=tc
 rw [←mY l,vp (tM l),vq]
end Go.AL
end
section
namespace Go.Pd
open Go.AL
def bq (c:Int):Bool:=decide (97<=c) && decide (c<=122)
def bw (c:Int):Bool:=decide (65<=c) && decide (c<=90)
def aK (c:Int):Bool:=decide (48<=c) && decide (c<=57)
def bp (c:Int):Bool:=bq c || bw c || aK c || decide (c=95)
def bI (b:UInt8):Int:=(b.toNat:Int)
def di (first:Int→Bool) (s:Str):Bool:=!decide (s=[]) && decide (s.length<=24) && first (bI (s.getD 0 0)) && s.all fun c=>bp (bI c)
def str (s:String):Str:=s.toUTF8.data.toList
def Gg:List Str:=[[109,111,100,117,108,101],[105,109,112,111,114,116],[112,105,110],[114,97,110,103,101],[116,121,112,101],[111,112,97,113,117,101],[108,101,116],[105,110],[101,120,112,111,114,116],[102,117,110],[105,102],[116,104,101,110],[101,108,115,101],[99,97,115,101],[111,102],[97,115],[110,101,119],[114,97,119],[116,114,117,101],[102,97,108,115,101]]
def iQ (s:Str):Bool:=decide (s∈Gg)
def aQ (s:Str):Bool:=di bq s && !iQ s
def dq (s:Str):Bool:=di bw s
mutual
def sz:Shape→Nat
 | ⟨_,_,_,_,ps⟩=>szL ps+1
def szL:List Shape→Nat
 | []=>0
 | p ::r=>sz p+szL r
end
mutual
def allS (f:Shape→Bool):Shape→Bool
 | ⟨k,p,n,ns,ps⟩=>f ⟨k,p,n,ns,ps⟩ && allL f ps
def allL (f:Shape→Bool):List Shape→Bool
 | []=>true
 | p ::r=>allS f p && allL f r
end
mutual
def deepS:Shape→Int→Int
 | ⟨_,_,_,_,ps⟩,l=>deepL ps (l+1) l
def deepL:List Shape→Int→Int→Int
 | [],_,d=>d
 | p ::r,l,d=>deepL r l (max d (deepS p l))
end
def mi (s:Str):Bool:=decide (s=[73,110,116]) || decide (s=[66,111,111,108]) || decide (s=[84,101,120,116]) || decide (s=[65,110,121])
def fD:List Str→Str→Int→Int
 | [],_,_=>-1
 | a ::r,v,i=>if a=v then i else fD r v (i+1)
theorem zR (a:Shape):sz a=szL a.parts+1:=by cases a;rfl
theorem tN:∀{l:List Shape} {a:Shape},a∈l→sz a<=szL l
 | b ::r,a,h=>by
  simp only [szL]
  rcases List.mem_cons.1 h with rfl | h
  ·omega
  ·have:=tN h;omega
theorem si:∀(a:List Str) (v:Str) (i:Int),0<=i→(0<=fD a v i↔v∈a)
 | [],v,i,_=>by simp [fD]
 | x ::r,v,i,h=>by
  simp only [fD,List.mem_cons]
  by_cases e:x=v
  ·simp [e,h]
  ·rw [if_neg e,si r v (i+1) (by omega)]
   constructor
   ·exact Or.inr
   ·rintro (rfl | h)
    ·exact absurd rfl e
    ·exact h
def f5 (s:Shape):Bool:=decide (s.names.length=s.parts.length) && s.names.all aQ && decide s.names.Nodup
def dA (s:Shape):Bool:=
 let bare:=decide (s.pkg=[]) && decide (s.name=[])
 if s.kind=1∨s.kind=2∨s.kind=3∨s.kind=4 then bare && decide (s.names=[]) && decide (s.parts=[])
 else if s.kind=5 then bare && decide (s.names=[]) && decide (s.parts.length=1)
 else if s.kind=6∨s.kind=7 then bare && f5 s
 else if s.kind=8 then bare && decide (s.names=[]) && !decide (s.parts=[])
 else if s.kind=9 then dq s.name && (decide (s.pkg=[]) && !mi s.name || aQ s.pkg) && decide (s.names=[]) && decide (s.parts=[])
 else if s.kind=10 then dq s.name && aQ s.pkg && decide (s.names=[]) && decide (s.parts=[])
 else false
theorem qq (a:Shape):0 < sz a:=by rw [zR];omega
theorem zS:∀(l:List Shape),l.length<=szL l
 | []=>Nat.zero_le _
 | a ::r=>by
  have:=zS r
  have:=qq a
  simp only [szL,List.length_cons]
  omega
theorem tO (f:Shape→Bool) (s:Shape):allS f s=(f s && allL f s.parts):=by cases s;rfl
theorem nR {α:Type} (l:List α) (k:Nat) (d:α) (h:k < l.length):l.take (k+1)=l.take k++[l.getD k d]:=by
 rw [List.take_add_one,List.getD_eq_getElem?_getD,List.getElem?_eq_getElem h]
 rfl
end Go.Pd
end
section
namespace Go.Pd
open Go.AL
def dO (s:Shape):Int:=if 400 < sz s then 3 else if 40 < deepS s 1 then 91 else if allS dA s=true then 0 else 70
def Gh (t:Nat) (c:Int):Ans:=⟨some (0<=c/\c<=400),some (decide (400 < c+1),.iface t (.agg []),[(900,.box (.int .i64 (c+1)))]),.tup [],[(900,.box (.int .i64 (c+1)))]⟩
def tP (t:Nat):Pat:=fun args S=>
 match args,S with
 | [.ptr 900 0],[(900,.box (.int .i64 c))]=>some (Gh t c)
 | _,_=>none
theorem xR [Tabs] {P:Program} {f t:Nat} (he:au P f) (h:∀c,0<=c/\c<=400→ar P f [.ptr 900 0] [(900,.box (.int .i64 c))] (Gh t c)):ad P f (tP t):=by
 intro args S A hA ho _
 unfold tP at hA
 split at hA
 ·simp only [Xs] at hA
  subst hA
  exact ⟨he,h _ (ho _ rfl)⟩
 ·cases hA
def Da (t:Nat) (s:Shape) (l c:Int) (q:Prop):Ans:=
 ⟨some (q/\0<=c/\c<=400/\1<=l/\l<=c+1),some (decide (400 < c+(sz s:Int)),.iface t (.agg []),[(900,.box (.int .i64 401))]),.int .i64 (deepS s l),[(900,.box (.int .i64 (c+(sz s:Int))))]⟩
def pg (t g:Nat) (n:Nat):Pat:=fun args S=>
 match args,S with
 | [a,.int .i64 l,.fn g' [.ptr 900 0]],[(900,.box (.int .i64 c))]=>
  (match Nat.beq g' g,arg (.st .shape) a with
  | true,some s=>some (Da t s l c (sz s<=n))
  | _,_=>none)
 | _,_=>none
theorem qr [Tabs] {P:Program} {f t g n:Nat} (he:au P f) (h:∀s l c,Wf (.st .shape) s→sz s<=n→(0<=c/\c<=400/\1<=l/\l<=c+1)→ar P f [.st .shape s,.int .i64 l,.fn g [.ptr 900 0]] [(900,.box (.int .i64 c))] (Da t s l c (sz s<=n))) :
  ad P f (pg t g n):=by
 intro args S A hA ho _
 unfold pg at hA
 split at hA
 ·split at hA
  ·rename_i s hb hs
   simp only [Xs] at hA
   subst hA
   have e:=Nat.eq_of_beq_eq_true hb
   subst e
   obtain ⟨h1,h2⟩:=ho _ rfl
   exact ⟨he,ar.args (.cons (Rd.arg hs) (.cons (Rd.refl _) (.cons (Rd.refl _) .nil))) (ar.wf fun hw=>h _ _ _ hw.one h1 h2)⟩
  ·cases hA
 ·cases hA
theorem lQ:∀(l:List Shape) (k:Nat) (d:Shape),k < l.length→szL (l.take (k+1))=szL (l.take k)+sz (l.getD k d)
 | a ::r,0,d,_=>by simp [szL]
 | a ::r,k+1,d,h=>by
  have:=lQ r k d (by simpa using h)
  simp only [List.take_succ_cons,szL,List.getD_cons_succ] at this ⊢
  omega
theorem vr (l:List Shape) (k:Nat):szL (l.take k)<=szL l:=by
 induction l generalizing k with
 | nil=>simp [szL]
 | cons a r ih=>
  cases k with
  | zero=>simp [szL]
  | succ k=>have:=ih k;simp only [List.take_succ_cons,szL];omega
end Go.Pd
end
section
namespace Go.Pd
open Go.AL
abbrev PS:=Par
def eL (l:List Tokn) (a:Int):Tokn:=
 if a < (l.length:Int) then l.getD a.toNat (dfl (.st .token))
 else if l.length=0 then ⟨0,[],0⟩ else ⟨0,[],(l.getD ((l.length:Int) - 1).toNat (dfl (.st .token))).pos⟩
def Db (l:List Tokn) (a:Int) (t:Str):Bool:=(decide ((eL l a).kind=6) || decide ((eL l a).kind=5)) && decide ((eL l a).text=t)
def ao (s:PS):Tokn:=eL s.toks s.pos
def b9 (s:PS):Bool:=!decide (s.err=0)
def cy (e a:Int) (s:PS):PS:=if s.err=0 then ⟨s.toks,s.pos,e,a⟩ else s
def aA (s:PS):PS:=⟨s.toks,s.pos+1,s.err,s.fat⟩
def isF (t:Str) (s:PS):Bool:=Db s.toks s.pos t && !b9 s
def cl (t:Str) (s:PS):PS:=if isF t s=true then aA s else s
def aj (t:Str) (s:PS):PS:=if isF t s=true then aA s else cy 90 (ao s).pos s
def b6 (k:Int) (s:PS):Tokn × PS:=
 if (ao s).kind=k/\b9 s=false then (ao s,aA s) else (⟨0,[],0⟩,cy 90 (ao s).pos s)
def bP (ns:List Str) (s:PS):Str × PS:=
 ((b6 1 s).1.text,if b9 (b6 1 s).2=false/\(b6 1 s).1.text∈ns then cy 111 (b6 1 s).1.pos (b6 1 s).2 else (b6 1 s).2)
def bc {σ:Type} (btw en:Str) (one:σ→PS→σ × PS):Nat→σ→PS→σ × PS
 | 0,x,s=>(x,s)
 | n+1,x,s=>if b9 s=true then (x,s) else if isF en (one x s).2=true then ((one x s).1,aA (one x s).2) else bc btw en one n (one x s).1 (aj btw (one x s).2)
def ab {σ:Type} (btw en:Str) (one:σ→PS→σ × PS) (x:σ) (s:PS):σ × PS:=
 if isF en s=true then (x,aA s) else bc btw en one (s.toks.length+2) x s
def mj (pkg name:Str):Shape:=
 if pkg=[]/\name=[73,110,116] then ⟨1,[],[],[],[]⟩
 else if pkg=[]/\name=[66,111,111,108] then ⟨2,[],[],[],[]⟩
 else if pkg=[]/\name=[84,101,120,116] then ⟨3,[],[],[],[]⟩
 else if pkg=[]/\name=[65,110,121] then ⟨4,[],[],[],[]⟩
 else ⟨9,pkg,name,[],[]⟩
def ap (R:PS→Shape × PS) (x:Shape) (s:PS):Shape × PS:=
 let a:=bP x.names s
 let b:=R (aj [58] a.2)
 (⟨x.kind,x.pkg,x.name,x.names++[a.1],x.parts++[b.1]⟩,b.2)
def aw (R:PS→Shape × PS) (x:Shape) (s:PS):Shape × PS:=(⟨x.kind,x.pkg,x.name,x.names,x.parts++[(R s).1]⟩,(R s).2)
def ml (R:PS→Shape × PS) (s:PS):Shape × PS:=
 let t:=ao s
 if t.kind=2/\b9 s=false then (mj [] t.text,aA s)
 else if t.kind=1/\b9 s=false then
  let a:=b6 2 (aj [47] (aA s))
  (mj t.text a.1.text,a.2)
 else if isF [91] s=true then
  let a:=R (aA s)
  (⟨5,[],[],[],[a.1]⟩,aj [93] a.2)
 else if isF [123] s=true then ab [44] [125] (ap R) ⟨6,[],[],[],[]⟩ (aA s)
 else if isF [60] s=true then ab [124] [62] (ap R) ⟨7,[],[],[],[]⟩ (aA s)
 else if isF [40] s=true then
  let a:=ab [44] [41] (aw R) ⟨8,[],[],[],[]⟩ (aA s)
  aw R a.1 (aj [45,62] a.2)
 else (⟨0,[],[],[],[]⟩,cy 90 t.pos s)
def ag:Nat→PS→Shape × PS
 | 0,s=>(⟨0,[],[],[],[]⟩,s)
 | n+1,s=>ml (ag n) s
abbrev big:Nat:=5000
def bW (s:PS):Shape × PS:=
 let a:=ag big s
 (a.1,if b9 a.2=true then a.2 else if dO a.1=0 then a.2 else cy (dO a.1) (ao s).pos a.2)
def cA (t:Trm) (u:Trm):Trm:=⟨t.kind,t.pkg,t.name,t.n,t.names,t.vars,t.shapes,t.parts++[u],t.pos⟩
def co (t:Trm) (u:Shape):Trm:=⟨t.kind,t.pkg,t.name,t.n,t.names,t.vars,t.shapes++[u],t.parts,t.pos⟩
def bu (t:Trm) (u:Str):Trm:=⟨t.kind,t.pkg,t.name,t.n,t.names++[u],t.vars,t.shapes,t.parts,t.pos⟩
def cK (t:Trm) (u:Str):Trm:=⟨t.kind,t.pkg,t.name,t.n,t.names,t.vars++[u],t.shapes,t.parts,t.pos⟩
def aq (R:PS→Trm × PS) (t:Trm) (s:PS):Trm × PS:=(cA t (R s).1,(R s).2)
def eI (ahead:Str) (t:Trm) (s:PS):Trm × PS:=(co t (bW (aj ahead s)).1,(bW (aj ahead s)).2)
def az (t:Trm) (s:PS):Trm × PS:=eI [58] (bu t (bP t.names s).1) (bP t.names s).2
def ai (R:PS→Trm × PS) (t:Trm) (s:PS):Trm × PS:=
 let a:=bP t.names s
 let b:=b6 1 (aj [40] a.2)
 let c:=eI [58] (cK (bu t a.1) b.1.text) b.2
 aq R c.1 (aj [45,62] (aj [41] c.2))
def ah (R:PS→Trm × PS) (t:Trm) (s:PS):Trm × PS:=
 let a:=bP t.names s
 aq R (bu t a.1) (aj [61] a.2)
def cU (R:PS→Trm × PS) (s:PS):List Trm × PS:=
 let a:=R (aj [40] s)
 ([a.1],aj [41] a.2)
def jl (s:Str):Int:=s.foldl (fun n c=>10 *n+((c.toNat:Int) - 48)) 0
def dB (R:PS→Trm × PS) (s:PS):Trm × PS:=
 if b9 s=true then (⟨0,[],[],0,[],[],[],[],(ao s).pos⟩,s)
 else if (ao s).kind=3 then (⟨1,[],[],jl (ao s).text,[],[],[],[],(ao s).pos⟩,aA s)
 else if (ao s).kind=4 then (⟨2,[],(ao s).text,0,[],[],[],[],(ao s).pos⟩,aA s)
 else if (ao s).kind=1 then
  if isF [47] (aA s)=true then
   let a:=b6 1 (aA (aA s))
   (⟨5,(ao s).text,a.1.text,0,[],[],[],[],(ao s).pos⟩,a.2)
  else (⟨5,[],(ao s).text,0,[],[],[],[],(ao s).pos⟩,aA s)
 else if isF [116,114,117,101] s=true then (⟨3,[],[],0,[],[],[],[],(ao s).pos⟩,aA s)
 else if isF [102,97,108,115,101] s=true then (⟨4,[],[],0,[],[],[],[],(ao s).pos⟩,aA s)
 else if isF [40] s=true then
  let u:=R (aA s)
  if isF [97,115] u.2=true then
   let a:=bW (aA u.2)
   (⟨15,[],[],0,[],[],[a.1],[u.1],(ao s).pos⟩,aj [41] a.2)
  else (u.1,aj [41] u.2)
 else if isF [123] s=true then ab [44] [125] (ah R) ⟨8,[],[],0,[],[],[],[],(ao s).pos⟩ (aA s)
 else if isF [64] s=true then
  let a:=b6 1 (aA s)
  let b:=cU R a.2
  (⟨10,[],a.1.text,0,[],[],[],b.1,(ao s).pos⟩,b.2)
 else if isF [110,101,119] s=true then
  let a:=b6 2 (aA s)
  let b:=cU R a.2
  (⟨16,[],a.1.text,0,[],[],[],b.1,(ao s).pos⟩,b.2)
 else if isF [114,97,119] s=true then
  let a:=b6 2 (aA s)
  let b:=cU R a.2
  (⟨17,[],a.1.text,0,[],[],[],b.1,(ao s).pos⟩,b.2)
 else (⟨0,[],[],0,[],[],[],[],(ao s).pos⟩,cy 90 (ao s).pos s)
def fQ (R:PS→Trm × PS) (p:Int):Nat→Trm→PS→Trm × PS
 | 0,t,s=>(t,s)
 | n+1,t,s=>
  if b9 s=true then (t,s)
  else if isF [40] s=true then
   let a:=ab [44] [41] (aq R) ⟨7,[],[],0,[],[],[],[t],p⟩ (aA s)
   fQ R p n a.1 a.2
  else if isF [46] s=true then
   let a:=b6 1 (aA s)
   fQ R p n ⟨9,[],a.1.text,0,[],[],[],[t],p⟩ a.2
  else (t,s)
def fE (R:PS→Trm × PS) (s:PS):Trm × PS:=fQ R (ao s).pos (s.toks.length+2) (dB R s).1 (dB R s).2
def lR (R:PS→Trm × PS) (s:PS):Trm × PS:=
 if isF [102,117,110] s=true then
  let a:=ab [44] [41] (az) ⟨6,[],[],0,[],[],[],[],(ao s).pos⟩ (aj [40] (aA s))
  aq R a.1 (aj [45,62] a.2)
 else if isF [108,101,116] s=true then
  let a:=b6 1 (aA s)
  let b:=aq R ⟨14,[],a.1.text,0,[],[],[],[],(ao s).pos⟩ (aj [61] a.2)
  aq R b.1 (aj [105,110] b.2)
 else if isF [105,102] s=true then
  let a:=aq R ⟨12,[],[],0,[],[],[],[],(ao s).pos⟩ (aA s)
  let b:=aq R a.1 (aj [116,104,101,110] a.2)
  let c:=aq R b.1 (aj [101,108,115,101] b.2)
  eI [97,115] c.1 c.2
 else if isF [99,97,115,101] s=true then
  let a:=aq R ⟨13,[],[],0,[],[],[],[],(ao s).pos⟩ (aA s)
  let b:=ab [124] [125] (ai R) a.1 (aj [123] (aj [111,102] a.2))
  eI [97,115] b.1 b.2
 else if isF [91] s=true then
  let a:=ab [44] [93] (aq R) ⟨11,[],[],0,[],[],[],[],(ao s).pos⟩ (aA s)
  eI [111,102] a.1 a.2
 else fE R s
def a7:Nat→PS→Trm × PS
 | 0,s=>(⟨0,[],[],0,[],[],[],[],0⟩,s)
 | n+1,s=>lR (a7 n) s
end Go.Pd
end
section
namespace Go.Pd
open Go.AL
def kc (t:Str):Prop:=t≠[]/\t.length<=15/\∀c∈t,48<=c.toNat/\c.toNat<=57
def oT (l:List Tokn):Prop:=∀t∈l,t.kind=3→kc t.text
def a8 (s:Par):Prop:=0<=s.pos/\s.pos<=(s.toks.length:Int)/\s.toks.length<=4097/\oT s.toks
def rem (s:Par):Nat:=if s.err=0 then ((s.toks.length:Int) - s.pos).toNat+1 else 0
theorem fF {l:List Tokn} {a:Int} (h:¬(eL l a).kind=0):a < (l.length:Int):=by
 unfold eL at h
 by_cases c:a < (l.length:Int)
 ·exact c
 ·rw [if_neg c] at h
  split at h <;> exact absurd rfl h
theorem dP {t:Str} {s:Par} (h:isF t s=true):s.pos < (s.toks.length:Int)/\s.err=0:=by
 simp only [isF,Db,b9,Bool.and_eq_true,Bool.or_eq_true,decide_eq_true_eq,Bool.not_not] at h
 refine ⟨fF ?_,h.2⟩
 rcases h.1.1 with e | e <;> omega
theorem vt {s:Par} (h:a8 s) (h2:s.pos < (s.toks.length:Int)):a8 (aA s):=by
 obtain ⟨a,b,c⟩:=h
 exact ⟨by simp only [aA];omega,by simp only [aA];omega,c⟩
theorem aF {t:Str} {s:Par} (h:isF t s=true):cl t s=aA s:=by unfold cl;rw [if_pos h]
theorem aL {t:Str} {s:Par} (h:isF t s=false):cl t s=s:=by unfold cl;rw [h];rfl
theorem mZ {s:Par} (h:a8 s) (h2:s.pos < (s.toks.length:Int)) (h3:s.err=0):rem (aA s)+1=rem s:=by
 obtain ⟨a,b,c⟩:=h
 simp only [rem,aA,h3,if_true]
 omega
theorem aR {t:Str} {s:Par} (h:a8 s) (h2:isF t s=true):rem (aA s)+1=rem s:=mZ h (dP h2).1 (dP h2).2
theorem tQ {s:Par} (h:¬s.err=0):rem s=0:=by simp [rem,h]
theorem Dc {s:Par}:rem s=0↔¬s.err=0:=by
 unfold rem
 split <;> simp_all
theorem cb {s:Par}:b9 s=true↔¬s.err=0:=by simp [b9]
theorem dC {s:Par}:b9 s=false↔s.err=0:=by simp [b9]
theorem AW {e a:Int} {s:Par} (h:a8 s):a8 (cy e a s):=by
 unfold cy
 split <;> exact h
theorem iB {e a:Int} {s:Par} (he:¬e=0):rem (cy e a s)=0:=by
 unfold cy
 split
 ·exact tQ he
 ·rename_i h;exact tQ h
structure Goes (s s':Par):Prop where
 good:a8 s'
 toks:s'.toks=s.toks
 le:rem s'<=rem s
 cap:∀q:Int,(eL s.toks q).kind=0→s.pos<=q→s'.pos<=q
theorem Goes.refl {s:Par} (h:a8 s):Goes s s:=⟨h,rfl,Nat.le_refl _,fun _ _ h=>h⟩
theorem Goes.trans {a b c:Par} (h:Goes a b) (k:Goes b c):Goes a c:=⟨k.good,k.toks.trans h.toks,Nat.le_trans k.le h.le,fun q h0 h1=>k.cap q (by rw [h.toks];exact h0) (h.cap q h0 h1)⟩
theorem n5 {s:Par} (h:a8 s) (h2:s.pos < (s.toks.length:Int)) (h3:s.err=0) (hk:¬(eL s.toks s.pos).kind=0):Goes s (aA s):=
 ⟨vt h h2,rfl,by have:=mZ h h2 h3;omega,fun q h0 h1=>by
  have:s.pos≠q:=fun e=>hk (by rw [e];exact h0)
  show s.pos+1<=q
  omega⟩
theorem vu {t:Str} {s:Par} (h:isF t s=true):¬(eL s.toks s.pos).kind=0:=by
 simp only [isF,Db,b9,Bool.and_eq_true,Bool.or_eq_true,decide_eq_true_eq,Bool.not_not] at h
 rcases h.1.1 with e | e <;> omega
theorem cH {t:Str} {s:Par} (h:a8 s) (h2:isF t s=true):Goes s (aA s):=n5 h (dP h2).1 (dP h2).2 (vu h2)
theorem ii {e a:Int} {s:Par} (h:a8 s) (he:¬e=0):Goes s (cy e a s):=⟨AW h,by unfold cy;split <;> rfl,by rw [iB he];exact Nat.zero_le _,fun q _ h=>by unfold cy;split <;> exact h⟩
theorem bF {t:Str} {s:Par} (h:a8 s):Goes s (aj t s):=by
 unfold aj
 split
 ·rename_i c;exact cH h c
 ·exact ii h (by decide)
def jm (s s':Par):Prop:=rem s' < rem s∨rem s'=0
theorem AX {t:Str} {s:Par} (h:a8 s):jm s (aj t s):=by
 unfold aj jm
 split
 ·rename_i c;have:=aR h c;exact .inl (by omega)
 ·exact .inr (iB (by decide))
theorem li {k:Int} {s:Par} (h:a8 s) (hk:¬k=0):Goes s (b6 k s).2/\jm s (b6 k s).2:=by
 unfold b6 jm
 split
 ·rename_i c
  have h3:=dC.1 c.2
  have h2:s.pos < (s.toks.length:Int):=fF (by have:=c.1;unfold ao at this;rw [this];exact hk)
  have:=mZ h h2 h3
  exact ⟨n5 h h2 h3 (by have:=c.1;unfold ao at this;rw [this];exact hk),.inl (by show rem (aA s) < _;omega)⟩
 ·exact ⟨ii h (by decide),.inr (iB (by decide))⟩
theorem jN {ns:List Str} {s:Par} (h:a8 s):Goes s (bP ns s).2/\jm s (bP ns s).2:=by
 obtain ⟨h1,h2⟩:=li (k:=1) h (by decide)
 unfold bP
 simp only
 split
 ·exact ⟨h1.trans (ii h1.good (by decide)),.inr (iB (by decide))⟩
 ·exact ⟨h1,h2⟩
theorem jm.then {a b c:Par} (h:jm a b) (k:Goes b c):jm a c:=by
 rcases h with h | h
 ·exact .inl (Nat.lt_of_le_of_lt k.le h)
 ·exact .inr (Nat.le_zero.1 (by rw [←h];exact k.le))
theorem Goes.then {a b c:Par} (h:Goes a b) (k:jm b c):jm a c:=by
 rcases k with k | k
 ·exact .inl (Nat.lt_of_lt_of_le k h.le)
 ·exact .inr k
def eh {α:Type} (R:Par→α × Par) (n:Nat):Prop:=∀s,a8 s→rem s < n→Goes s (R s).2/\jm s (R s).2
def ek {σ:Type} (one:σ→Par→σ × Par) (n:Nat):Prop:=∀x s,a8 s→s.err=0→rem s<=n→Goes s (one x s).2/\jm s (one x s).2
theorem cP {s:Par} (h:s.err=0):1<=rem s:=by simp [rem,h]
theorem jm.lt {a b:Par} {n:Nat} (h:jm a b) (k:rem a<=n) (h0:a.err=0):rem b < n:=by
 have:=cP h0
 rcases h with h | h <;> omega
theorem fe {σ:Type} {n:Nat} {one:σ→Par→σ × Par} (h:ek one n) {btw en:Str} {x:σ} {s:Par} {k:Nat} (hi:a8 s) (h0:s.err=0) (hn:rem s<=n) (hk:rem s < k+1) :
  a8 (aj btw (one x s).2)/\(aj btw (one x s).2).toks=s.toks/\rem (aj btw (one x s).2)<=n/\rem (aj btw (one x s).2) < k:=by
 obtain ⟨g,e⟩:=h x s hi h0 hn
 have gm:=bF (t:=btw) g.good
 have hp:=cP h0
 refine ⟨gm.good,gm.toks.trans g.toks,Nat.le_trans (g.trans gm).le hn,?_⟩
 rcases e.then gm with q | q <;> omega
theorem nS {σ:Type} {n:Nat} {one:σ→Par→σ × Par} (h:ek one n) (btw en:Str):∀(k:Nat) (x:σ) (s:Par),a8 s→rem s<=n→Goes s (bc btw en one k x s).2
 | 0,x,s,hi,_=>Goes.refl hi
 | k+1,x,s,hi,hn=>by
  simp only [bc]
  by_cases b:b9 s=true
  ·rw [if_pos b];exact Goes.refl hi
  ·rw [if_neg b]
   have h0:s.err=0:=dC.1 (by simpa using b)
   obtain ⟨g,e⟩:=h x s hi h0 hn
   by_cases c:isF en (one x s).2=true
   ·rw [if_pos c];exact g.trans (cH g.good c)
   ·rw [if_neg c]
    have gm:=g.trans (bF (t:=btw) g.good)
    exact gm.trans (nS h btw en k _ _ gm.good (Nat.le_trans gm.le hn))
theorem aW {σ:Type} {n:Nat} {one:σ→Par→σ × Par} (h:ek one n) (btw en:Str) (x:σ) {s:Par} (hi:a8 s) (hn:rem s<=n):Goes s (ab btw en one x s).2:=by
 unfold ab
 by_cases c:isF en s=true
 ·rw [if_pos c];exact cH hi c
 ·rw [if_neg c];exact nS h btw en _ x s hi hn
theorem vv {σ:Type} {one:σ→Par→σ × Par} (m:σ→Nat) (h:∀x s,m (one x s).1<=m x+1) (btw en:Str):∀(k:Nat) (x:σ) (s:Par),m (bc btw en one k x s).1<=m x+k
 | 0,x,s=>Nat.le_refl _
 | k+1,x,s=>by
  simp only [bc]
  have h1:=h x s
  split
  ·show m x<=_;omega
  split
  ·show m (one x s).1<=_;omega
  ·have:=vv m h btw en k (one x s).1 (aj btw (one x s).2)
   omega
theorem dD {σ:Type} {one:σ→Par→σ × Par} (m:σ→Nat) (h:∀x s,m (one x s).1<=m x+1) (btw en:Str) (x:σ) (s:Par):m (ab btw en one x s).1<=m x+(s.toks.length+2):=by
 unfold ab
 split
 ·show m x<=_;omega
 ·exact vv m h btw en _ x s
theorem sj {σ:Type} {one:σ→Par→σ × Par} (p:σ→Prop) (h:∀x s,p x→p (one x s).1) (btw en:Str):∀(k:Nat) (x:σ) (s:Par),p x→p (bc btw en one k x s).1
 | 0,x,s,hx=>hx
 | k+1,x,s,hx=>by
  simp only [bc]
  split
  ·exact hx
  split
  ·exact h x s hx
  ·exact sj p h btw en k _ _ (h x s hx)
theorem cx {σ:Type} {one:σ→Par→σ × Par} (p:σ→Prop) (h:∀x s,p x→p (one x s).1) (btw en:Str) {x:σ} (s:Par) (hx:p x):p (ab btw en one x s).1:=by
 unfold ab
 split
 ·exact hx
 ·exact sj p h btw en _ x s hx
theorem cM {R:Par→Shape × Par} {n:Nat} (hR:eh R n):ek (ap R) n:=by
 intro x s hi h0 hn
 obtain ⟨g1,e1⟩:=jN (ns:=x.names) hi
 have g2:=g1.trans (bF (t:=[58]) g1.good)
 have e2:jm s (aj [58] (bP x.names s).2):=e1.then (bF g1.good)
 obtain ⟨g3,e3⟩:=hR _ g2.good (e2.lt hn h0)
 exact ⟨g2.trans g3,g2.then e3⟩
theorem g9 {R:Par→Shape × Par} {n:Nat} (hR:eh R (n+1)):ek (aw R) n:=by
 intro x s hi h0 hn
 exact hR s hi (by omega)
theorem tR {R:Par→Shape × Par} {n:Nat} (hR:eh R n):eh (ml R) (n+1):=by
 intro s hi hn
 unfold ml
 simp only
 have hadv:∀{t:Str},isF t s=true→Goes s (aA s)/\rem (aA s)+1=rem s/\jm s (aA s):=fun c=>⟨cH hi c,aR hi c,.inl (by have:=aR hi c;omega)⟩
 have tk:∀k:Int,¬k=0→(ao s).kind=k/\b9 s=false→Goes s (aA s)/\rem (aA s)+1=rem s/\jm s (aA s):=fun k hk c=>by
  have h3:=dC.1 c.2
  have h2:s.pos < (s.toks.length:Int):=fF (by have:=c.1;unfold ao at this;rw [this];exact hk)
  have:=mZ hi h2 h3
  exact ⟨n5 hi h2 h3 (by have:=c.1;unfold ao at this;rw [this];exact hk),this,.inl (by omega)⟩
 split
 ·rename_i c;obtain ⟨a,_,b⟩:=tk 2 (by decide) c;exact ⟨a,b⟩
 split
 ·rename_i c
  obtain ⟨a,_,b⟩:=tk 1 (by decide) c
  have g:=bF (t:=[47]) a.good
  obtain ⟨t1,t2⟩:=li (k:=2) g.good (by decide)
  exact ⟨(a.trans g).trans t1,(b.then g).then t1⟩
 split
 ·rename_i c
  obtain ⟨a,d,b⟩:=hadv c
  obtain ⟨r1,r2⟩:=hR _ a.good (by omega)
  have g:=bF (t:=[93]) r1.good
  exact ⟨(a.trans r1).trans g,(b.then r1).then g⟩
 split
 ·rename_i c
  obtain ⟨a,d,b⟩:=hadv c
  have g:=aW (cM hR) [44] [125] ⟨6,[],[],[],[]⟩ a.good (by omega)
  exact ⟨a.trans g,b.then g⟩
 split
 ·rename_i c
  obtain ⟨a,d,b⟩:=hadv c
  have g:=aW (cM hR) [124] [62] ⟨7,[],[],[],[]⟩ a.good (by omega)
  exact ⟨a.trans g,b.then g⟩
 split
 ·rename_i c
  obtain ⟨a,d,b⟩:=hadv c
  have hp:=cP (dP c).2
  obtain ⟨m,rfl⟩:∃m,n=m+1:=⟨n - 1,by omega⟩
  have g:=aW (g9 hR) [44] [41] ⟨8,[],[],[],[]⟩ a.good (by omega)
  have g2:=g.trans (bF (t:=[45,62]) g.good)
  obtain ⟨r1,r2⟩:=hR _ g2.good (by have:=g2.le;omega)
  exact ⟨(a.trans g2).trans r1,(b.then g2).then r1⟩
 ·exact ⟨ii hi (by decide),.inr (iB (by decide))⟩
theorem b7:∀n,eh (ag n) n
 | 0=>fun s _ h=>absurd h (Nat.not_lt_zero _)
 | n+1=>tR (b7 n)
theorem nT {s:Par} (h:a8 s):rem s<=4098:=by
 obtain ⟨a,b,c⟩:=h
 unfold rem
 split <;> omega
theorem kL {s:Par} (hi:a8 s):Goes s (bW s).2/\jm s (bW s).2:=by
 obtain ⟨a,b⟩:=b7 big s hi (by have:=nT hi;unfold big;omega)
 unfold bW
 simp only
 split
 ·exact ⟨a,b⟩
 split
 ·exact ⟨a,b⟩
 ·rename_i h
  exact ⟨a.trans (ii a.good h),.inr (iB h)⟩
end Go.Pd
end
section
namespace Go.AL
open Go.Proofs Go.Shelf Go.RowKit Go.Pd
theorem oF:∀(l:Str) (acc:Nat),(∀c∈l,48<=c.toNat/\c.toNat<=57)→∃m:Nat,Lib.decFrom acc l=some m/\(m:Int)=l.foldl (fun n c=>10 *n+((c.toNat:Int) - 48)) (acc:Int)/\m < (acc+1) *10 ^ l.length
 | [],acc,_=>⟨acc,rfl,rfl,by simp⟩
 | c ::r,acc,h=>by
  obtain ⟨h1,h2⟩:=h c (List.mem_cons_self ..)
  obtain ⟨m,e1,e2,e3⟩:=oF r (acc *10+(c.toNat - 48)) (fun d hd=>h d (List.mem_cons_of_mem _ hd))
  refine ⟨m,?_,?_,?_⟩
  ·simp only [Lib.decFrom,Lib.digitVal,h1,h2,and_self,if_true];exact e1
  ·rw [e2,List.foldl_cons]
   congr 1
   omega
  ·refine Nat.lt_of_lt_of_le e3 ?_
   rw [List.length_cons,Nat.pow_succ,←Nat.mul_assoc,Nat.mul_right_comm]
   exact Nat.mul_le_mul_right _ (by omega)
theorem Dd {t:Str} (h:kc t):Lib.atoi t=some (jl t)/\0<=jl t/\jl t < 1000000000000000:=by
 obtain ⟨h1,h2,h3⟩:=h
 obtain ⟨m,e1,e2,e3⟩:=oF t 0 h3
 have e4:(m:Int)=jl t:=e2
 refine ⟨?_,by omega,?_⟩
 ·cases t with
  | nil=>exact absurd rfl h1
  | cons c r=>
   have hc:=h3 c (List.mem_cons_self ..)
   have n1:(c ==45)=false:=by rw [beq_eq_false_iff_ne];rintro rfl;simp at hc
   have n2:(c ==43)=false:=by rw [beq_eq_false_iff_ne];rintro rfl;simp at hc
   simp only [Lib.atoi,n1,n2,Bool.false_eq_true,if_false,Lib.decNat,List.isEmpty_cons,e1,Option.map_some,e4]
 ·have:m < 10 ^ t.length:=by simpa using e3
  have h10:10 ^ t.length<=10 ^ 15:=Nat.pow_le_pow_right (by decide) h2
  have:m < 1000000000000000:=Nat.lt_of_lt_of_le this h10
  omega
variable [Tabs] {P:Program} {ρ:Ren}
theorem After.below {w w':World} {pub:Nat→Nat→Prop} {e:Nat→Option CObj} (hp:lL w pub) (hd:∀id,e id=none) (hb:Below w.heap.size w w'):After w pub e (ax (putB [] [])) w' pub e where
 os:=hb.os
 tape:=hb.tape
 output:=hb.output
 size:=hb.size
 block b h _:=hb.block b h
 cell b o h _:=ay (hb.block b h) o
 kind b h _:=⟨bA (hb.block b h),fun o=>ba (hb.block b h) o⟩
 ext:=⟨fun _ c h=>⟨c,h,CLe.refl c⟩,fun _ _ h=>h,fun b o h=>by obtain ⟨v,hv⟩:=hp b o h;exact ay (hb.block b (bd hv)) o⟩
 fresh b o h:=.inl h
 ok b o h:=by obtain ⟨v,hv⟩:=hp b o h;exact ⟨v,(ay (hb.block b (bd hv)) o).trans hv⟩
 slots id o h:=by simp [putB,ax] at h
 dom id _:=hd id
 inj i j c d b o h:=by rw [hd i] at h;cases h
theorem xS (L:Lays.n172 P ρ) (t:Str) (h:kc t):ar P (ρ.f 172) [.str t] [] ⟨some (kc t),none,.tup [.int .i64 (jl t),.nilif],[]⟩:=by
 intro w pub e vs hp ht hv hs hd hi
 obtain ⟨v,rfl,h1⟩:=VL.one_inv hv
 obtain ⟨rfl,hl⟩:=h1.str_inv
 obtain ⟨a1,a2,a3⟩:=Dd h
 refine (Any.strconv_Atoi L ⟨t.toArray⟩ (jl t) (by have:=h.2.1;show t.toArray.size<=18;simp;omega) (by simpa using a1) w).mono ?_
 rintro en w' ⟨rfl,ty,rfl⟩
 refine ⟨pub,e,?_⟩
 refine And.intro (fun b pv u h=>by cases h) (And.intro ?_ (After.below hp (fun id=>hd id rfl) (Lib.bytesWorld_below w _ _)))
 have b1:inR .i64 (jl t):=an (by omega) (by omega)
 exact V.of_tup (VL.cons (.int _ _ b1.1 b1.2) (VL.cons .nilif .nil))
def Fj:Pat:=p1 .str fun t=>⟨some (kc t),none,.tup [.int .i64 (jl t),.nilif],[]⟩
theorem xT {f:Nat} (L:Lays.n172 P ρ) (hf:ρ.f 172=f) (he:au P f):ad P f Fj:=by
 subst hf
 exact be he fun t _ ho=>xS L t (ho _ rfl)
end Go.AL
end
