/- Plain facts. The layer: Go code as conditions, and that they are sound. No condition. -/
import Derived.Test.YtgackciebknbeaaGreatDoorT03
import Derived.Deep.DeepWitnessRowRef
import Derived.Lib.AppendIntMem
import Derived.Lib.AtoiErrMem
import Derived.Lib.DecodeN
import Derived.Lib.ItoaNum
import Derived.Lib.LaidIn
import Derived.Lib.LaidU8T
import Derived.LoopIn
import Derived.LoopN
import Derived.LoopNIn
import Derived.OwnWalkIn
import Derived.PinnedBridge
import Derived.ProofKit
import Derived.RangeFuncBox
import Derived.RangeFuncLeaves
import Derived.Recover
import Derived.Shelf.SlIter.Sorted
import Derived.Shelf.Slices.Clone
import Derived.Shelf.Slices.CompactS
import Derived.Shelf.Small.Strs
import Derived.Shelf.Sort.Plain
import Derived.Shelf.Strconv.Atoi
import Derived.Shelf.Strconv.Itoa3
import Derived.Shelf.Strconv.Itoa4
import Derived.Shelf.Strings.Cut
import Derived.Shelf.Strings.OnBuilder
import Derived.Shelf.Strings.Search3
import Derived.Shelf.Strings.SlTrimAscii
import Derived.Shelf.Strings.Split
import Derived.Shelf.Unicode.DecodeAny
import Derived.Shelf.Unicode.ValidAny
import Derived.Shelf.Vars
import Derived.TacticsInMore
import Derived.Test.YtgackciebknbeaaGreatDoorCards
import Derived.Test.YtgackciebknbeaaGreatDoorProg
import Derived.Test.YtgackciebknbeaaGreatDoorTie
import Derived.WalkKit
set_option linter.all false
set_option maxRecDepth 100000
section
namespace Go.Proofs
open Go.Shelf
def Tryz.lays190_ren:Go.Shelf.Ren:=⟨fun | 190=>179 | 125=>206 | 258=>205 | 128=>231 | 129=>208 | 302=>222 | 303=>223 | 304=>224 | 305=>225 | 306=>226 | 307=>227 | 308=>228 | 309=>229 | 310=>230 | 333=>238 | 329=>239 | 330=>240 | 334=>241 | 335=>242 | 336=>243 | 344=>244 | n=>n,fun | 31=>22 | 9=>9 | 3=>3 | 46=>205 | 0=>0 | 51=>232 | 53=>209 | 4=>4 | 183=>243 | 182=>242 | 131=>247 | 5=>5 | 218=>257 | 222=>81 | 228=>264 | 229=>74 | n=>n,fun | n=>n⟩
theorem Tryz.lays190:Go.Proofs.Lays.n190 Tryz.prog Tryz.lays190_ren:={
 mixed:=by kernel_rfl
 f125:=Xt Tryz.func206
 f128:=Xt Tryz.func231
 f129:=Xt Tryz.func208
 f190:=Xt Tryz.func179
 f258:=Xt Tryz.func205
 f302:=Xt Tryz.func222
 f303:=Xt Tryz.func223
 f304:=Xt Tryz.func224
 f305:=Xt Tryz.func225
 f306:=Xt Tryz.func226
 f307:=Xt Tryz.func227
 f308:=Xt Tryz.func228
 f309:=Xt Tryz.func229
 f310:=Xt Tryz.func230
 f329:=Xt Tryz.func239
 f330:=Xt Tryz.func240
 f333:=Xt Tryz.func238
 f334:=Xt Tryz.func241
 f335:=Xt Tryz.func242
 f336:=Xt Tryz.func243
 f344:=Xt Tryz.func244
 t0:=Tryz.underlying0
 a0:=Tryz.isAgg0
 z0:=Tryz.sizeOf0
 v0:=Tryz.zeroValue0
 t3:=Tryz.underlying3
 a3:=Tryz.isAgg3
 z3:=Tryz.sizeOf3
 v3:=Tryz.zeroValue3
 t4:=Tryz.underlying4
 a4:=Tryz.isAgg4
 z4:=Tryz.sizeOf4
 v4:=Tryz.zeroValue4
 t5:=Tryz.underlying5
 a5:=Tryz.isAgg5
 z5:=Tryz.sizeOf5
 v5:=Tryz.zeroValue5
 t9:=Tryz.underlying9
 a9:=Tryz.isAgg9
 z9:=Tryz.sizeOf9
 v9:=Tryz.zeroValue9
 t31:=Tryz.underlying22
 a31:=Tryz.isAgg22
 z31:=Tryz.sizeOf22
 v31:=Tryz.zeroValue22
 t46:=Tryz.underlying205
 a46:=Tryz.isAgg205
 z46:=Tryz.sizeOf205
 v46:=Tryz.zeroValue205
 t51:=Tryz.underlying232
 a51:=Tryz.isAgg232
 z51:=Tryz.sizeOf232
 v51:=Tryz.zeroValue232
 t53:=Tryz.underlying209
 a53:=Tryz.isAgg209
 z53:=Tryz.sizeOf209
 v53:=Tryz.zeroValue209
 t131:=Tryz.underlying247
 a131:=Tryz.isAgg247
 z131:=Tryz.sizeOf247
 v131:=Tryz.zeroValue247
 t182:=Tryz.underlying242
 a182:=Tryz.isAgg242
 z182:=Tryz.sizeOf242
 v182:=Tryz.zeroValue242
 t183:=Tryz.underlying243
 a183:=Tryz.isAgg243
 z183:=Tryz.sizeOf243
 v183:=Tryz.zeroValue243
 t218:=Tryz.underlying257
 a218:=Tryz.isAgg257
 z218:=Tryz.sizeOf257
 v218:=Tryz.zeroValue257
 t222:=Tryz.underlying81
 a222:=Tryz.isAgg81
 z222:=Tryz.sizeOf81
 v222:=Tryz.zeroValue81
 t228:=Tryz.underlying264
 a228:=Tryz.isAgg264
 z228:=Tryz.sizeOf264
 v228:=Tryz.zeroValue264
 t229:=Tryz.underlying74
 a229:=Tryz.isAgg74
 z229:=Tryz.sizeOf74
 v229:=Tryz.zeroValue74}
def Tryz.lays194_ren:Go.Shelf.Ren:=⟨fun | 194=>146 | n=>n,fun | 31=>22 | 9=>9 | 3=>3 | 4=>4 | 0=>0 | n=>n,fun | n=>n⟩
theorem Tryz.lays194:Go.Proofs.Lays.n194 Tryz.prog Tryz.lays194_ren:={
 mixed:=by kernel_rfl
 f194:=Xt Tryz.func146
 t0:=Tryz.underlying0
 a0:=Tryz.isAgg0
 z0:=Tryz.sizeOf0
 v0:=Tryz.zeroValue0
 t3:=Tryz.underlying3
 a3:=Tryz.isAgg3
 z3:=Tryz.sizeOf3
 v3:=Tryz.zeroValue3
 t4:=Tryz.underlying4
 a4:=Tryz.isAgg4
 z4:=Tryz.sizeOf4
 v4:=Tryz.zeroValue4
 t9:=Tryz.underlying9
 a9:=Tryz.isAgg9
 z9:=Tryz.sizeOf9
 v9:=Tryz.zeroValue9
 t31:=Tryz.underlying22
 a31:=Tryz.isAgg22
 z31:=Tryz.sizeOf22
 v31:=Tryz.zeroValue22}
def Tryz.lays172_ren:Go.Shelf.Ren:=⟨fun | 172=>123 | 244=>159 | 245=>160 | 247=>192 | 279=>193 | 280=>194 | 281=>195 | 282=>196 | 287=>218 | 316=>219 | 171=>221 | 205=>220 | 321=>235 | 322=>236 | 243=>237 | 246=>150 | 283=>182 | 284=>183 | 285=>184 | 286=>185 | 129=>208 | 317=>207 | 318=>209 | 319=>210 | 320=>211 | 337=>232 | 338=>233 | n=>n,fun | 9=>9 | 3=>3 | 75=>171 | 76=>172 | 4=>4 | 5=>5 | 167=>216 | 37=>175 | 0=>0 | 85=>217 | 2=>2 | 168=>219 | 53=>209 | 175=>235 | 46=>205 | 210=>239 | 127=>253 | 145=>256 | 143=>254 | 21=>21 | 171=>208 | 173=>212 | 212=>231 | 51=>232 | 20=>20 | 213=>233 | 232=>262 | 233=>263 | 80=>266 | n=>n,fun | 15=>4 | 16=>5 | 17=>2 | 18=>6 | 19=>7 | n=>n⟩
theorem Tryz.lays172:Go.Proofs.Lays.n172 Tryz.prog Tryz.lays172_ren:={
 mixed:=by kernel_rfl
 f129:=Xt Tryz.func208
 f171:=Xt Tryz.func221
 f172:=Xt Tryz.func123
 f205:=Xt Tryz.func220
 f243:=Xt Tryz.func237
 f244:=Xt Tryz.func159
 f245:=Xt Tryz.func160
 f246:=Xt Tryz.func150
 f247:=Xt Tryz.func192
 f279:=Xt Tryz.func193
 f280:=Xt Tryz.func194
 f281:=Xt Tryz.func195
 f282:=Xt Tryz.func196
 f283:=Xt Tryz.func182
 f284:=Xt Tryz.func183
 f285:=Xt Tryz.func184
 f286:=Xt Tryz.func185
 f287:=Xt Tryz.func218
 f316:=Xt Tryz.func219
 f317:=Xt Tryz.func207
 f318:=Xt Tryz.func209
 f319:=Xt Tryz.func210
 f320:=Xt Tryz.func211
 f321:=Xt Tryz.func235
 f322:=Xt Tryz.func236
 f337:=Xt Tryz.func232
 f338:=Xt Tryz.func233
 t0:=Tryz.underlying0
 a0:=Tryz.isAgg0
 z0:=Tryz.sizeOf0
 v0:=Tryz.zeroValue0
 t2:=Tryz.underlying2
 a2:=Tryz.isAgg2
 z2:=Tryz.sizeOf2
 v2:=Tryz.zeroValue2
 t3:=Tryz.underlying3
 a3:=Tryz.isAgg3
 z3:=Tryz.sizeOf3
 v3:=Tryz.zeroValue3
 t4:=Tryz.underlying4
 a4:=Tryz.isAgg4
 z4:=Tryz.sizeOf4
 v4:=Tryz.zeroValue4
 t5:=Tryz.underlying5
 a5:=Tryz.isAgg5
 z5:=Tryz.sizeOf5
 v5:=Tryz.zeroValue5
 t9:=Tryz.underlying9
 a9:=Tryz.isAgg9
 z9:=Tryz.sizeOf9
 v9:=Tryz.zeroValue9
 t20:=Tryz.underlying20
 a20:=Tryz.isAgg20
 z20:=Tryz.sizeOf20
 v20:=Tryz.zeroValue20
 t21:=Tryz.underlying21
 a21:=Tryz.isAgg21
 z21:=Tryz.sizeOf21
 v21:=Tryz.zeroValue21
 t37:=Tryz.underlying175
 a37:=Tryz.isAgg175
 z37:=Tryz.sizeOf175
 v37:=Tryz.zeroValue175
 t46:=Tryz.underlying205
 a46:=Tryz.isAgg205
 z46:=Tryz.sizeOf205
 v46:=Tryz.zeroValue205
 t51:=Tryz.underlying232
 a51:=Tryz.isAgg232
 z51:=Tryz.sizeOf232
 v51:=Tryz.zeroValue232
 t53:=Tryz.underlying209
 a53:=Tryz.isAgg209
 z53:=Tryz.sizeOf209
 v53:=Tryz.zeroValue209
 t75:=Tryz.underlying171
 a75:=Tryz.isAgg171
 z75:=Tryz.sizeOf171
 v75:=Tryz.zeroValue171
 t76:=Tryz.underlying172
 a76:=Tryz.isAgg172
 z76:=Tryz.sizeOf172
 v76:=Tryz.zeroValue172
 t85:=Tryz.underlying217
 a85:=Tryz.isAgg217
 z85:=Tryz.sizeOf217
 v85:=Tryz.zeroValue217
 t127:=Tryz.underlying253
 a127:=Tryz.isAgg253
 z127:=Tryz.sizeOf253
 v127:=Tryz.zeroValue253
 t143:=Tryz.underlying254
 a143:=Tryz.isAgg254
 z143:=Tryz.sizeOf254
 v143:=Tryz.zeroValue254
 t145:=Tryz.underlying256
 a145:=Tryz.isAgg256
 z145:=Tryz.sizeOf256
 v145:=Tryz.zeroValue256
 t167:=Tryz.underlying216
 a167:=Tryz.isAgg216
 z167:=Tryz.sizeOf216
 v167:=Tryz.zeroValue216
 t168:=Tryz.underlying219
 a168:=Tryz.isAgg219
 z168:=Tryz.sizeOf219
 v168:=Tryz.zeroValue219
 t171:=Tryz.underlying208
 a171:=Tryz.isAgg208
 z171:=Tryz.sizeOf208
 v171:=Tryz.zeroValue208
 t173:=Tryz.underlying212
 a173:=Tryz.isAgg212
 z173:=Tryz.sizeOf212
 v173:=Tryz.zeroValue212
 t175:=Tryz.underlying235
 a175:=Tryz.isAgg235
 z175:=Tryz.sizeOf235
 v175:=Tryz.zeroValue235
 t210:=Tryz.underlying239
 a210:=Tryz.isAgg239
 z210:=Tryz.sizeOf239
 v210:=Tryz.zeroValue239
 t212:=Tryz.underlying231
 a212:=Tryz.isAgg231
 z212:=Tryz.sizeOf231
 v212:=Tryz.zeroValue231
 t213:=Tryz.underlying233
 a213:=Tryz.isAgg233
 z213:=Tryz.sizeOf233
 t232:=Tryz.underlying262
 a232:=Tryz.isAgg262
 z232:=Tryz.sizeOf262
 v232:=Tryz.zeroValue262
 t233:=Tryz.underlying263
 a233:=Tryz.isAgg263
 z233:=Tryz.sizeOf263
 v233:=Tryz.zeroValue263
 g15:=by kernel_rfl
 g16:=by kernel_rfl
 g17:=by kernel_rfl
 g18:=by kernel_rfl
 g19:=by kernel_rfl}
def Tryz.sorted200_ren:Go.Shelf.Ren:=⟨fun | 6=>144 | 8=>178 | 9=>179 | 11=>204 | 13=>206 | 12=>205 | 23=>231 | 24=>208 | 14=>222 | 15=>223 | 16=>224 | 17=>225 | 18=>226 | 19=>227 | 20=>228 | 21=>229 | 22=>230 | 25=>238 | 26=>239 | 27=>240 | 28=>241 | 29=>242 | 30=>243 | 31=>244 | n=>n,fun | 26=>9 | 28=>185 | 24=>22 | 0=>0 | 3=>3 | 37=>205 | 48=>232 | 50=>209 | 4=>4 | 40=>243 | 39=>242 | 45=>247 | 5=>5 | 9=>9 | 51=>257 | 55=>81 | 57=>264 | 58=>74 | 33=>120 | n=>n,fun | n=>n⟩
theorem Tryz.sorted200:Go.Proofs.SlLaysZ.n6 Tryz.prog Tryz.sorted200_ren:={
 mixed:=by kernel_rfl
 f6:=⟨Tryz.f144.name,by decide,Xt Tryz.func144⟩
 f8:=⟨Tryz.f178.name,by decide,Xt Tryz.func178⟩
 f11:=⟨Tryz.f204.name,by decide,Xt Tryz.func204⟩
 t0:=Tryz.underlying0
 a0:=Tryz.isAgg0
 z0:=Tryz.sizeOf0
 v0:=Tryz.zeroValue0
 t24:=Tryz.underlying22
 a24:=Tryz.isAgg22
 z24:=Tryz.sizeOf22
 v24:=Tryz.zeroValue22
 t26:=Tryz.underlying9
 a26:=Tryz.isAgg9
 z26:=Tryz.sizeOf9
 v26:=Tryz.zeroValue9
 t28:=Tryz.underlying185
 a28:=Tryz.isAgg185
 z28:=Tryz.sizeOf185
 v28:=Tryz.zeroValue185
 i26:=by kernel_rfl}
end Go.Proofs
end
section
namespace Go.Proofs
open Go.RowKit Go.Shelf Go.AL
variable [Tabs]
attribute [local go_sem] Oper.semAt_some
set_option maxRecDepth 100000 in
set_option maxHeartbeats 2000000 in
theorem Tryz.values1 (F:Fence) (n:Nat) (h7:F.fn 180) (hro:F.round=none) (hn:1<=n) (l Bs Bo b off len cap:Nat) (zs:List Str) (hreach:len<=maxLen) (J:List Str→World→Prop) (hBl:∀pre W,J pre W→W.cell? ⟨Bs,Bo,none⟩=some (.slice (some ⟨b,off,none⟩) len cap)/\∀j,j < len→W.cell? ⟨b,off+j,none⟩=some (encStr (zs[j]?.getD [])))
  (hY:∀pre x W,J pre W→pre.length < len→YieldAt F (n - 1) Tryz.prog l #[encStr x] W fun e W'=>e=.returned (.bool true)/\J (pre++[x]) W')
  (W:World) (h0:J [] W) :
  CallsIn F n Tryz.prog 180 #[.func (.yield l) #[] #[],.pointer (some ⟨Bs,Bo,none⟩)] W fun e W'=>(∃v,e=.returned v)/\∃ys,ys=upto (fun j=>zs[j]?.getD []) len/\J ys W':=by
 obtain ⟨hBs,hc⟩:=hBl _ _ h0
 refine callsIn_of_wp Tryz.func180 rfl h7 ?_ hro
 simp only [Tryz.ntmps180,List.size_toArray,List.length_cons,List.length_nil,Nat.reduceAdd,Nat.reduceSub,Array.replicate_succ,Array.replicate_zero,List.push_toArray,List.append_toArray,List.nil_append,List.cons_append]
 gi_wp2
 gi_loopw [7] (fun i wr=>∃k:Nat,k<=len/\i=.int .i64 k/\J (upto (fun j=>zs[j]?.getD []) k) wr)
  (fun i _=>len - (intOf i).toNat)
 case atStart=>exact ⟨0,Nat.zero_le _,rfl,h0⟩
 case round=>
  obtain ⟨k,hk,rfl,hJs⟩:=hrel
  have hcx:k < len→wr.cell? ⟨b,off+k,none⟩=some (encStr (zs[k]?.getD [])):=fun h=>(hBl _ _ hJs).2 k h
  by_cases hlt:k < len
  ·obtain ⟨fn,tmps,assign,body,hy,hR⟩:=hY _ (zs[k]?.getD []) wr hJs (by rw [uU];exact hlt)
   have hcx':=hcx hlt
   have hsmall:(k:Int)+1<=9223372036854775807:=by unfold maxLen at hreach;omega
   gi_wp2
   refine hR.mono ?_
   rintro e W3 ⟨rfl,hJ3⟩
   gi_wp2
   go_roundw
   case rel=>exact ⟨k+1,by omega,by simp,by rw [AI];exact hJ3⟩
   case measure=>simp [intOf];omega
  ·obtain rfl:k=len:=by omega
   gi_wp2
   go_end0
   exact ⟨⟨_,rfl⟩,_,rfl,hJs⟩
set_option maxRecDepth 100000 in
set_option maxHeartbeats 1000000 in
theorem Tryz.values1_nil (F:Fence) (n:Nat) (h7:F.fn 180) (hro:F.round=none) (l Bs Bo cap:Nat) (a:Option Addr) (J:List Str→World→Prop) (W:World) (hBs:W.cell? ⟨Bs,Bo,none⟩=some (.slice a 0 cap)) (h0:J [] W) :
  CallsIn F n Tryz.prog 180 #[.func (.yield l) #[] #[],.pointer (some ⟨Bs,Bo,none⟩)] W fun e W'=>(∃v,e=.returned v)/\J [] W':=by
 refine callsIn_of_wp Tryz.func180 rfl h7 ?_ hro
 simp only [Tryz.ntmps180,List.size_toArray,List.length_cons,List.length_nil,Nat.reduceAdd,Nat.reduceSub,Array.replicate_succ,Array.replicate_zero,List.push_toArray,List.append_toArray,List.nil_append,List.cons_append]
 gi_wp2
 gi_loopw [7] (fun i wr=>i=.int .i64 0/\J [] wr) (fun _ _=>0)
 case atStart=>exact ⟨rfl,h0⟩
 case round=>
  obtain ⟨rfl,hJs⟩:=hrel
  gi_wp2
  go_end0
  exact ⟨⟨_,rfl⟩,hJs⟩
theorem Tryz.valuesL:tp Tryz.prog 180:=by
 intro w b o sv zs hz hc hs l J W a1 a2 a3 a4 a5
 have hb:=b5 hc
 rcases hs with ⟨⟨a,cap,rfl⟩,rfl⟩ | ⟨g,off,cap,rfl,hg,hcs⟩
 ·refine (Tryz.values1_nil Fence.wide 2 trivial rfl l b o cap a J W ((a1.cell (p:=⟨b,o,none⟩) hb).trans hc) a5).mono ?_
  rintro e W' ⟨h1,h2⟩
  exact ⟨h1,[],rfl,h2⟩
 ·refine (Tryz.values1 Fence.wide 2 trivial rfl (by omega) l b o g off zs.length cap zs hz J (fun pre W1 hJ=>⟨((a3 _ _ hJ).cell (p:=⟨b,o,none⟩) hb).trans hc,fun j hj=>((a3 _ _ hJ).cell (p:=⟨g,off+j,none⟩) hg).trans (hcs j hj)⟩)
   (fun pre x W1 h1 h2=>(a4 pre x W1 h1 h2).mono fun e W' h=>⟨h.1,h.2.1⟩) W a5).mono ?_
  rintro e W' ⟨h1,ys,h2,h3⟩
  exact ⟨h1,ys,by rw [h2,CM],h3⟩
end Go.Proofs
end
noncomputable section
namespace Go.AL
open Go.Lib
theorem uX {l:List Str} (hs:l.Pairwise (·<= ·)):(Lib.compact l).length=l.length↔l.Nodup:=by
 unfold Lib.compact Lib.compactUpTo
 rw [List.length_map]
 have e:((List.range l.length).filter (keeps l.toArray)).length=l.length↔∀j,j < l.length→keeps l.toArray j=true:=by
  have h:=List.length_filter_eq_length_iff (p:=keeps l.toArray) (l:=List.range l.length)
  rw [List.length_range] at h
  rw [h]
  simp
 rw [e,List.nodup_iff_pairwise_ne,List.pairwise_iff_getElem]
 rw [List.pairwise_iff_getElem] at hs
 constructor
 ·intro h i j hi hj hij eq
  have hk:=h j hj
  have hj1:j - 1 < l.length:=by omega
  have h1:l[i]<=l[j - 1]:=by
   rcases Nat.lt_or_ge i (j - 1) with q | q
   ·exact hs i (j - 1) hi hj1 q
   ·have:i=j - 1:=by omega
    subst this
    exact List.le_refl _
  have h2:l[j - 1]<=l[j]:=hs (j - 1) j hj1 hj (by omega)
  have h3:l[j - 1]=l[j]:=List.le_antisymm h2 (by rw [←eq];exact h1)
  unfold keeps at hk
  simp [hj,hj1,h3] at hk
  omega
 ·intro h j hj
  unfold keeps
  rcases Nat.eq_zero_or_pos j with q | q
  ·simp [q]
  ·have hj1:j - 1 < l.length:=by omega
   have:=h (j - 1) j hj1 hj (by omega)
   simp [hj,hj1]
   exact .inr fun e=>this e.symm
theorem tt (l:List Str):(eC l).Pairwise (·<= ·):=by
 have tr:∀a b c:Str,decide (a<=b)=true→decide (b<=c)=true→decide (a<=c)=true:=fun a b c h1 h2=>by
  simp only [decide_eq_true_eq] at *;exact List.le_trans h1 h2
 have tot:∀a b:Str,(decide (a<=b) || decide (b<=a))=true:=fun a b=>by
  simp only [Bool.or_eq_true,decide_eq_true_eq];exact List.le_total _ _
 exact (List.pairwise_mergeSort tr tot l).imp fun h=>by simpa using h
theorem uY {l:List Str}:(eC l).Nodup↔l.Nodup:=(List.mergeSort_perm l _).nodup_iff
theorem gE (l:List Str):(Lib.compact (eC l)).length=l.length↔l.Nodup:=by
 letI:=sO
 rw [←mj l,uX (tt l),uY]
end Go.AL
end
section
namespace Go.Pd
open Go.AL
def bS (c:Int):Bool:=decide (97<=c) && decide (c<=122)
def bY (c:Int):Bool:=decide (65<=c) && decide (c<=90)
def eQ (c:Int):Bool:=decide (48<=c) && decide (c<=57)
def dy (c:Int):Bool:=bS c || bY c || eQ c || decide (c=95)
def bI (b:UInt8):Int:=(b.toNat:Int)
def bZ (first:Int→Bool) (s:Str):Bool:=!decide (s=[]) && decide (s.length<=24) && first (bI (s.getD 0 0)) && s.all fun c=>dy (bI c)
def str (s:String):Str:=s.toUTF8.data.toList
def FX:List Str:=[[109,111,100,117,108,101],[105,109,112,111,114,116],[112,105,110],[114,97,110,103,101],[116,121,112,101],[111,112,97,113,117,101],[108,101,116],[105,110],[101,120,112,111,114,116],[102,117,110],[105,102],[116,104,101,110],[101,108,115,101],[99,97,115,101],[111,102],[97,115],[110,101,119],[114,97,119],[116,114,117,101],[102,97,108,115,101]]
def cY (s:Str):Bool:=decide (s∈FX)
def al (s:Str):Bool:=bZ bS s && !cY s
def aD (s:Str):Bool:=bZ bY s
mutual
def sz:Shape→Nat
 | ⟨_,_,_,_,ps⟩=>szL ps+1
def szL:List Shape→Nat
 | []=>0
 | p ::r=>sz p+szL r
end
mutual
def eqS:Shape→Shape→Bool
 | ⟨k,p,n,ns,ps⟩,⟨k',p',n',ns',ps'⟩=>decide (k=k') && decide (p=p') && decide (n=n') && decide (ns=ns') && eqL ps ps'
def eqL:List Shape→List Shape→Bool
 | [],[]=>true
 | a ::r,b ::s=>eqS a b && eqL r s
 | _,_=>false
end
mutual
def allS (f:Shape→Bool):Shape→Bool
 | ⟨k,p,n,ns,ps⟩=>f ⟨k,p,n,ns,ps⟩ && allL f ps
def allL (f:Shape→Bool):List Shape→Bool
 | []=>true
 | p ::r=>allS f p && allL f r
end
mutual
def deepS:Shape→Int→Int
 | ⟨_,_,_,_,ps⟩,l=>deepL ps (l+1) l
def deepL:List Shape→Int→Int→Int
 | [],_,d=>d
 | p ::r,l,d=>deepL r l (max d (deepS p l))
end
def gF (s:Str):Bool:=decide (s=[73,110,116]) || decide (s=[66,111,111,108]) || decide (s=[84,101,120,116]) || decide (s=[65,110,121])
def bh:List Str→Str→Int→Int
 | [],_,_=>-1
 | a ::r,v,i=>if a=v then i else bh r v (i+1)
theorem nM (a:Shape):sz a=szL a.parts+1:=by cases a;rfl
theorem kc:∀{l:List Shape} {a:Shape},a∈l→sz a<=szL l
 | b ::r,a,h=>by
  simp only [szL]
  rcases List.mem_cons.1 h with rfl | h
  ·omega
  ·have:=kc h;omega
def cW (s:Shape):Bool:=decide (s.names.length=s.parts.length) && s.names.all al && decide s.names.Nodup
def ak (s:Shape):Bool:=
 let bare:=decide (s.pkg=[]) && decide (s.name=[])
 if s.kind=1∨s.kind=2∨s.kind=3∨s.kind=4 then bare && decide (s.names=[]) && decide (s.parts=[])
 else if s.kind=5 then bare && decide (s.names=[]) && decide (s.parts.length=1)
 else if s.kind=6∨s.kind=7 then bare && cW s
 else if s.kind=8 then bare && decide (s.names=[]) && !decide (s.parts=[])
 else if s.kind=9 then aD s.name && (decide (s.pkg=[]) && !gF s.name || al s.pkg) && decide (s.names=[]) && decide (s.parts=[])
 else if s.kind=10 then aD s.name && al s.pkg && decide (s.names=[]) && decide (s.parts=[])
 else false
theorem ib (a:Shape):0 < sz a:=by rw [nM];omega
theorem zH:∀(l:List Shape),l.length<=szL l
 | []=>Nat.zero_le _
 | a ::r=>by
  have:=zH r
  have:=ib a
  simp only [szL,List.length_cons]
  omega
theorem kK (f:Shape→Bool) (s:Shape):allS f s=(f s && allL f s.parts):=by cases s;rfl
theorem gn {α:Type} (l:List α) (k:Nat) (d:α) (h:k < l.length):l.take (k+1)=l.take k++[l.getD k d]:=by
 rw [List.take_add_one,List.getD_eq_getElem?_getD,List.getElem?_eq_getElem h]
 rfl
end Go.Pd
end
section
namespace Go.Pd
open Go.AL
def cb (s:Shape):Int:=if 400 < sz s then 3 else if 40 < deepS s 1 then 91 else if allS ak s=true then 0 else 70
def FY (t:Nat) (c:Int):Ans:=⟨some (0<=c/\c<=400),some (decide (400 < c+1),.iface t (.agg []),[(900,.box (.int .i64 (c+1)))]),.tup [],[(900,.box (.int .i64 (c+1)))]⟩
def tu (t:Nat):Pat:=fun args S=>
 match args,S with
 | [.ptr 900 0],[(900,.box (.int .i64 c))]=>some (FY t c)
 | _,_=>none
theorem xB [Tabs] {P:Program} {f t:Nat} (he:ax P f) (h:∀c,0<=c/\c<=400→aw P f [.ptr 900 0] [(900,.box (.int .i64 c))] (FY t c)):aj P f (tu t):=by
 intro args S A hA ho _
 unfold tu at hA
 split at hA
 ·simp only [Xs] at hA
  subst hA
  exact ⟨he,h _ (ho _ rfl)⟩
 ·cases hA
def CN (t:Nat) (s:Shape) (l c:Int) (q:Prop):Ans:=
 ⟨some (q/\0<=c/\c<=400/\1<=l/\l<=c+1),some (decide (400 < c+(sz s:Int)),.iface t (.agg []),[(900,.box (.int .i64 401))]),.int .i64 (deepS s l),[(900,.box (.int .i64 (c+(sz s:Int))))]⟩
def oy (t g:Nat) (n:Nat):Pat:=fun args S=>
 match args,S with
 | [a,.int .i64 l,.fn g' [.ptr 900 0]],[(900,.box (.int .i64 c))]=>
  (match Nat.beq g' g,arg (.st .shape) a with
  | true,some s=>some (CN t s l c (sz s<=n))
  | _,_=>none)
 | _,_=>none
theorem pP [Tabs] {P:Program} {f t g n:Nat} (he:ax P f) (h:∀s l c,Wf (.st .shape) s→sz s<=n→(0<=c/\c<=400/\1<=l/\l<=c+1)→aw P f [.st .shape s,.int .i64 l,.fn g [.ptr 900 0]] [(900,.box (.int .i64 c))] (CN t s l c (sz s<=n))) :
  aj P f (oy t g n):=by
 intro args S A hA ho _
 unfold oy at hA
 split at hA
 ·split at hA
  ·rename_i s hb hs
   simp only [Xs] at hA
   subst hA
   have e:=Nat.eq_of_beq_eq_true hb
   subst e
   obtain ⟨h1,h2⟩:=ho _ rfl
   exact ⟨he,aw.args (.cons (Rd.arg hs) (.cons (Rd.refl _) (.cons (Rd.refl _) .nil))) (aw.wf fun hw=>h _ _ _ hw.one h1 h2)⟩
  ·cases hA
 ·cases hA
theorem lj:∀(l:List Shape) (k:Nat) (d:Shape),k < l.length→szL (l.take (k+1))=szL (l.take k)+sz (l.getD k d)
 | a ::r,0,d,_=>by simp [szL]
 | a ::r,k+1,d,h=>by
  have:=lj r k d (by simpa using h)
  simp only [List.take_succ_cons,szL,List.getD_cons_succ] at this ⊢
  omega
theorem uZ (l:List Shape) (k:Nat):szL (l.take k)<=szL l:=by
 induction l generalizing k with
 | nil=>simp [szL]
 | cons a r ih=>
  cases k with
  | zero=>simp [szL]
  | succ k=>have:=ih k;simp only [List.take_succ_cons,szL];omega
end Go.Pd
end
section
namespace Go.Pd
open Go.AL
abbrev PS:=Par
def lk (s:Str):Int:=s.foldl (fun n c=>10 *n+((c.toNat:Int) - 48)) 0
end Go.Pd
end
section
namespace Go.Pd
open Go.AL
def rR (t:Str):Prop:=t≠[]/\t.length<=15/\∀c∈t,48<=c.toNat/\c.toNat<=57
end Go.Pd
end
section
namespace Go.AL
open Go.Proofs Go.Shelf Go.RowKit Go.Pd
theorem nN:∀(l:Str) (acc:Nat),(∀c∈l,48<=c.toNat/\c.toNat<=57)→∃m:Nat,Lib.decFrom acc l=some m/\(m:Int)=l.foldl (fun n c=>10 *n+((c.toNat:Int) - 48)) (acc:Int)/\m < (acc+1) *10 ^ l.length
 | [],acc,_=>⟨acc,rfl,rfl,by simp⟩
 | c ::r,acc,h=>by
  obtain ⟨h1,h2⟩:=h c (List.mem_cons_self ..)
  obtain ⟨m,e1,e2,e3⟩:=nN r (acc *10+(c.toNat - 48)) (fun d hd=>h d (List.mem_cons_of_mem _ hd))
  refine ⟨m,?_,?_,?_⟩
  ·simp only [Lib.decFrom,Lib.digitVal,h1,h2,and_self,if_true];exact e1
  ·rw [e2,List.foldl_cons]
   congr 1
   omega
  ·refine Nat.lt_of_lt_of_le e3 ?_
   rw [List.length_cons,Nat.pow_succ,←Nat.mul_assoc,Nat.mul_right_comm]
   exact Nat.mul_le_mul_right _ (by omega)
theorem CO {t:Str} (h:rR t):Lib.atoi t=some (lk t)/\0<=lk t/\lk t < 1000000000000000:=by
 obtain ⟨h1,h2,h3⟩:=h
 obtain ⟨m,e1,e2,e3⟩:=nN t 0 h3
 have e4:(m:Int)=lk t:=e2
 refine ⟨?_,by omega,?_⟩
 ·cases t with
  | nil=>exact absurd rfl h1
  | cons c r=>
   have hc:=h3 c (List.mem_cons_self ..)
   have n1:(c ==45)=false:=by rw [beq_eq_false_iff_ne];rintro rfl;simp at hc
   have n2:(c ==43)=false:=by rw [beq_eq_false_iff_ne];rintro rfl;simp at hc
   simp only [Lib.atoi,n1,n2,Bool.false_eq_true,if_false,Lib.decNat,List.isEmpty_cons,e1,Option.map_some,e4]
 ·have:m < 10 ^ t.length:=by simpa using e3
  have h10:10 ^ t.length<=10 ^ 15:=Nat.pow_le_pow_right (by decide) h2
  have:m < 1000000000000000:=Nat.lt_of_lt_of_le this h10
  omega
variable [Tabs] {P:Program} {ρ:Ren}
theorem After.below {w w':World} {pub:Nat→Nat→Prop} {e:Nat→Option CObj} (hp:jM w pub) (hd:∀id,e id=none) (hb:Below w.heap.size w w'):After w pub e (aq (cm [] [])) w' pub e where
 os:=hb.os
 tape:=hb.tape
 output:=hb.output
 size:=hb.size
 block b h _:=hb.block b h
 cell b o h _:=ar (hb.block b h) o
 kind b h _:=⟨bp (hb.block b h),fun o=>aW (hb.block b h) o⟩
 ext:=⟨fun _ c h=>⟨c,h,CLe.refl c⟩,fun _ _ h=>h,fun b o h=>by obtain ⟨v,hv⟩:=hp b o h;exact ar (hb.block b (b5 hv)) o⟩
 fresh b o h:=.inl h
 ok b o h:=by obtain ⟨v,hv⟩:=hp b o h;exact ⟨v,(ar (hb.block b (b5 hv)) o).trans hv⟩
 slots id o h:=by simp [cm,aP,aJ] at h
 dom id _:=hd id
 inj i j c d b o h:=by rw [hd i] at h;cases h
theorem xC (L:Lays.n172 P ρ) (t:Str) (h:rR t):aw P (ρ.f 172) [.str t] [] ⟨some (rR t),none,.tup [.int .i64 (lk t),.nilif],[]⟩:=by
 intro w pub e vs hp ht hv hs hd hi
 obtain ⟨v,rfl,h1⟩:=VL.one_inv hv
 obtain ⟨rfl,hl⟩:=h1.str_inv
 obtain ⟨a1,a2,a3⟩:=CO h
 refine (Any.strconv_Atoi L ⟨t.toArray⟩ (lk t) (by have:=h.2.1;show t.toArray.size<=18;simp;omega) (by simpa using a1) w).mono ?_
 rintro en w' ⟨rfl,ty,rfl⟩
 refine ⟨pub,e,?_⟩
 refine And.intro (fun b pv u h=>by cases h) (And.intro ?_ (After.below hp (fun id=>hd id rfl) (Lib.bytesWorld_below w _ _)))
 have b1:inR .i64 (lk t):=bc (by omega) (by omega)
 exact V.of_tup (VL.cons (.int _ _ b1.1 b1.2) (VL.cons .nilif .nil))
def EZ:Pat:=p1 .str fun t=>⟨some (rR t),none,.tup [.int .i64 (lk t),.nilif],[]⟩
theorem xD {f:Nat} (L:Lays.n172 P ρ) (hf:ρ.f 172=f) (he:ax P f):aj P f EZ:=by
 subst hf
 exact ba he fun t _ ho=>xC L t (ho _ rfl)
end Go.AL
end
section
namespace Go.AL.Seat
open Go Go.AL Go.Proofs Go.Shelf Go.Pd
variable [Tabs]
theorem H6:SortL Tryz.prog Tryz.sorted200_ren:=
 ⟨Tryz.sorted200,⟨fun blk off cap ss W hH hblk hsz=>callsIn_wide.2 (Any.slices_Sort_string Tryz.lays190 blk off cap ss W hH hblk hsz),fun p cap W=>callsIn_wide.2 (Any.slices_Sort_string_none Tryz.lays190 p cap W)⟩,enters_of Tryz.func179 (by kernel_rfl) rfl⟩
theorem lG:aj Tryz.prog 144 (lE 180):=
 qX H6 rfl (enters_of Tryz.func180 (by kernel_rfl) rfl) Tryz.valuesL (ax.mk' Tryz.func144 (by kernel_rfl))
theorem kd:aj Tryz.prog 146 lF:=qY Tryz.lays194 rfl (ax.mk' Tryz.func146 (by kernel_rfl))
theorem CP:aj Tryz.prog 123 (p1 .str fun t=>⟨some (rR t),none,.tup [.int .i64 (lk t),.nilif],[]⟩):=xD Tryz.lays172 rfl (ax.mk' Tryz.func123 (by kernel_rfl))
end Go.AL.Seat
end
section
namespace Go.Proofs
open Go.Shelf
def Tryz.lays173_ren:Go.Shelf.Ren:=⟨fun | 173=>107 | 246=>150 | 283=>182 | 284=>183 | 285=>184 | 286=>185 | 129=>208 | 317=>207 | 318=>209 | 319=>210 | 320=>211 | 337=>232 | 338=>233 | n=>n,fun | 2=>2 | 3=>3 | 9=>9 | 4=>4 | 171=>208 | 0=>0 | 53=>209 | 37=>175 | 5=>5 | 173=>212 | 212=>231 | 51=>232 | 20=>20 | 213=>233 | 46=>205 | 232=>262 | 233=>263 | n=>n,fun | 17=>2 | 18=>6 | 19=>7 | n=>n⟩
theorem Tryz.lays173:Go.Proofs.LaysM.n173 Tryz.prog Tryz.lays173_ren:={
 mixed:=by kernel_rfl
 f129:=Xt Tryz.func208
 f173:=Xt Tryz.func107
 f246:=Xt Tryz.func150
 f283:=Xt Tryz.func182
 f284:=Xt Tryz.func183
 f285:=Xt Tryz.func184
 f286:=Xt Tryz.func185
 f317:=Xt Tryz.func207
 f318:=Xt Tryz.func209
 f319:=Xt Tryz.func210
 f320:=Xt Tryz.func211
 f337:=Xt Tryz.func232
 f338:=Xt Tryz.func233
 t0:=Tryz.underlying0
 a0:=Tryz.isAgg0
 z0:=Tryz.sizeOf0
 v0:=Tryz.zeroValue0
 t2:=Tryz.underlying2
 a2:=Tryz.isAgg2
 z2:=Tryz.sizeOf2
 v2:=Tryz.zeroValue2
 t3:=Tryz.underlying3
 a3:=Tryz.isAgg3
 z3:=Tryz.sizeOf3
 v3:=Tryz.zeroValue3
 t4:=Tryz.underlying4
 a4:=Tryz.isAgg4
 z4:=Tryz.sizeOf4
 v4:=Tryz.zeroValue4
 t5:=Tryz.underlying5
 a5:=Tryz.isAgg5
 z5:=Tryz.sizeOf5
 v5:=Tryz.zeroValue5
 t9:=Tryz.underlying9
 a9:=Tryz.isAgg9
 z9:=Tryz.sizeOf9
 v9:=Tryz.zeroValue9
 t20:=Tryz.underlying20
 a20:=Tryz.isAgg20
 z20:=Tryz.sizeOf20
 v20:=Tryz.zeroValue20
 t37:=Tryz.underlying175
 a37:=Tryz.isAgg175
 z37:=Tryz.sizeOf175
 v37:=Tryz.zeroValue175
 t46:=Tryz.underlying205
 a46:=Tryz.isAgg205
 z46:=Tryz.sizeOf205
 v46:=Tryz.zeroValue205
 t51:=Tryz.underlying232
 a51:=Tryz.isAgg232
 z51:=Tryz.sizeOf232
 v51:=Tryz.zeroValue232
 t53:=Tryz.underlying209
 a53:=Tryz.isAgg209
 z53:=Tryz.sizeOf209
 v53:=Tryz.zeroValue209
 t171:=Tryz.underlying208
 a171:=Tryz.isAgg208
 z171:=Tryz.sizeOf208
 v171:=Tryz.zeroValue208
 t173:=Tryz.underlying212
 a173:=Tryz.isAgg212
 z173:=Tryz.sizeOf212
 v173:=Tryz.zeroValue212
 t212:=Tryz.underlying231
 a212:=Tryz.isAgg231
 z212:=Tryz.sizeOf231
 v212:=Tryz.zeroValue231
 t213:=Tryz.underlying233
 a213:=Tryz.isAgg233
 z213:=Tryz.sizeOf233
 t232:=Tryz.underlying262
 a232:=Tryz.isAgg262
 z232:=Tryz.sizeOf262
 v232:=Tryz.zeroValue262
 t233:=Tryz.underlying263
 a233:=Tryz.isAgg263
 z233:=Tryz.sizeOf263
 v233:=Tryz.zeroValue263
 g17:=by kernel_rfl
 g18:=by kernel_rfl
 g19:=by kernel_rfl
 i0:=by kernel_rfl
 i2:=by kernel_rfl
 i3:=by kernel_rfl
 i4:=by kernel_rfl
 i5:=by kernel_rfl
 i9:=by kernel_rfl
 i20:=by kernel_rfl
 i37:=by kernel_rfl
 i46:=by kernel_rfl
 i51:=by kernel_rfl
 i53:=by kernel_rfl
 i171:=by kernel_rfl
 i173:=by kernel_rfl
 i212:=by kernel_rfl
 i232:=by kernel_rfl
 i233:=by kernel_rfl
 m17:=by kernel_rfl
 m18:=by kernel_rfl
 m19:=by kernel_rfl}
end Go.Proofs
end
section
namespace Go.Pd
open Go.AL
mutual
def szT:Trm→Nat
 | ⟨_,_,_,_,_,_,_,ps,_⟩=>szTL ps+1
def szTL:List Trm→Nat
 | []=>0
 | p ::r=>szT p+szTL r
end
mutual
def countT:Trm→Int→Int × Int
 | ⟨_,_,_,_,_,_,_,ps,_⟩,m=>((countL ps m 1 0).1,(countL ps m 1 0).2+1)
def countL:List Trm→Int→Int→Int→Int × Int
 | [],_,n,d=>(n,d)
 | p ::r,m,n,d=>if m < n then (n,d) else countL r m (n+(countT p (m - n)).1) (max d (countT p (m - n)).2)
end
theorem AJ (t:Trm) (m:Int):countT t m=((countL t.parts m 1 0).1,(countL t.parts m 1 0).2+1):=by cases t;rw [countT]
theorem gG (t:Trm):szT t=szTL t.parts+1:=by cases t;rw [szT]
theorem fA (t:Trm):1<=szT t:=by rw [gG];omega
mutual
theorem countT_bound:∀(t:Trm) (m:Int),0<=m→1<=(countT t m).1/\(countT t m).1<=m+1/\1<=(countT t m).2/\(countT t m).2<=(countT t m).1
 | ⟨k,g,q,z,ns,vs,ss,ps,pp⟩,m,hm=>by
  have h:=countL_bound ps m 1 0 (by omega) (by omega) (by omega) (by omega)
  rw [countT]
  exact ⟨h.1,h.2.1,by show 1<=(countL ps m 1 0).2+1;omega,by show (countL ps m 1 0).2+1<=_;omega⟩
theorem countL_bound:∀(l:List Trm) (m n d:Int),1<=n→n<=m+1→0<=d→d+1<=n→1<=(countL l m n d).1/\(countL l m n d).1<=m+1/\0<=(countL l m n d).2/\(countL l m n d).2+1<=(countL l m n d).1
 | [],m,n,d,h1,h2,h3,h4=>by rw [countL];exact ⟨h1,h2,h3,h4⟩
 | p ::r,m,n,d,h1,h2,h3,h4=>by
  rw [countL]
  split
  ·exact ⟨h1,h2,h3,h4⟩
  ·have h:=countT_bound p (m - n) (by omega)
   exact countL_bound r m _ _ (by omega) (by omega) (by omega) (by omega)
end
theorem fV:∀{l:List Trm} {t:Trm},t∈l→szT t<=szTL l
 | p ::r,t,h=>by
  rw [szTL]
  rcases List.mem_cons.1 h with e | e
  ·subst e;omega
  ·have:=fV e;omega
def b8 {α:Type} (F:α→Bool):List α→Nat→Int
 | [],_=>-1
 | x ::r,k=>if F x=true then b8 F r (k+1) else (k:Int)
theorem gH {α:Type} (F:α→Bool):∀(l:List α) (k:Nat),decide (0<=b8 F l k)=!l.all F
 | [],_=>rfl
 | x ::r,k=>by
  rw [b8,List.all_cons]
  by_cases h:F x=true
  ·rw [if_pos h,gH F r (k+1),h];rfl
  ·rw [if_neg h]
   have:F x=false:=by simpa using h
   rw [this]
   simp
def aL (s:Shape):Bool:=!decide (s.kind=10)
theorem vb (f:Shape→Bool):∀l:List Shape,allL f l=l.all (allS f)
 | []=>rfl
 | p ::r=>by rw [List.all_cons,←vb f r];rfl
end Go.Pd
end
section
namespace Go.AL
variable [Tabs]
section
variable {P:Program} {f:Nat}
def pfc (τ:Ty) (n g:Nat) (F:den τ→Ans):Pat
 | [a,.fn f [.ptr 900 0]],[(900,.box (.fn h []))]=>(match Nat.beq f n,Nat.beq h g,arg τ a with | true,true,some a=>some (F a) | _,_,_=>none)
 | _,_=>none
theorem fL {τ:Ty} {n g:Nat} {F:den τ→Ans} (he:ax P f) (h:∀x,Wf τ x→(∀q,(F x).ob=some q→q)→aw P f [inj τ x,.fn n [.ptr 900 0]] [(900,.box (.fn g []))] (F x)):aj P f (pfc τ n g F):=by
 intro args S A hA ho _
 unfold pfc at hA
 split at hA
 ·split at hA
  ·rename_i hb hc hx
   simp only [Xs] at hA
   subst hA
   have e:=Nat.eq_of_beq_eq_true hb
   subst e
   have e:=Nat.eq_of_beq_eq_true hc
   subst e
   exact ⟨he,aw.args (.cons (Rd.arg hx) (.cons (Rd.refl _) .nil)) (aw.wf fun hw=>h _ hw.one ho)⟩
  ·cases hA
 ·cases hA
def pcl (τ:Ty) (g:Nat) (F:den τ→Ans):Pat
 | [a,.ptr 900 0],[(900,.box (.fn h []))]=>(match Nat.beq h g,arg τ a with | true,some a=>some (F a) | _,_=>none)
 | _,_=>none
theorem mZ {τ:Ty} {g:Nat} {F:den τ→Ans} (he:ax P f) (h:∀x,Wf τ x→(∀q,(F x).ob=some q→q)→aw P f [inj τ x,.ptr 900 0] [(900,.box (.fn g []))] (F x)):aj P f (pcl τ g F):=by
 intro args S A hA ho _
 unfold pcl at hA
 split at hA
 ·split at hA
  ·rename_i hc hx
   simp only [Xs] at hA
   subst hA
   have e:=Nat.eq_of_beq_eq_true hc
   subst e
   exact ⟨he,aw.args (.cons (Rd.arg hx) (.cons (Rd.refl _) .nil)) (aw.wf fun hw=>h _ hw.one ho)⟩
  ·cases hA
 ·cases hA
end
end Go.AL
end
section
namespace Go.Pd
open Go.AL
def cut (s:Str) (a b:Int):Str:=(s.take b.toNat).drop a.toNat
def nO (r:Str) (k:Nat):Bool:=decide (k < r.length) && decide ((r.getD k 0).toNat / 64=2)
def nY (r:Str) (k:Nat):Nat:=(r.getD k 0).toNat % 64
def oz (c:Nat):Bool:=decide (c < 1114112) && !(decide (55296<=c) && decide (c < 57344))
def gI:Str→Nat
 | []=>0
 | b ::r=>
  if b.toNat < 128 then 1
  else if b.toNat / 32=6/\nO r 0=true then (if 128<=b.toNat % 32 *64+nY r 0 then 2 else 0)
  else if b.toNat / 16=14/\nO r 0=true/\nO r 1=true then
   (if 2048<=b.toNat % 16 *4096+nY r 0 *64+nY r 1/\oz (b.toNat % 16 *4096+nY r 0 *64+nY r 1)=true then 3 else 0)
  else if b.toNat / 8=30/\nO r 0=true/\nO r 1=true/\nO r 2=true then
   (if 65536<=b.toNat % 8 *262144+nY r 0 *4096+nY r 1 *64+nY r 2/\oz (b.toNat % 8 *262144+nY r 0 *4096+nY r 1 *64+nY r 2)=true then 4 else 0)
  else 0
def iH:Nat→Str→Nat→Option Nat
 | 0,_,_=>none
 | f+1,x,k=>if x=[] then none else if gI x=0 then some k else iH f (x.drop (gI x)) (k+gI x)
def ke (x:Str):Option Nat:=iH x.length x 0
def splitB (c:UInt8):Str→List Str
 | []=>[[]]
 | b ::r=>if b=c then [] ::splitB c r else match splitB c r with | []=>[[b]] | p ::ps=>(b ::p) ::ps
def ic (s:Str):Str:=s.takeWhile fun b=>!decide (b=45)
def lH (s:Str):Str:=s.drop ((ic s).length+1)
def n5 (s:Str):Bool:=decide ((ic s).length < s.length)
end Go.Pd
end
section
namespace Go.Pd
open Go.AL
theorem FZ (b:UInt8):0<=bI b/\bI b<=255:=by
 have:=b.toNat_lt
 unfold bI
 omega
end Go.Pd
namespace Go.Pd
open Go.AL
def pQ:Str:=[48,49,50,51,52,53,54,55,56,57]
def nP (b:UInt8):Bool:=eQ (bI b)
def pR (s:Str):Str:=(s.reverse.dropWhile nP).reverse.dropWhile nP
def CQ (s:Str) (c:Int):Int:=b8 (fun b=>!decide (bI b=c)) s 0
def jl (s:Str):Nat × Nat:=if s=[] then (65533,0) else Lib.decodeN s.length (s.getD 0 0).toNat (s.getD 1 0).toNat (s.getD 2 0).toNat (s.getD 3 0).toNat
theorem qZ {p:UInt8→Bool}:∀{l:Str},l.dropWhile p=[]↔l.all p=true
 | []=>by simp
 | b ::r=>by
  rw [List.dropWhile_cons]
  split
  ·rename_i h
   rw [qZ,List.all_cons,h,Bool.true_and]
  ·rename_i h
   simp [h]
theorem CR (s:Str):(pR s).length<=s.length:=by
 unfold pR
 have h1:=(List.dropWhile_sublist (p:=nP) (l:=(s.reverse.dropWhile nP).reverse)).length_le
 have h2:=(List.dropWhile_sublist (p:=nP) (l:=s.reverse)).length_le
 rw [List.length_reverse] at h1 h2
 omega
def kf (n b0 b1 b2 b3:Nat):Nat:=
 if b0 < 128 then 1
 else if b0 / 32=6/\(1 < n/\b1 / 64=2) then (if b0 % 32 *64+b1 % 64≥128 then 2 else 0)
 else if b0 / 16=14/\(1 < n/\b1 / 64=2)/\(2 < n/\b2 / 64=2) then
  (if b0 % 16 *4096+b1 % 64 *64+b2 % 64≥2048/\(b0 % 16 *4096+b1 % 64 *64+b2 % 64 < 55296∨(57344<=b0 % 16 *4096+b1 % 64 *64+b2 % 64/\b0 % 16 *4096+b1 % 64 *64+b2 % 64<=1114111)) then 3 else 0)
 else if b0 / 8=30/\(1 < n/\b1 / 64=2)/\(2 < n/\b2 / 64=2)/\(3 < n/\b3 / 64=2) then
  (if b0 % 8 *262144+b1 % 64 *4096+b2 % 64 *64+b3 % 64≥65536/\(b0 % 8 *262144+b1 % 64 *4096+b2 % 64 *64+b3 % 64 < 55296∨(57344<=b0 % 8 *262144+b1 % 64 *4096+b2 % 64 *64+b3 % 64/\b0 % 8 *262144+b1 % 64 *4096+b2 % 64 *64+b3 % 64<=1114111)) then 4 else 0)
 else 0
theorem vc (n b0 b1 b2 b3:Nat) (h1:b1 < 256) (h2:b2 < 256) (h3:b3 < 256) (h0:b0 < 256) (hn:1<=n) :
  ((Lib.decodeN n b0 b1 b2 b3).1=65533/\(Lib.decodeN n b0 b1 b2 b3).2=1↔kf n b0 b1 b2 b3=0)/\(kf n b0 b1 b2 b3≠0→(Lib.decodeN n b0 b1 b2 b3).2=kf n b0 b1 b2 b3)/\
  (Lib.decodeN n b0 b1 b2 b3).1<=1114111/\1<=(Lib.decodeN n b0 b1 b2 b3).2/\(Lib.decodeN n b0 b1 b2 b3).2<=n:=by
 unfold Lib.decodeN kf
 by_cases c1:b0 < 128
 ·simp only [if_pos c1];refine ⟨⟨fun e=>?_,fun e=>?_⟩,fun e=>?_,?_,?_,?_⟩ <;> first | omega | exact ⟨rfl,rfl⟩ | exact ⟨trivial,trivial⟩ | exact (e rfl).elim | exact e.elim | exact (e trivial).elim | simp only at *
 simp only [if_neg c1]
 by_cases c2:b0 / 32=6/\(1 < n/\b1 / 64=2)
 ·simp only [if_pos c2]
  by_cases d:b0 % 32 *64+b1 % 64≥128
  ·simp only [if_pos d];refine ⟨⟨fun e=>?_,fun e=>?_⟩,fun e=>?_,?_,?_,?_⟩ <;> first | omega | exact ⟨rfl,rfl⟩ | exact ⟨trivial,trivial⟩ | exact (e rfl).elim | exact e.elim | exact (e trivial).elim | simp only at *
  ·simp only [if_neg d];refine ⟨⟨fun e=>?_,fun e=>?_⟩,fun e=>?_,?_,?_,?_⟩ <;> first | omega | exact ⟨rfl,rfl⟩ | exact ⟨trivial,trivial⟩ | exact (e rfl).elim | exact e.elim | exact (e trivial).elim | simp only at *
 simp only [if_neg c2]
 by_cases c3:b0 / 16=14/\(1 < n/\b1 / 64=2)/\(2 < n/\b2 / 64=2)
 ·simp only [if_pos c3]
  by_cases d:b0 % 16 *4096+b1 % 64 *64+b2 % 64≥2048/\(b0 % 16 *4096+b1 % 64 *64+b2 % 64 < 55296∨(57344<=b0 % 16 *4096+b1 % 64 *64+b2 % 64/\b0 % 16 *4096+b1 % 64 *64+b2 % 64<=1114111))
  ·simp only [if_pos d];refine ⟨⟨fun e=>?_,fun e=>?_⟩,fun e=>?_,?_,?_,?_⟩ <;> first | omega | exact ⟨rfl,rfl⟩ | exact ⟨trivial,trivial⟩ | exact (e rfl).elim | exact e.elim | exact (e trivial).elim | simp only at *
  ·simp only [if_neg d];refine ⟨⟨fun e=>?_,fun e=>?_⟩,fun e=>?_,?_,?_,?_⟩ <;> first | omega | exact ⟨rfl,rfl⟩ | exact ⟨trivial,trivial⟩ | exact (e rfl).elim | exact e.elim | exact (e trivial).elim | simp only at *
 simp only [if_neg c3]
 by_cases c4:b0 / 8=30/\(1 < n/\b1 / 64=2)/\(2 < n/\b2 / 64=2)/\(3 < n/\b3 / 64=2)
 ·simp only [if_pos c4]
  by_cases d:b0 % 8 *262144+b1 % 64 *4096+b2 % 64 *64+b3 % 64≥65536/\(b0 % 8 *262144+b1 % 64 *4096+b2 % 64 *64+b3 % 64 < 55296∨(57344<=b0 % 8 *262144+b1 % 64 *4096+b2 % 64 *64+b3 % 64/\b0 % 8 *262144+b1 % 64 *4096+b2 % 64 *64+b3 % 64<=1114111))
  ·simp only [if_pos d];refine ⟨⟨fun e=>?_,fun e=>?_⟩,fun e=>?_,?_,?_,?_⟩ <;> first | omega | exact ⟨rfl,rfl⟩ | exact ⟨trivial,trivial⟩ | exact (e rfl).elim | exact e.elim | exact (e trivial).elim | simp only at *
  ·simp only [if_neg d];refine ⟨⟨fun e=>?_,fun e=>?_⟩,fun e=>?_,?_,?_,?_⟩ <;> first | omega | exact ⟨rfl,rfl⟩ | exact ⟨trivial,trivial⟩ | exact (e rfl).elim | exact e.elim | exact (e trivial).elim | simp only at *
 simp only [if_neg c4]
 refine ⟨⟨fun e=>?_,fun e=>?_⟩,fun e=>?_,?_,?_,?_⟩ <;> first | omega | exact ⟨rfl,rfl⟩ | exact ⟨trivial,trivial⟩ | exact (e rfl).elim | exact e.elim | exact (e trivial).elim | simp only at *
theorem vd (c:Nat):oz c=true↔(c < 55296∨(57344<=c/\c<=1114111)):=by
 unfold oz
 simp only [Bool.and_eq_true,decide_eq_true_eq,Bool.not_eq_true',Bool.and_eq_false_iff,decide_eq_false_iff_not]
 omega
theorem AK (r:Str) (k:Nat):nO r k=true↔(k+1 < r.length+1/\(r.getD k 0).toNat / 64=2):=by
 unfold nO
 simp only [Bool.and_eq_true,decide_eq_true_eq]
 omega
theorem CS (b:UInt8) (r:Str):gI (b ::r)=kf (r.length+1) b.toNat (r.getD 0 0).toNat (r.getD 1 0).toNat (r.getD 2 0).toNat:=by
 unfold gI kf nY
 simp only [AK,vd]
theorem pS {s:Str} (h:s≠[]):((jl s).1=65533/\(jl s).2=1↔gI s=0)/\(gI s≠0→(jl s).2=gI s)/\(jl s).1<=1114111/\1<=(jl s).2/\(jl s).2<=s.length:=by
 cases s with
 | nil=>exact absurd rfl h
 | cons b r=>
  have e:jl (b ::r)=Lib.decodeN (r.length+1) b.toNat (r.getD 0 0).toNat (r.getD 1 0).toNat (r.getD 2 0).toNat:=by
   unfold jl
   rw [if_neg h]
   rfl
  rw [e,CS,List.length_cons]
  exact vc _ _ _ _ _ (r.getD 0 0).toNat_lt (r.getD 1 0).toNat_lt (r.getD 2 0).toNat_lt b.toNat_lt (by omega)
theorem pT:∀(f g:Nat) (x:Str) (k:Nat),x.length<=f→x.length<=g→iH f x k=iH g x k
 | 0,0,_,_,_,_=>rfl
 | 0,g+1,x,k,h,_=>by
  have e:x=[]:=List.eq_nil_of_length_eq_zero (by omega)
  subst e
  simp [iH]
 | f+1,0,x,k,_,h=>by
  have e:x=[]:=List.eq_nil_of_length_eq_zero (by omega)
  subst e
  simp [iH]
 | f+1,g+1,x,k,h1,h2=>by
  simp only [iH]
  split
  ·rfl
  ·rename_i hx
   split
   ·rfl
   ·rename_i hn
    have hl:(x.drop (gI x)).length < x.length:=by
     rw [List.length_drop]
     have:=List.length_pos_iff.2 hx
     omega
    exact pT f g _ _ (by omega) (by omega)
def kg (s:Str) (a:Nat):Option Nat:=iH s.length (s.drop a) a
theorem xE (s:Str):kg s 0=ke s:=rfl
theorem AM {s:Str} {a:Nat} (h:s.length<=a):kg s a=none:=by
 unfold kg
 rw [List.drop_eq_nil_of_le h]
 cases s.length <;> simp [iH]
theorem AN {s:Str} {a:Nat} (h:a < s.length) (hb:gI (s.drop a)=0):kg s a=some a:=by
 unfold kg
 obtain ⟨n,hn⟩:∃n,s.length=n+1:=⟨s.length - 1,by omega⟩
 have hx:s.drop a≠[]:=by
  intro e
  have:=congrArg List.length e
  simp at this
  omega
 rw [hn,iH,if_neg hx,if_pos hb]
theorem xF {s:Str} {a:Nat} (h:a < s.length) (hb:gI (s.drop a)≠0):kg s a=kg s (a+gI (s.drop a)):=by
 unfold kg
 obtain ⟨n,hn⟩:∃n,s.length=n+1:=⟨s.length - 1,by omega⟩
 have hx:s.drop a≠[]:=by
  intro e
  have:=congrArg List.length e
  simp at this
  omega
 rw [hn,iH,if_neg hx,if_neg hb,List.drop_drop]
 refine pT _ _ _ _ ?_ ?_ <;> (rw [List.length_drop];omega)
end Go.Pd
namespace Go.Pd
open Go.AL
end Go.Pd
namespace Go.Pd
open Go.AL
end Go.Pd
namespace Go.Pd
open Go.AL
theorem lq (c:UInt8):∀s:Str,(splitB c s).length<=s.length+1
 | []=>by simp [splitB]
 | b ::r=>by
  have ih:=lq c r
  unfold splitB
  split
  ·simp only [List.length_cons];omega
  ·split
   ·simp
   ·rename_i e
    rw [e] at ih
    simp only [List.length_cons] at ih ⊢
    omega
end Go.Pd
namespace Go.Pd
open Go.AL
theorem AO (s:Str):(ic s).length<=s.length:=(List.takeWhile_sublist _).length_le
end Go.Pd
namespace Go.Pd
open Go.AL
end Go.Pd
namespace Go.Pd
open Go.AL
end Go.Pd
end
section
namespace Go.AL
open Go.Proofs Go.Shelf Go.RowKit Go.Pd
theorem fW {c:UInt8}:∀{s:Str},Lib.indexByte s c=-1→c∉s
 | [],_=>List.not_mem_nil
 | b ::r,h=>by
  unfold Lib.indexByte at h
  by_cases e:b=c
  ·subst e;simp at h
  ·have e':(b ==c)=false:=beq_eq_false_iff_ne.2 e
   rw [e'] at h
   simp only [Bool.false_eq_true,if_false] at h
   have hg:=Lib.indexByte_ge r c
   split at h
   ·rename_i k
    have:=fW (s:=r) (by simpa using k)
    rw [List.mem_cons,not_or]
    exact ⟨fun q=>e q.symm,this⟩
   ·omega
theorem eR {c:UInt8}:∀{s:Str},Lib.indexByte s c≠-1→∃k:Nat,Lib.indexByte s c=k/\k < s.length/\s=s.take k++c ::s.drop (k+1)/\c∉s.take k
 | [],h=>absurd rfl h
 | b ::r,h=>by
  unfold Lib.indexByte at h ⊢
  by_cases e:b=c
  ·subst e
   refine ⟨0,by simp,by simp,by simp,by simp⟩
  ·have e':(b ==c)=false:=beq_eq_false_iff_ne.2 e
   rw [e'] at h ⊢
   simp only [Bool.false_eq_true,if_false] at h ⊢
   split at h
   ·exact absurd rfl h
   ·rename_i k
    obtain ⟨j,j1,j2,j3,j4⟩:=eR (s:=r) (by simpa using k)
    rw [if_neg k]
    refine ⟨j+1,by rw [j1];rfl,by simp;omega,?_,?_⟩
    ·rw [List.take_succ_cons,List.drop_succ_cons,List.cons_append,←j3]
    ·rw [List.take_succ_cons,List.mem_cons,not_or]
     exact ⟨fun q=>e q.symm,j4⟩
theorem pU {c:UInt8}:∀{s:Str},c∉s→splitB c s=[s]
 | [],_=>rfl
 | b ::r,h=>by
  rw [List.mem_cons,not_or] at h
  unfold splitB
  rw [if_neg (fun e=>h.1 e.symm),pU h.2]
theorem rS {c:UInt8}:∀{a:Str} (r:Str),c∉a→splitB c (a++c ::r)=a ::splitB c r
 | [],r,_=>by rw [List.nil_append,splitB,if_pos rfl]
 | b ::a,r,h=>by
  rw [List.mem_cons,not_or] at h
  rw [List.cons_append,splitB,if_neg (fun e=>h.1 e.symm),rS r h.2]
theorem pV (c:UInt8):∀(n:Nat) (s:Str),s.length<=n→Lib.splitK [c] 0 (s.count c) s=splitB c s
 | n,s,hn=>by
  by_cases h:Lib.indexByte s c=-1
  ·have hm:=fW h
   rw [List.count_eq_zero.2 hm,pU hm]
   rfl
  ·obtain ⟨k,k1,k2,k3,k4⟩:=eR h
   have hc:s.count c=(s.drop (k+1)).count c+1:=by
    have e:=congrArg (List.count c) k3
    rw [List.count_append,List.count_cons_self,List.count_eq_zero.2 k4] at e
    omega
   rw [hc]
   unfold Lib.splitK
   rw [Lib.index_one,if_neg (by simpa using h),k1]
   have hd:(k:Int).toNat+[c].length=k+1:=rfl
   have ht:(k:Int).toNat+0=k:=rfl
   rw [hd,ht]
   cases n with
   | zero=>omega
   | succ n=>
    rw [pV c n (s.drop (k+1)) (by rw [List.length_drop];omega)]
    conv=>rhs;rw [k3]
    rw [rS _ k4]
theorem ml {c:UInt8}:∀{a:Str} (r:Str),c∉a→(a++c ::r).takeWhile (fun b=>!decide (b=c))=a
 | [],r,_=>by simp
 | b ::a,r,h=>by
  rw [List.mem_cons,not_or] at h
  have hb:¬b=c:=fun e=>h.1 e.symm
  rw [List.cons_append,List.takeWhile_cons]
  simp only [hb,decide_false,Bool.not_false,if_true]
  rw [ml r h.2]
theorem r6 {c:UInt8} {s:Str} (h:c∉s):s.takeWhile (fun b=>!decide (b=c))=s:=by
 induction s with
 | nil=>rfl
 | cons b r ih=>
  rw [List.mem_cons,not_or] at h
  have hb:¬b=c:=fun e=>h.1 e.symm
  rw [List.takeWhile_cons]
  simp only [hb,decide_false,Bool.not_false,if_true]
  rw [ih h.2]
theorem CT (s:Str):Lib.cut s [45]=(ic s,lH s,n5 s):=by
 unfold Lib.cut
 rw [Lib.index_one]
 by_cases h:Lib.indexByte s 45=-1
 ·have hm:=fW h
  rw [h,if_neg (by decide)]
  have e:ic s=s:=r6 hm
  unfold lH n5
  rw [e,List.drop_eq_nil_of_le (by omega)]
  simp
 ·obtain ⟨k,k1,k2,k3,k4⟩:=eR h
  rw [k1,if_pos (by omega)]
  have e:ic s=s.take k:=by
   unfold ic
   conv=>lhs;rw [k3]
   exact ml _ k4
  have hl:(s.take k).length=k:=by rw [List.length_take];omega
  unfold lH n5
  rw [e,hl]
  simp [k2]
theorem F0 (s:Str) (c:Int) (h0:0<=c) (h1:c<=255):∀k:Nat,b8 (fun b=>!decide (bI b=c)) s k=if Lib.indexByte s c.toNat.toUInt8=-1 then -1 else Lib.indexByte s c.toNat.toUInt8+k:=by
 have hb:∀b:UInt8,(bI b=c)↔b=c.toNat.toUInt8:=by
  intro b
  unfold bI
  constructor
  ·intro e
   have:c.toNat=b.toNat:=by omega
   rw [this]
   simp
  ·intro e
   rw [e]
   simp [Nat.toUInt8]
   omega
 induction s with
 | nil=>intro k;rfl
 | cons b r ih=>
  intro k
  rw [b8]
  by_cases e:bI b=c
  ·have e2:=(hb b).1 e
   rw [if_neg (by simp [e])]
   unfold Lib.indexByte
   rw [e2]
   simp
  ·have e2:(b ==c.toNat.toUInt8)=false:=beq_eq_false_iff_ne.2 (fun q=>e ((hb b).2 q))
   rw [if_pos (by simp [e]),ih (k+1)]
   have hg:=Lib.indexByte_ge r c.toNat.toUInt8
   have e3:Lib.indexByte (b ::r) c.toNat.toUInt8=(if b ==c.toNat.toUInt8 then 0 else if Lib.indexByte r c.toNat.toUInt8 ==-1 then -1 else Lib.indexByte r c.toNat.toUInt8+1):=rfl
   rw [e3,e2]
   simp only [Bool.false_eq_true,if_false,beq_iff_eq]
   by_cases q:Lib.indexByte r c.toNat.toUInt8=-1
   ·rw [if_pos q,if_pos q];rfl
   ·rw [if_neg q,if_neg q,if_neg (by omega)]
    omega
theorem ve (s:Str) (c:UInt8):decide (0<=Lib.indexByte s c)=decide (c∈s):=by
 have hg:=Lib.indexByte_ge s c
 rw [decide_eq_decide]
 by_cases h:Lib.indexByte s c=-1
 ·exact ⟨fun e=>by omega,fun e=>absurd e (fW h)⟩
 ·obtain ⟨k,k1,k2,k3,k4⟩:=eR h
  exact ⟨fun _=>by rw [k3];simp,fun _=>by omega⟩
variable [Tabs] {P:Program} {ρ:Ren}
theorem Below.drawn (w:World) (n:Nat):Below w.heap.size w (w.drewN n):=⟨rfl,rfl,rfl,Nat.le_refl _,fun _ _=>rfl⟩
theorem After.news {w w':World} {pub:Nat→Nat→Prop} {e:Nat→Option CObj} (hp:jM w pub) (hd:∀id,e id=none) (hb:Below w.heap.size w w') {p:Nat→Prop} (hc:∀o,p o→∃v,w'.cell? ⟨w.heap.size,o,none⟩=some v) :
  After w pub e (aq (cm [] [])) w' (fun b o=>pub b o∨(b=w.heap.size/\p o)) e where
 os:=hb.os
 tape:=hb.tape
 output:=hb.output
 size:=hb.size
 block b h _:=hb.block b h
 cell b o h _:=ar (hb.block b h) o
 kind b h _:=⟨bp (hb.block b h),fun o=>aW (hb.block b h) o⟩
 ext:=⟨fun _ c h=>⟨c,h,CLe.refl c⟩,fun _ _ h=>.inl h,fun b o h=>by obtain ⟨v,hv⟩:=hp b o h;exact ar (hb.block b (b5 hv)) o⟩
 fresh b o h:=by
  rcases h with h | ⟨rfl,_⟩
  ·exact .inl h
  ·exact .inr (.inl (Nat.le_refl _))
 ok b o h:=by
  rcases h with h | ⟨rfl,h⟩
  ·obtain ⟨v,hv⟩:=hp b o h;exact ⟨v,(ar (hb.block b (b5 hv)) o).trans hv⟩
  ·exact hc o h
 slots id o h:=by simp [cm,aP,aJ] at h
 dom id _:=hd id
 inj i j c d b o h:=by rw [hd i] at h;cases h
theorem dE {f:Nat} {args:List AV} {A:AV} {ob:Option Prop} (h:∀(w:World) (pub:Nat→Nat→Prop) (vs:List Value),gw w pub (fun _=>none)→VL ⟨fun _=>none,w,pub⟩ args vs→Calls P f vs.toArray w fun e w'=>(∃v,e=.returned v/\∀Ω,V Ω A v)/\Below w.heap.size w w') :
  aw P f args [] ⟨ob,none,A,[]⟩:=by
 intro w pub e vs hp ht hv hs hd hi
 have he:e=fun _=>none:=funext fun id=>hd id rfl
 subst he
 refine (h w pub vs ht hv).mono ?_
 rintro en w' ⟨⟨v,rfl,hV⟩,hb⟩
 exact ⟨pub,_,And.intro (fun b pv u h=>by cases h) (And.intro (hV _) (After.below hp (fun _=>rfl) hb))⟩
theorem VL.two_str {Ω:Om} {a b:Str} {vs:List Value} (h:VL Ω [.str a,.str b] vs):vs=[.string ⟨a.toArray⟩,.string ⟨b.toArray⟩]/\a.length<=bA/\b.length<=bA:=by
 obtain ⟨v1,v2,rfl,h1,h2⟩:=VL.two_inv h
 obtain ⟨rfl,l1⟩:=h1.str_inv
 obtain ⟨rfl,l2⟩:=h2.str_inv
 exact ⟨rfl,l1,l2⟩
def F1:Pat:=p2 .str .str fun a b=>⟨some (b=pQ),none,.str (pR a),[]⟩
set_option maxRecDepth 100000 in
theorem CU (b:UInt8):pQ.contains b=nP b:=by
 have h:∀b:Fin 256,pQ.contains (UInt8.ofNat b.val)=nP (UInt8.ofNat b.val):=by decide
 have:=h ⟨b.toNat,b.toNat_lt⟩
 simpa using this
theorem xG {f:Nat} (L:Lays.n160 P ρ) (h116:(P.info? (ρ.t 116)).map (fun i=>(i.zero,i.size))=some (some (.agg (Array.replicate 256 (.bool false))),256)) (hf:ρ.f 160=f) (he:ax P f):aj P f F1:=by
 subst hf
 refine dM he fun a b _ _ ho=>?_
 have hb:=ho _ rfl
 subst hb
 refine dE fun w pub vs _ hv=>?_
 obtain ⟨rfl,l1,l2⟩:=VL.two_str hv
 have l1':a.length<=9223372036854775807:=l1
 refine (Any.strings_Trim_laid L h116 ⟨a.toArray⟩ ⟨pQ.toArray⟩ w (by simpa [ByteArray.size] using l1') (by decide) (fun j b hj=>?_)).mono ?_
 ·have hd:∀b∈pQ,b.toNat < 128:=by decide
  exact hd b (List.mem_of_getElem? hj)
 ·rintro en w' ⟨rfl,hb⟩
  refine ⟨⟨_,rfl,fun Ω=>?_⟩,hb⟩
  have e:Lib.trimS a pQ=pR a:=by
   have ef:(fun b=>pQ.contains b)=nP:=funext CU
   unfold Lib.trimS Lib.trimLeftS Lib.trimRightS pR
   rw [ef]
  have e2:(⟨a.toArray⟩:ByteArray).data.toList=a:=rfl
  have e3:(⟨pQ.toArray⟩:ByteArray).data.toList=pQ:=rfl
  rw [e2,e3,e]
  exact .str _ (Nat.le_trans (CR a) l1)
def Gj:Pat:=p2 .str .str fun a b=>⟨some (b=[45]/\a.length < 4294967281),none,.tup [.str (ic a),.str (lH a),.bool (n5 a)],[]⟩
theorem AP {f:Nat} {m:Int} (L:Lays.n145 P ρ) (hm:Tabs.tab (ρ.g 1) 0 (.int .i64 m)) (hf:ρ.f 145=f) (he:ax P f):aj P f Gj:=by
 subst hf
 refine dM he fun a b _ _ ho=>?_
 obtain ⟨hb,hl⟩:=ho _ rfl
 subst hb
 refine dE fun w pub vs ht hv=>?_
 obtain ⟨rfl,l1,l2⟩:=VL.two_str hv
 refine (Any.strings_Cut L ⟨a.toArray⟩ ⟨([45]:Str).toArray⟩ m w (by simpa [ByteArray.size] using hl) (ht.1 _ _ _ hm).2).mono ?_
 rintro en w' ⟨rfl,n,rfl⟩
 refine ⟨⟨_,rfl,fun Ω=>?_⟩,Below.drawn w n⟩
 have e2:(⟨a.toArray⟩:ByteArray).data.toList=a:=rfl
 have e3:(⟨([45]:Str).toArray⟩:ByteArray).data.toList=[45]:=rfl
 rw [e2,e3,CT]
 refine V.of_tup (VL.cons (.str _ ?_) (VL.cons (.str _ ?_) (VL.cons (.bool _) .nil)))
 ·exact Nat.le_trans (AO a) l1
 ·unfold lH
  rw [List.length_drop]
  exact Nat.le_trans (Nat.sub_le _ _) l1
def vf:Pat:=p2 .str .str fun a b=>⟨some (b.length=1),none,.bool (decide (b.getD 0 0∈a)),[]⟩
theorem pW {f:Nat} (L:Lays.n144 P ρ) (hf:ρ.f 144=f) (he:ax P f):aj P f vf:=by
 subst hf
 refine dM he fun a b _ _ ho=>?_
 have hb:b.length=1:=ho _ rfl
 obtain ⟨c,rfl⟩:∃c,b=[c]:=by
  match b,hb with
  | [c],_=>exact ⟨c,rfl⟩
 refine dE fun w pub vs ht hv=>?_
 obtain ⟨rfl,l1,l2⟩:=VL.two_str hv
 refine (Any.strings_Contains_one L ⟨a.toArray⟩ c w).mono ?_
 rintro en w' ⟨rfl,rfl⟩
 refine ⟨⟨_,rfl,fun Ω=>?_⟩,Below.refl _ _⟩
 have e2:(⟨a.toArray⟩:ByteArray).data.toList=a:=rfl
 rw [e2,ve]
 exact .bool _
def tv:Pat:=p2 .str (.int .u8) fun a c=>.ret (.int .i64 (CQ a c))
theorem nZ {f:Nat} (L:Lays.n137 P ρ) (hf:ρ.f 137=f) (he:ax P f):aj P f tv:=by
 subst hf
 refine dM he fun a c _ _ ho=>?_
 refine dE fun w pub vs ht hv=>?_
 obtain ⟨v1,v2,rfl,h1,h2⟩:=VL.two_inv hv
 obtain ⟨rfl,l1⟩:=h1.str_inv
 obtain ⟨rfl,c1,c2⟩:=(show V _ (.int .u8 c) v2 from h2).int_inv
 have c1:(0:Int)<=c:=c1
 have c2:c<=(255:Int):=c2
 refine (Any.strings_IndexByte L ⟨a.toArray⟩ c w).mono ?_
 rintro en w' ⟨rfl,rfl⟩
 refine ⟨⟨_,rfl,fun Ω=>?_⟩,Below.refl _ _⟩
 have e2:(⟨a.toArray⟩:ByteArray).data.toList=a:=rfl
 have e:CQ a c=Lib.indexByte a c.toNat.toUInt8:=by
  unfold CQ
  rw [F0 a c c1 c2 0]
  split
  ·rename_i h;exact h.symm
  ·simp
 rw [e2,e]
 have hg:=Lib.indexByte_ge a c.toNat.toUInt8
 have hu:Lib.indexByte a c.toNat.toUInt8<=(a.length:Int):=by
  by_cases q:Lib.indexByte a c.toNat.toUInt8=-1
  ·omega
  ·obtain ⟨k,k1,k2,_⟩:=eR q
   omega
 have l1':a.length<=9223372036854775807:=l1
 have b1:inR .i64 (Lib.indexByte a c.toNat.toUInt8):=bc (by omega) (by omega)
 exact .int _ _ b1.1 b1.2
def CV:Pat:=p2 .str .str fun a b=>⟨some (b=[46]/\a.length < 4294967281),none,.lst .str (splitB 46 a) none,[]⟩
theorem pX (c:UInt8):∀(s:Str),∀x∈splitB c s,x.length<=s.length
 | [],x,h=>by rw [List.mem_singleton.1 h];exact Nat.le_refl _
 | b ::r,x,h=>by
  have ih:=pX c r
  unfold splitB at h
  split at h
  ·rcases List.mem_cons.1 h with e | e
   ·rw [e];exact Nat.zero_le _
   ·have:=ih x e;rw [List.length_cons];omega
  ·split at h
   ·rw [List.mem_singleton.1 h,List.length_cons];simp
   ·rename_i p ps e0
    rcases List.mem_cons.1 h with e | e
    ·have:=ih p (by rw [e0];exact List.mem_cons_self ..)
     rw [e,List.length_cons,List.length_cons]
     omega
    ·have:=ih x (by rw [e0];exact List.mem_cons_of_mem _ e)
     rw [List.length_cons]
     omega
theorem vg {f:Nat} {m:Int} (L:Lays.n146 P ρ) (hi9:(P.info? (ρ.t 9)).map (fun i=>(i.zero,i.size,i.bytes))=some (some (.string ByteArray.empty),1,16)) (hm:Tabs.tab (ρ.g 1) 0 (.int .i64 m)) (hf:ρ.f 146=f) (he:ax P f):aj P f CV:=by
 subst hf
 refine dM he fun a b _ _ ho=>?_
 obtain ⟨hb,hl⟩:=ho _ rfl
 subst hb
 intro w pub e vs hp ht hv hs hd hi
 obtain ⟨rfl,l1,l2⟩:=VL.two_str hv
 have l1':a.length<=9223372036854775807:=l1
 refine (Any.strings_Split L hi9 ⟨a.toArray⟩ ⟨([46]:Str).toArray⟩ m w (by simpa [ByteArray.size] using hl) (ht.1 _ _ _ hm).2 (by decide)).mono ?_
 rintro en w' ⟨rfl,rfl⟩
 have e2:(⟨a.toArray⟩:ByteArray).data.toList=a:=rfl
 have e3:(⟨([46]:Str).toArray⟩:ByteArray).data.toList=[46]:=rfl
 have hcount:Lib.countB ⟨a.toArray⟩ ⟨([46]:Str).toArray⟩=a.count 46:=by
  show Lib.count a [46]=_
  rw [Lib.count_one]
 have hsp:(Lib.splitB ⟨([46]:Str).toArray⟩ 0 (Lib.countB ⟨a.toArray⟩ ⟨([46]:Str).toArray⟩) ⟨a.toArray⟩).map (·.data.toList)=splitB 46 a:=by
  rw [Lib.splitB_data,hcount]
  exact pV 46 a.length a (Nat.le_refl _)
 generalize Lib.splitB ⟨([46]:Str).toArray⟩ 0 (Lib.countB ⟨a.toArray⟩ ⟨([46]:Str).toArray⟩) ⟨a.toArray⟩=bs at hsp
 have hcl:(splitB 46 a).length=Lib.countB ⟨a.toArray⟩ ⟨([46]:Str).toArray⟩+1:=by
  rw [hcount]
  have:∀s:Str,(splitB 46 s).length=s.count 46+1:=by
   intro s
   induction s with
   | nil=>rfl
   | cons b r ih=>
    unfold splitB
    split
    ·rename_i h
     subst h
     rw [List.length_cons,ih,List.count_cons_self]
    ·rename_i h
     rw [List.count_cons_of_ne h]
     split
     ·rename_i e0;rw [e0] at ih;simp at ih
     ·rename_i p ps e0
      rw [e0] at ih
      simpa using ih
  exact this a
 have hbl:bs.length=(splitB 46 a).length:=by rw [←hsp,List.length_map]
 have hsz:=lq 46 a
 rw [←hcl]
 have hnew:(w.alloc (.cells (bs.map Value.string).toArray (ρ.t 9))).heap[w.heap.size]?=some (.cells (bs.map Value.string).toArray (ρ.t 9) (0,0)):=bV _ _
 have hbw:Below w.heap.size w (w.alloc (.cells (bs.map Value.string).toArray (ρ.t 9))):=⟨rfl,rfl,rfl,by simp,fun b hb=>fF _ _ _ hb⟩
 refine ⟨fun b o=>pub b o∨(b=w.heap.size/\o < bs.length),e,And.intro (fun b pv u h=>by cases h) (And.intro ?_ (After.news hp (fun id=>hd id rfl) hbw (p:=fun o=>o < bs.length) (fun o ho=>?_)))⟩
 ·refine pc (Ω:=⟨e,w.alloc (.cells (bs.map Value.string).toArray (ρ.t 9)),fun b o=>pub b o∨(b=w.heap.size/\o < bs.length)⟩) (τ:=.str) (xs:=splitB 46 a) (vs:=bs.map Value.string) hnew ?_ ?_ (Nat.le_refl _) (by unfold bA;omega) (fun i hi=>.inr ⟨rfl,by rw [hbl];simpa [ag] using hi⟩) (fun id hid=>by cases hid)
  ·have e1:(splitB 46 a).length *ag .str=bs.length:=by rw [hbl];exact Nat.mul_one _
   rw [e1]
   exact List.take_of_length_le (by simp)
  ·have ef:bf .str (splitB 46 a)=(splitB 46 a).map AV.str:=by
    unfold bf
    rw [List.map_eq_flatMap]
    rfl
   rw [ef,←hsp]
   refine ⟨by simp,fun j c v hc hv=>?_⟩
   rw [List.map_map,List.getElem?_map,Option.map_eq_some_iff] at hc
   rw [List.getElem?_map,Option.map_eq_some_iff] at hv
   obtain ⟨x,hx,rfl⟩:=hc
   obtain ⟨y,hy,rfl⟩:=hv
   rw [hx] at hy
   cases hy
   have hmem:x.data.toList∈splitB 46 a:=by rw [←hsp];exact List.mem_map_of_mem (List.mem_of_getElem? hx)
   have hle:=pX 46 a _ hmem
   have:=V.str (Ω:=⟨e,w.alloc (.cells (bs.map Value.string).toArray (ρ.t 9)),fun b o=>pub b o∨(b=w.heap.size/\o < bs.length)⟩) x.data.toList (Nat.le_trans hle l1)
   exact this
 ·rw [aA hnew]
  exact ⟨_,Array.getElem?_eq_getElem (by simpa using ho)⟩
def mm [Tabs] (g3 g4:Nat):Prop:=
 (∀c,c < 256→Tabs.tab g3 c (.int .u8 (Lib.firstT c)))/\(∀i,i < 16→Tabs.tab g4 (2 *i) (.int .u8 (Lib.accLo i))/\Tabs.tab g4 (2 *i+1) (.int .u8 (Lib.accHi i)))
theorem mm.tabs {g3 g4:Nat} (h:mm g3 g4) {w:World} {pub:Nat→Nat→Prop} {e:Nat→Option CObj} (ht:gw w pub e):Lib.Utf8Tabs g3 g4 w:=
 ⟨fun c hc=>(ht.1 _ _ _ (h.1 c hc)).2,fun i hi=>⟨(ht.1 _ _ _ (h.2 i hi).1).2,(ht.1 _ _ _ (h.2 i hi).2).2⟩⟩
theorem F2 (s:Str) (k:Nat) (h:k < s.length):((⟨s.toArray⟩:ByteArray).get! k)=s.getD k 0:=by
 rw [Utf8W.get!_of_lt _ k (by simpa [ByteArray.size] using h)]
 have:(⟨s.toArray⟩:ByteArray)[k]'(by simpa [ByteArray.size] using h)=s[k]:=rfl
 rw [this]
 simp [List.getD_eq_getElem?_getD,h]
theorem vh (n b0 b1 b2 b3 c1 c2 c3:Nat) (h1:1 < n→b1=c1) (h2:2 < n→b2=c2) (h3:3 < n→b3=c3):Lib.decodeN n b0 b1 b2 b3=Lib.decodeN n b0 c1 c2 c3:=by
 rcases Nat.lt_or_ge 3 n with k | k
 ·rw [h1 (by omega),h2 (by omega),h3 k]
 rcases Nat.lt_or_ge 2 n with k2 | k2
 ·rw [h1 (by omega),h2 k2]
  unfold Lib.decodeN
  have e:¬3 < n:=by omega
  simp only [e,false_and,and_false,if_false]
 rcases Nat.lt_or_ge 1 n with k1 | k1
 ·rw [h1 k1]
  unfold Lib.decodeN
  have e:¬3 < n:=by omega
  have e':¬2 < n:=by omega
  simp only [e,e',false_and,and_false,if_false]
 ·unfold Lib.decodeN
  have e:¬3 < n:=by omega
  have e':¬2 < n:=by omega
  have e'':¬1 < n:=by omega
  simp only [e,e',e'',false_and,and_false,if_false]
theorem nQ (s:Str):Lib.decodeGo ⟨s.toArray⟩=jl s:=by
 unfold Lib.decodeGo jl
 have hs:(⟨s.toArray⟩:ByteArray).size=s.length:=by simp [ByteArray.size]
 rw [hs]
 by_cases h:s=[]
 ·subst h;rfl
 have hl:=List.length_pos_iff.2 h
 rw [if_neg (by omega),if_neg h,Lib.decode_at,hs,Nat.sub_zero,F2 s 0 hl]
 exact vh _ _ _ _ _ _ _ _ (fun k=>by rw [F2 s 1 k]) (fun k=>by rw [F2 s 2 k]) (fun k=>by rw [F2 s 3 k])
def r8:Pat:=p1 .str fun s=>.ret (.tup [.int .i32 ((jl s).1:Int),.int .i64 ((jl s).2:Int)])
theorem xH (s:Str):(jl s).1<=1114111/\(jl s).2<=s.length:=by
 by_cases h:s=[]
 ·subst h;decide
 ·have:=pS h
  exact ⟨this.2.2.1,this.2.2.2.2⟩
theorem n9 {f:Nat} (L:Lays.n197 P ρ) (hu:mm (ρ.g 3) (ρ.g 4)) (hf:ρ.f 197=f) (he:ax P f):aj P f r8:=by
 subst hf
 refine ba he fun s _ ho=>?_
 refine dE fun w pub vs ht hv=>?_
 obtain ⟨v,rfl,h1⟩:=VL.one_inv hv
 obtain ⟨rfl,hl⟩:=h1.str_inv
 have hl':s.length<=9223372036854775807:=hl
 refine (Any.utf8_DecodeRuneInString L ⟨s.toArray⟩ w (hu.tabs ht)).mono ?_
 rintro en w' ⟨rfl,hb⟩
 refine ⟨⟨_,rfl,fun Ω=>?_⟩,hb⟩
 rw [nQ]
 obtain ⟨d1,d2⟩:=xH s
 exact V.of_tup (VL.cons (.int .i32 _ (by show (-2147483648:Int)<=_;omega) (by show _<=(2147483647:Int);omega)) (VL.cons (.int .i64 _ (by show (-9223372036854775808:Int)<=_;omega) (by show _<=(9223372036854775807:Int);omega)) .nil))
theorem pY:∀(n:Nat) (l:Str) (k:Nat),Lib.validGoD n l=(iH n l k).isNone
 | 0,_,_=>rfl
 | n+1,l,k=>by
  unfold Lib.validGoD
  rw [iH]
  by_cases h:l=[]
  ·rw [if_pos h,if_pos h];rfl
  rw [if_neg h,if_neg h]
  have hd:Lib.decodeL l=jl l:=by
   rw [←nQ]
   unfold Lib.decodeL Lib.decodeGo
   rw [if_neg (by
    have:=List.length_pos_iff.2 h
    simp [ByteArray.size]
    exact h)]
  obtain ⟨b1,b2,_⟩:=pS h
  rw [hd]
  by_cases u:gI l=0
  ·rw [if_pos (b1.2 u),if_pos u];rfl
  ·rw [if_neg (fun e=>u (b1.1 e)),if_neg u,b2 u]
   exact pY n _ _
def CW:Pat:=p1 .str fun s=>.ret (.bool (ke s).isNone)
theorem vi {f:Nat} (L:Lays.n196 P ρ) (hu:mm (ρ.g 3) (ρ.g 4)) (hf:ρ.f 196=f) (he:ax P f):aj P f CW:=by
 subst hf
 refine ba he fun s _ ho=>?_
 refine dE fun w pub vs ht hv=>?_
 obtain ⟨v,rfl,h1⟩:=VL.one_inv hv
 obtain ⟨rfl,hl⟩:=h1.str_inv
 have hl':s.length<=9223372036854775807:=hl
 refine (Any.utf8_ValidString L ⟨s.toArray⟩ w (by simpa [ByteArray.size] using hl') (hu.tabs ht)).mono ?_
 rintro en w' ⟨rfl,hb⟩
 refine ⟨⟨_,rfl,fun Ω=>?_⟩,hb⟩
 have e:Lib.validD s=(ke s).isNone:=pY s.length s 0
 have e2:(⟨s.toArray⟩:ByteArray).data.toList=s:=rfl
 rw [e2,e]
 exact .bool _
end Go.AL
end
section
namespace Go.AL
variable [Tabs]
open Go.Proofs Go.Shelf Go.RowKit
variable {P:Program} {ρ:Ren}
def tw (g:Nat):Prop:=∃t fz,Tabs.obj g (.cells (Lib.pow10Tab.map fun z=>Value.int .u64 z).toArray t fz)
end Go.AL
end
section
namespace Go.AL
variable [Tabs]
open Go.Proofs Go.Shelf Go.RowKit
variable {P:Program} {ρ:Ren}
theorem pZ {f g:Nat} (L:LaysM.n173 P ρ) (hg:P.globalNamed "internal/strconv.uint64pow10"=some g) (hp:tw g) (hf:ρ.f 173=f) (he:ax P f) :
  aj P f (p2 (.int .i64) (.int .i64) fun n b=>⟨some (b=10/\(Lib.itoa n).length<=1000),none,.str (Lib.itoa n),[]⟩):=by
 subst hf
 refine dM he fun n b _ _ ho=>?_
 obtain ⟨rfl,hl⟩:=ho _ rfl
 obtain ⟨t,fz,hb⟩:=hp
 refine dE fun w pub vs ht hv=>?_
 obtain ⟨v,u,rfl,hv,hu⟩:=VL.two_inv hv
 cases hv with
 | int _ _ h0 h1=>
 cases hu with
 | int _ _ _ _=>
 have htab:Lib.TabIs P w "internal/strconv.uint64pow10" .u64 Lib.pow10Tab:=by
  unfold Lib.TabIs World.var?
  rw [hg]
  show (match w.heap[g]? with | some (.cells cs _ _)=>some cs | _=>none)=_
  rw [(ht.2 g _ hb).1]
 refine (Any.strconv_FormatInt_10 L n h0 h1 w htab).mono ?_
 rintro en w' ⟨rfl,k,os,rfl⟩
 exact ⟨⟨_,rfl,fun Ω=>.str _ (Nat.le_trans hl (by unfold bA;decide))⟩,Lib.below_grow _ w (Nat.le_refl _) k os⟩
end Go.AL
end
section
namespace Go.AL.Seat
open Go Go.AL Go.Proofs Go.Shelf Go.Pd
variable [Tabs]
class SeatPow [Tabs]:Prop where
 pow:tw 2
variable [SeatPow]
theorem rf:aj Tryz.prog 107 (p2 (.int .i64) (.int .i64) fun n b=>⟨some (b=10/\(Lib.itoa n).length<=1000),none,.str (Lib.itoa n),[]⟩):=pZ Tryz.lays173 (by kernel_rfl) SeatPow.pow rfl (ax.mk' Tryz.func107 (by kernel_rfl))
end Go.AL.Seat
end
section
namespace Go.Proofs
open Go.Shelf
def Tryz.lays160_ren:Go.Shelf.Ren:=⟨fun | 160=>76 | 232=>114 | 231=>113 | 227=>115 | 234=>117 | 233=>116 | 236=>119 | 235=>118 | 228=>154 | 271=>156 | 151=>155 | 197=>111 | 120=>188 | 152=>187 | 260=>153 | 137=>125 | 119=>212 | 224=>213 | 225=>214 | 217=>162 | 266=>197 | n=>n,fun | 9=>9 | 4=>4 | 3=>3 | 5=>5 | 117=>162 | 116=>161 | 0=>0 | 124=>165 | 21=>21 | 105=>156 | 46=>205 | 119=>201 | 139=>204 | 138=>203 | n=>n,fun | 3=>0 | 4=>1 | n=>n⟩
theorem Tryz.lays160:Go.Proofs.Lays.n160 Tryz.prog Tryz.lays160_ren:={
 mixed:=by kernel_rfl
 f119:=Xt Tryz.func212
 f120:=Xt Tryz.func188
 f137:=Xt Tryz.func125
 f151:=Xt Tryz.func155
 f152:=Xt Tryz.func187
 f160:=Xt Tryz.func76
 f197:=Xt Tryz.func111
 f217:=Xt Tryz.func162
 f224:=Xt Tryz.func213
 f225:=Xt Tryz.func214
 f227:=Xt Tryz.func115
 f228:=Xt Tryz.func154
 f231:=Xt Tryz.func113
 f232:=Xt Tryz.func114
 f233:=Xt Tryz.func116
 f234:=Xt Tryz.func117
 f235:=Xt Tryz.func118
 f236:=Xt Tryz.func119
 f260:=Xt Tryz.func153
 f266:=Xt Tryz.func197
 f271:=Xt Tryz.func156
 t0:=Tryz.underlying0
 a0:=Tryz.isAgg0
 z0:=Tryz.sizeOf0
 v0:=Tryz.zeroValue0
 t3:=Tryz.underlying3
 a3:=Tryz.isAgg3
 z3:=Tryz.sizeOf3
 v3:=Tryz.zeroValue3
 t4:=Tryz.underlying4
 a4:=Tryz.isAgg4
 z4:=Tryz.sizeOf4
 v4:=Tryz.zeroValue4
 t5:=Tryz.underlying5
 a5:=Tryz.isAgg5
 z5:=Tryz.sizeOf5
 v5:=Tryz.zeroValue5
 t9:=Tryz.underlying9
 a9:=Tryz.isAgg9
 z9:=Tryz.sizeOf9
 v9:=Tryz.zeroValue9
 t21:=Tryz.underlying21
 a21:=Tryz.isAgg21
 z21:=Tryz.sizeOf21
 v21:=Tryz.zeroValue21
 t46:=Tryz.underlying205
 a46:=Tryz.isAgg205
 z46:=Tryz.sizeOf205
 v46:=Tryz.zeroValue205
 t105:=Tryz.underlying156
 a105:=Tryz.isAgg156
 z105:=Tryz.sizeOf156
 v105:=Tryz.zeroValue156
 t116:=Tryz.underlying161
 a116:=Tryz.isAgg161
 z116:=Tryz.sizeOf161
 t117:=Tryz.underlying162
 a117:=Tryz.isAgg162
 z117:=Tryz.sizeOf162
 v117:=Tryz.zeroValue162
 t119:=Tryz.underlying201
 a119:=Tryz.isAgg201
 z119:=Tryz.sizeOf201
 t124:=Tryz.underlying165
 a124:=Tryz.isAgg165
 z124:=Tryz.sizeOf165
 v124:=Tryz.zeroValue165
 t138:=Tryz.underlying203
 a138:=Tryz.isAgg203
 z138:=Tryz.sizeOf203
 v138:=Tryz.zeroValue203
 t139:=Tryz.underlying204
 a139:=Tryz.isAgg204
 z139:=Tryz.sizeOf204
 v139:=Tryz.zeroValue204
 g3:=by kernel_rfl
 g4:=by kernel_rfl}
def Tryz.lays145_ren:Go.Shelf.Ren:=⟨fun | 145=>120 | 220=>157 | 219=>189 | 217=>162 | 225=>214 | 224=>213 | 267=>215 | 266=>197 | 314=>234 | n=>n,fun | 9=>9 | 4=>4 | 59=>166 | 3=>3 | 5=>5 | 46=>205 | 146=>250 | 51=>232 | n=>n,fun | 1=>3 | n=>n⟩
theorem Tryz.lays145:Go.Proofs.Lays.n145 Tryz.prog Tryz.lays145_ren:={
 mixed:=by kernel_rfl
 f145:=Xt Tryz.func120
 f217:=Xt Tryz.func162
 f219:=Xt Tryz.func189
 f220:=Xt Tryz.func157
 f224:=Xt Tryz.func213
 f225:=Xt Tryz.func214
 f266:=Xt Tryz.func197
 f267:=Xt Tryz.func215
 f314:=Xt Tryz.func234
 t3:=Tryz.underlying3
 a3:=Tryz.isAgg3
 z3:=Tryz.sizeOf3
 v3:=Tryz.zeroValue3
 t4:=Tryz.underlying4
 a4:=Tryz.isAgg4
 z4:=Tryz.sizeOf4
 v4:=Tryz.zeroValue4
 t5:=Tryz.underlying5
 a5:=Tryz.isAgg5
 z5:=Tryz.sizeOf5
 v5:=Tryz.zeroValue5
 t9:=Tryz.underlying9
 a9:=Tryz.isAgg9
 z9:=Tryz.sizeOf9
 v9:=Tryz.zeroValue9
 t46:=Tryz.underlying205
 a46:=Tryz.isAgg205
 z46:=Tryz.sizeOf205
 v46:=Tryz.zeroValue205
 t51:=Tryz.underlying232
 a51:=Tryz.isAgg232
 z51:=Tryz.sizeOf232
 v51:=Tryz.zeroValue232
 t59:=Tryz.underlying166
 a59:=Tryz.isAgg166
 z59:=Tryz.sizeOf166
 v59:=Tryz.zeroValue166
 t146:=Tryz.underlying250
 a146:=Tryz.isAgg250
 z146:=Tryz.sizeOf250
 v146:=Tryz.zeroValue250
 g1:=by kernel_rfl}
def Tryz.lays146_ren:Go.Shelf.Ren:=⟨fun | 146=>121 | 221=>158 | 268=>190 | 138=>191 | 143=>163 | 195=>216 | 197=>111 | 218=>217 | 219=>189 | 260=>153 | 217=>162 | 225=>214 | 224=>213 | 267=>215 | 266=>197 | 314=>234 | n=>n,fun | 9=>9 | 31=>22 | 3=>3 | 4=>4 | 0=>0 | 105=>156 | 21=>21 | 5=>5 | 46=>205 | 119=>201 | 139=>204 | 138=>203 | 146=>250 | 51=>232 | n=>n,fun | 1=>3 | 3=>0 | 4=>1 | n=>n⟩
theorem Tryz.lays146:Go.Proofs.Lays.n146 Tryz.prog Tryz.lays146_ren:={
 mixed:=by kernel_rfl
 f138:=Xt Tryz.func191
 f143:=Xt Tryz.func163
 f146:=Xt Tryz.func121
 f195:=Xt Tryz.func216
 f197:=Xt Tryz.func111
 f217:=Xt Tryz.func162
 f218:=Xt Tryz.func217
 f219:=Xt Tryz.func189
 f221:=Xt Tryz.func158
 f224:=Xt Tryz.func213
 f225:=Xt Tryz.func214
 f260:=Xt Tryz.func153
 f266:=Xt Tryz.func197
 f267:=Xt Tryz.func215
 f268:=Xt Tryz.func190
 f314:=Xt Tryz.func234
 t0:=Tryz.underlying0
 a0:=Tryz.isAgg0
 z0:=Tryz.sizeOf0
 v0:=Tryz.zeroValue0
 t3:=Tryz.underlying3
 a3:=Tryz.isAgg3
 z3:=Tryz.sizeOf3
 v3:=Tryz.zeroValue3
 t4:=Tryz.underlying4
 a4:=Tryz.isAgg4
 z4:=Tryz.sizeOf4
 v4:=Tryz.zeroValue4
 t5:=Tryz.underlying5
 a5:=Tryz.isAgg5
 z5:=Tryz.sizeOf5
 v5:=Tryz.zeroValue5
 t9:=Tryz.underlying9
 a9:=Tryz.isAgg9
 z9:=Tryz.sizeOf9
 v9:=Tryz.zeroValue9
 t21:=Tryz.underlying21
 a21:=Tryz.isAgg21
 z21:=Tryz.sizeOf21
 v21:=Tryz.zeroValue21
 t31:=Tryz.underlying22
 a31:=Tryz.isAgg22
 z31:=Tryz.sizeOf22
 v31:=Tryz.zeroValue22
 t46:=Tryz.underlying205
 a46:=Tryz.isAgg205
 z46:=Tryz.sizeOf205
 v46:=Tryz.zeroValue205
 t51:=Tryz.underlying232
 a51:=Tryz.isAgg232
 z51:=Tryz.sizeOf232
 v51:=Tryz.zeroValue232
 t105:=Tryz.underlying156
 a105:=Tryz.isAgg156
 z105:=Tryz.sizeOf156
 v105:=Tryz.zeroValue156
 t119:=Tryz.underlying201
 a119:=Tryz.isAgg201
 z119:=Tryz.sizeOf201
 t138:=Tryz.underlying203
 a138:=Tryz.isAgg203
 z138:=Tryz.sizeOf203
 v138:=Tryz.zeroValue203
 t139:=Tryz.underlying204
 a139:=Tryz.isAgg204
 z139:=Tryz.sizeOf204
 v139:=Tryz.zeroValue204
 t146:=Tryz.underlying250
 a146:=Tryz.isAgg250
 z146:=Tryz.sizeOf250
 v146:=Tryz.zeroValue250
 g1:=by kernel_rfl
 g3:=by kernel_rfl
 g4:=by kernel_rfl}
def Tryz.lays144_ren:Go.Shelf.Ren:=⟨fun | 144=>127 | 143=>163 | 219=>189 | 217=>162 | 225=>214 | 224=>213 | 267=>215 | 266=>197 | 314=>234 | n=>n,fun | 9=>9 | 4=>4 | 3=>3 | 5=>5 | 46=>205 | 146=>250 | 51=>232 | n=>n,fun | 1=>3 | n=>n⟩
theorem Tryz.lays144:Go.Proofs.Lays.n144 Tryz.prog Tryz.lays144_ren:={
 mixed:=by kernel_rfl
 f143:=Xt Tryz.func163
 f144:=Xt Tryz.func127
 f217:=Xt Tryz.func162
 f219:=Xt Tryz.func189
 f224:=Xt Tryz.func213
 f225:=Xt Tryz.func214
 f266:=Xt Tryz.func197
 f267:=Xt Tryz.func215
 f314:=Xt Tryz.func234
 t3:=Tryz.underlying3
 a3:=Tryz.isAgg3
 z3:=Tryz.sizeOf3
 v3:=Tryz.zeroValue3
 t4:=Tryz.underlying4
 a4:=Tryz.isAgg4
 z4:=Tryz.sizeOf4
 v4:=Tryz.zeroValue4
 t5:=Tryz.underlying5
 a5:=Tryz.isAgg5
 z5:=Tryz.sizeOf5
 v5:=Tryz.zeroValue5
 t9:=Tryz.underlying9
 a9:=Tryz.isAgg9
 z9:=Tryz.sizeOf9
 v9:=Tryz.zeroValue9
 t46:=Tryz.underlying205
 a46:=Tryz.isAgg205
 z46:=Tryz.sizeOf205
 v46:=Tryz.zeroValue205
 t51:=Tryz.underlying232
 a51:=Tryz.isAgg232
 z51:=Tryz.sizeOf232
 v51:=Tryz.zeroValue232
 t146:=Tryz.underlying250
 a146:=Tryz.isAgg250
 z146:=Tryz.sizeOf250
 v146:=Tryz.zeroValue250
 g1:=by kernel_rfl}
def Tryz.lays137_ren:Go.Shelf.Ren:=⟨fun | 137=>125 | 217=>162 | 266=>197 | n=>n,fun | 9=>9 | 5=>5 | 3=>3 | n=>n,fun | n=>n⟩
theorem Tryz.lays137:Go.Proofs.Lays.n137 Tryz.prog Tryz.lays137_ren:={
 mixed:=by kernel_rfl
 f137:=Xt Tryz.func125
 f217:=Xt Tryz.func162
 f266:=Xt Tryz.func197
 t3:=Tryz.underlying3
 a3:=Tryz.isAgg3
 z3:=Tryz.sizeOf3
 v3:=Tryz.zeroValue3
 t5:=Tryz.underlying5
 a5:=Tryz.isAgg5
 z5:=Tryz.sizeOf5
 v5:=Tryz.zeroValue5
 t9:=Tryz.underlying9
 a9:=Tryz.isAgg9
 z9:=Tryz.sizeOf9
 v9:=Tryz.zeroValue9}
def Tryz.lays197_ren:Go.Shelf.Ren:=⟨fun | 197=>111 | 260=>153 | n=>n,fun | 9=>9 | 21=>21 | 3=>3 | 4=>4 | 5=>5 | 105=>156 | 119=>201 | 0=>0 | 46=>205 | 139=>204 | 138=>203 | n=>n,fun | 3=>0 | 4=>1 | n=>n⟩
theorem Tryz.lays197:Go.Proofs.Lays.n197 Tryz.prog Tryz.lays197_ren:={
 mixed:=by kernel_rfl
 f197:=Xt Tryz.func111
 f260:=Xt Tryz.func153
 t0:=Tryz.underlying0
 a0:=Tryz.isAgg0
 z0:=Tryz.sizeOf0
 v0:=Tryz.zeroValue0
 t3:=Tryz.underlying3
 a3:=Tryz.isAgg3
 z3:=Tryz.sizeOf3
 v3:=Tryz.zeroValue3
 t4:=Tryz.underlying4
 a4:=Tryz.isAgg4
 z4:=Tryz.sizeOf4
 v4:=Tryz.zeroValue4
 t5:=Tryz.underlying5
 a5:=Tryz.isAgg5
 z5:=Tryz.sizeOf5
 v5:=Tryz.zeroValue5
 t9:=Tryz.underlying9
 a9:=Tryz.isAgg9
 z9:=Tryz.sizeOf9
 v9:=Tryz.zeroValue9
 t21:=Tryz.underlying21
 a21:=Tryz.isAgg21
 z21:=Tryz.sizeOf21
 v21:=Tryz.zeroValue21
 t46:=Tryz.underlying205
 a46:=Tryz.isAgg205
 z46:=Tryz.sizeOf205
 v46:=Tryz.zeroValue205
 t105:=Tryz.underlying156
 a105:=Tryz.isAgg156
 z105:=Tryz.sizeOf156
 v105:=Tryz.zeroValue156
 t119:=Tryz.underlying201
 a119:=Tryz.isAgg201
 z119:=Tryz.sizeOf201
 t138:=Tryz.underlying203
 a138:=Tryz.isAgg203
 z138:=Tryz.sizeOf203
 v138:=Tryz.zeroValue203
 t139:=Tryz.underlying204
 a139:=Tryz.isAgg204
 z139:=Tryz.sizeOf204
 v139:=Tryz.zeroValue204
 g3:=by kernel_rfl
 g4:=by kernel_rfl}
def Tryz.lays196_ren:Go.Shelf.Ren:=⟨fun | 196=>143 | 259=>177 | n=>n,fun | 9=>9 | 4=>4 | 3=>3 | 5=>5 | 12=>12 | 119=>201 | 0=>0 | 46=>205 | 139=>204 | 138=>203 | 53=>209 | n=>n,fun | 3=>0 | 4=>1 | n=>n⟩
theorem Tryz.lays196:Go.Proofs.Lays.n196 Tryz.prog Tryz.lays196_ren:={
 mixed:=by kernel_rfl
 f196:=Xt Tryz.func143
 f259:=Xt Tryz.func177
 t0:=Tryz.underlying0
 a0:=Tryz.isAgg0
 z0:=Tryz.sizeOf0
 v0:=Tryz.zeroValue0
 t3:=Tryz.underlying3
 a3:=Tryz.isAgg3
 z3:=Tryz.sizeOf3
 v3:=Tryz.zeroValue3
 t4:=Tryz.underlying4
 a4:=Tryz.isAgg4
 z4:=Tryz.sizeOf4
 v4:=Tryz.zeroValue4
 t5:=Tryz.underlying5
 a5:=Tryz.isAgg5
 z5:=Tryz.sizeOf5
 v5:=Tryz.zeroValue5
 t9:=Tryz.underlying9
 a9:=Tryz.isAgg9
 z9:=Tryz.sizeOf9
 v9:=Tryz.zeroValue9
 t12:=Tryz.underlying12
 a12:=Tryz.isAgg12
 z12:=Tryz.sizeOf12
 v12:=Tryz.zeroValue12
 t46:=Tryz.underlying205
 a46:=Tryz.isAgg205
 z46:=Tryz.sizeOf205
 v46:=Tryz.zeroValue205
 t53:=Tryz.underlying209
 a53:=Tryz.isAgg209
 z53:=Tryz.sizeOf209
 v53:=Tryz.zeroValue209
 t119:=Tryz.underlying201
 a119:=Tryz.isAgg201
 z119:=Tryz.sizeOf201
 t138:=Tryz.underlying203
 a138:=Tryz.isAgg203
 z138:=Tryz.sizeOf203
 v138:=Tryz.zeroValue203
 t139:=Tryz.underlying204
 a139:=Tryz.isAgg204
 z139:=Tryz.sizeOf204
 v139:=Tryz.zeroValue204
 g3:=by kernel_rfl
 g4:=by kernel_rfl}
end Go.Proofs
end
section
namespace Go.AL.Seat
open Go Go.AL Go.Proofs Go.Shelf Go.Pd
class SeatLaid [Tabs]:Prop where
 max:∃m:Int,Tabs.tab 3 0 (.int .i64 m)
 utf:mm 0 1
variable [Tabs] [SeatLaid]
theorem CX:aj Tryz.prog 76 (p2 .str .str fun a b=>⟨some (b=pQ),none,.str (pR a),[]⟩):=xG Tryz.lays160 (by kernel_rfl) rfl (ax.mk' Tryz.func76 (by kernel_rfl))
theorem F3:aj Tryz.prog 120 (p2 .str .str fun a b=>⟨some (b=[45]/\a.length < 4294967281),none,.tup [.str (ic a),.str (lH a),.bool (n5 a)],[]⟩):=
 let ⟨_,hm⟩:=SeatLaid.max;AP Tryz.lays145 hm rfl (ax.mk' Tryz.func120 (by kernel_rfl))
theorem AQ:aj Tryz.prog 121 (p2 .str .str fun a b=>⟨some (b=[46]/\a.length < 4294967281),none,.lst .str (splitB 46 a) none,[]⟩):=
 let ⟨_,hm⟩:=SeatLaid.max;vg Tryz.lays146 (by kernel_rfl) hm rfl (ax.mk' Tryz.func121 (by kernel_rfl))
theorem tx:aj Tryz.prog 127 (p2 .str .str fun a b=>⟨some (b.length=1),none,.bool (decide (b.getD 0 0∈a)),[]⟩):=pW Tryz.lays144 rfl (ax.mk' Tryz.func127 (by kernel_rfl))
theorem rh:aj Tryz.prog 125 (p2 .str (.int .u8) fun a c=>.ret (.int .i64 (CQ a c))):=nZ Tryz.lays137 rfl (ax.mk' Tryz.func125 (by kernel_rfl))
theorem q8:aj Tryz.prog 111 (p1 .str fun s=>.ret (.tup [.int .i32 ((jl s).1:Int),.int .i64 ((jl s).2:Int)])):=n9 Tryz.lays197 SeatLaid.utf rfl (ax.mk' Tryz.func111 (by kernel_rfl))
theorem AR:aj Tryz.prog 143 (p1 .str fun s=>.ret (.bool (ke s).isNone)):=vi Tryz.lays196 SeatLaid.utf rfl (ax.mk' Tryz.func143 (by kernel_rfl))
end Go.AL.Seat
end
section
namespace Go.Proofs.YtgackciebknbeaaGreatDoor.Join
open Go.AL Go.AL.Seat Go.ChangeShapes Go.WideShapes Go.RowKit Go.Lib Go.Shelf
set_option maxRecDepth 1000000
theorem own:ownKnob Tryz.prog.godebug=none:=by kernel_rfl
theorem F4:laidOutB Tryz.prog=true:=by kernel_rfl
theorem undB:Tryz.prog.underlying 4=some .bool:=by kernel_rfl
theorem undI:Tryz.prog.underlying 3=some (.int .i64):=by kernel_rfl
theorem undS:Tryz.prog.underlying 9=some .string:=by kernel_rfl
theorem H7:Tryz.prog.readableRec 3=true:=by kernel_rfl
theorem H8:Tryz.prog.readableRec 9=true:=by kernel_rfl
theorem db:40 < Tryz.prog.types.size:=Xo (by kernel_rfl)
def laid:List (String × DataW Unit):=Rows.evalLetsRow.laid
theorem H9:(Rows.laid_unicode_utf8_acceptRanges:DataW Unit)=acceptData:=by kernel_rfl
theorem Ha {W:World} (h:W.ShapedOpen Tryz.prog):∃m,W.cell? ⟨3,0,none⟩=some (.int .i64 m):=
 cell_of_shapedOpen_int (t:=3) (zero:=#[.int .i64 0]) h (Xo (by kernel_rfl)) (by kernel_rfl) rfl (by kernel_rfl) (by kernel_rfl) undI
theorem kg {W:World} (h:laidMet Tryz.prog laid W):Utf8Tabs 0 1 W:=
 utf8Tabs_of_readsT (ρ:=Tryz.lays196_ren) (U8Types.of196 Tryz.lays196) ⟨by kernel_rfl,by kernel_rfl,by kernel_rfl,by kernel_rfl,by kernel_rfl,by kernel_rfl,by kernel_rfl⟩
  (Pinned.utf8First_eq ▸ laidMet.reads h (by simp [laid,Rows.evalLetsRow,Rows.laid_unicode_utf8_first])) (H9 ▸ laidMet.reads h (by simp [laid,Rows.evalLetsRow]))
theorem CY {W:World} (h:laidMet Tryz.prog laid W) (hs:W.ShapedOpen Tryz.prog):@SeatLaid (k9 W):=by
 letI:Tabs:=k9 W
 obtain ⟨m,hm⟩:=Ha hs
 obtain ⟨u1,u2⟩:=kg h
 exact ⟨⟨m,by decide,hm⟩,fun c hc=>⟨by decide,u1 c hc⟩,fun i hi=>⟨⟨by decide,(u2 i hi).1⟩,by decide,(u2 i hi).2⟩⟩
theorem F5:(Rows.laid_internal_strconv_uint64pow10:DataW Unit)=tabData .u64 pow10Tab:=by
 simp only [tabData,pow10Tab]
 rfl
theorem Hb {W:World} (h:laidMet Tryz.prog laid W):TabIs Tryz.prog W "internal/strconv.uint64pow10" .u64 pow10Tab:=by
 obtain ⟨g,t,cs,fuel,p,hg,hty,hvar,hd⟩:=laidMet.reads h (n:= "internal/strconv.uint64pow10") (d:=Rows.laid_internal_strconv_uint64pow10) (by simp [laid,Rows.evalLetsRow])
 obtain rfl:=Option.some.inj ((show Tryz.prog.globalNamed "internal/strconv.uint64pow10"=some 2 by kernel_rfl).symm.trans hg)
 obtain rfl:=Option.some.inj ((show (Tryz.prog.globals[2]?).map (·.type)=some 231 by kernel_rfl).symm.trans hty)
 rw [F5] at hd
 have hcs:=cells_of_tab (P:=Tryz.prog) (n:=20) (show Tryz.prog.underlying 231=some (.array 20 209) by kernel_rfl) (show Tryz.prog.underlying 209=some (.int .u64) by kernel_rfl) (by kernel_rfl) (by kernel_rfl) hd
 unfold TabIs
 rw [hvar,←hcs]
theorem F6 {W:World} (h:laidMet Tryz.prog laid W):@SeatPow (k9 W):=by
 letI:Tabs:=k9 W
 have hp:=Hb h
 unfold TabIs World.var? at hp
 rw [show Tryz.prog.globalNamed "internal/strconv.uint64pow10"=some 2 by kernel_rfl] at hp
 simp only [Option.bind_some] at hp
 refine ⟨?_⟩
 unfold tw
 cases hw:W.heap[2]? with
 | none=>rw [hw] at hp;cases hp
 | some o=>
  rw [hw] at hp
  cases o with
  | cells cs t fz=>
   obtain rfl:=Option.some.inj hp
   exact ⟨t,fz,by decide,hw⟩
  | _=>cases hp
def z32:List Int:=[0,1,28,2,29,14,24,3,30,22,20,15,25,17,4,8,31,27,13,23,21,19,16,7,26,12,18,6,11,5,10,9]
def z64:List Int:=[0,1,56,2,57,49,28,3,61,58,42,50,38,29,17,4,62,47,59,36,45,43,51,22,53,39,33,30,24,18,12,5,63,55,48,27,60,41,37,16,46,35,44,21,52,32,23,11,54,26,40,15,34,20,31,10,25,14,19,9,13,8,7,6]
def zPow:List Int:=[1,10,100,1000,10000,100000,1000000,10000000,100000000,1000000000,10000000000,100000000000,1000000000000,10000000000000,100000000000000,1000000000000000,10000000000000000,100000000000000000,1000000000000000000,10000000000000000000]
def zAcc:List Int:=[128,191,160,191,128,159,144,191,128,143,0,0,0,0,0,0,0,0,0,0,0,0,0,0,0,0,0,0,0,0,0,0]
def Gk:List Int:=List.map Int.ofNat Pinned.utf8FirstZ
noncomputable def kL (os:Os):World:=
 let N:=(World.settled Tryz.prog os).heap.size
 let w0:=World.holding Tryz.prog os ⟨#[.cells #[.string ⟨#[118,97,108,117,101,32,111,117,116,32,111,102,32,114,97,110,103,101]⟩] 256,.cells #[.string ⟨#[105,110,118,97,108,105,100,32,115,121,110,116,97,120]⟩] 256],#[],[]⟩
 let put (h:Array Obj) (g:Nat) (cs:Array Value):Array Obj:=h.modify g fun
  | .cells _ t frozen=>.cells cs t frozen
  | o=>o
 let h0:=put (put w0.heap 4 #[.iface 254 (.pointer (some ⟨N+1,0,none⟩))]) 5 #[.iface 254 (.pointer (some ⟨N,0,none⟩))]
 let h1:=put (put (put h0 2 (zPow.map (Value.int .u64)).toArray) 6 (z32.map (Value.int .u8)).toArray) 7 (z64.map (Value.int .u8)).toArray
 let h2:=put (put h1 0 (Gk.map (Value.int .u8)).toArray) 1 (zAcc.map (Value.int .u8)).toArray
 {w0 with heap:=h2}
noncomputable abbrev N0:Nat:=(World.settled Tryz.prog default).heap.size
theorem Gl (os:Os) (args:Array Value):LaidIn Tryz.prog ((kL os).forCall (fun _ _=>0) ⟨#[],args,[]⟩).memory laid [6,7,2,1,5,N0,4,N0+1,0]:=
 LaidIn.of_run [6,7,2,1,5,N0,4,N0+1,0] 10 (by kernel_rfl) (by kernel_rfl) (by kernel_rfl) (by kernel_rfl)
theorem CZ (os:Os) (args:Array Value):laidMet Tryz.prog laid ((kL os).forCall (fun _ _=>0) ⟨#[],args,[]⟩).memory:=(Gl os args).met
end Go.Proofs.YtgackciebknbeaaGreatDoor.Join
end
section
namespace Go.Pd
open Go.AL
def cn (b:UInt8):Bool:=!(decide (bI b < 32) && !decide (bI b=10) && !decide (bI b=9))
def fI (s:Str):Bool:=s.all cn && (ke s).isNone
def bj (s:Shape):Bool:=decide (cb s=0) && allS aL s
def dN (t:Trm) (n v s p:Nat):Bool:=decide (t.names.length=n) && decide (t.vars.length=v) && decide (t.shapes.length=s) && decide (t.parts.length=p)
def eD (t:Trm):Bool:=decide (0<=t.pos) && (decide (t.n=0) || decide (t.kind=1)) && (decide (t.pkg=[]) || decide (t.kind=5)) && t.shapes.all bj
def dR (l:List Str):Bool:=l.all al && decide l.Nodup
def gY (t:Trm):Bool:=
 if t.kind=1 then decide (t.name=[]) && decide (0<=t.n) && decide (t.n<=999999999999999) && dN t 0 0 0 0
 else if t.kind=2 then fI t.name && dN t 0 0 0 0
 else if t.kind=3∨t.kind=4 then decide (t.name=[]) && dN t 0 0 0 0
 else if t.kind=5 then al t.name && (decide (t.pkg=[]) || al t.pkg) && dN t 0 0 0 0
 else if t.kind=6 then decide (t.name=[]) && decide (t.names.length<=4096) && dR t.names && dN t t.names.length 0 t.names.length 1
 else if t.kind=7 then decide (t.name=[]) && decide (0 < t.parts.length) && dN t 0 0 0 t.parts.length
 else if t.kind=8 then decide (t.name=[]) && dR t.names && dN t t.names.length 0 0 t.names.length
 else if t.kind=9∨t.kind=10 then al t.name && dN t 0 0 0 1
 else if t.kind=11 then decide (t.name=[]) && dN t 0 0 1 t.parts.length
 else if t.kind=12 then decide (t.name=[]) && dN t 0 0 1 3
 else if t.kind=13 then decide (t.name=[]) && dR t.names && t.vars.all al && dN t t.names.length t.names.length (t.names.length+1) (t.names.length+1)
 else if t.kind=14 then al t.name && dN t 0 0 0 2
 else if t.kind=15 then decide (t.name=[]) && dN t 0 0 1 1
 else if t.kind=16∨t.kind=17 then aD t.name && dN t 0 0 0 1
 else false
def ai (t:Trm):Bool:=eD t && gY t
mutual
def allT (f:Trm→Bool):Trm→Bool
 | ⟨k,g,q,z,ns,vs,ss,ps,pp⟩=>f ⟨k,g,q,z,ns,vs,ss,ps,pp⟩ && allTL f ps
def allTL (f:Trm→Bool):List Trm→Bool
 | []=>true
 | p ::r=>allT f p && allTL f r
end
theorem allT_eq (f:Trm→Bool) (t:Trm):allT f t=(f t && allTL f t.parts):=by cases t;rw [allT]
theorem allTL_all (f:Trm→Bool):∀l:List Trm,allTL f l=l.all (allT f)
 | []=>rfl
 | p ::r=>by rw [List.all_cons,←allTL_all f r];rw [allTL]
def bF (t:Trm):Bool:=allT (fun x=>decide (x.names.length<=8796093022208)) t
theorem AT {t x:Trm} (h:bF t=true) (hx:x∈t.parts):bF x=true:=by
 unfold bF at h ⊢
 rw [allT_eq,Bool.and_eq_true,allTL_all] at h
 exact List.all_eq_true.1 h.2 x hx
theorem xI {t:Trm} (h:bF t=true):t.names.length<=8796093022208:=by
 unfold bF at h
 rw [allT_eq,Bool.and_eq_true] at h
 exact Xo h.1
def bw (t:Trm):Int:=
 if 4096 < (countT t 4096).1 then 3 else if 40 < (countT t 4096).2 then 91 else if allT ai t=true then 0 else 80
end Go.Pd
namespace Go.Pd
open Go.AL
theorem dnZ (n:Nat):decide ((n:Int)=0)=decide (n=0):=decide_eq_decide.2 (by omega)
theorem dn1 (n:Nat):decide ((n:Int)=1)=decide (n=1):=decide_eq_decide.2 (by omega)
theorem dn2 (n:Nat):decide ((n:Int)=2)=decide (n=2):=decide_eq_decide.2 (by omega)
theorem dn3 (n:Nat):decide ((n:Int)=3)=decide (n=3):=decide_eq_decide.2 (by omega)
theorem dnN (n m:Nat):decide ((n:Int)=(m:Int))=decide (n=m):=decide_eq_decide.2 (by omega)
theorem dnS (n m:Nat):decide ((n:Int)=(m:Int)+1)=decide (n=m+1):=decide_eq_decide.2 (by omega)
theorem dnL (n:Nat):decide ((n:Int)<=4096)=decide (n<=4096):=decide_eq_decide.2 (by omega)
theorem dnP (n:Nat):decide ((0:Int) < (n:Int))=decide (0 < n):=decide_eq_decide.2 (by omega)
theorem vj (s:Str) (k:Nat) (h:k < s.length):(bn s).getD k (dfl (Ty.int IntKind.u8))=bI (s.getD k 0):=by
 unfold bn
 simp [List.getD_eq_getElem?_getD,h,bI]
theorem rT (b:UInt8):cn b=false↔(bI b < 32/\bI b≠10/\bI b≠9):=by
 unfold cn
 simp only [Bool.not_eq_false',Bool.and_eq_true,decide_eq_true_eq,Bool.not_eq_true',decide_eq_false_iff_not]
 omega
end Go.Pd
end
noncomputable section
namespace Go.AL
open Go.ChangeShapes Go.WideShapes Go.RowKit
variable [Tabs]
structure GoodR {H:Type} (P:Program) (N M:Nat) (g:TypeId→DataW H→Prop):Prop where
 str:∀t s,P.underlying t=some .string→g t (.lit (.string s))→s.length<=M
 len:∀t e es sp,P.underlying t=some (.slice e)→g t (.slice es sp)→16<=P.bytesOf e→es.length<=N
 el:∀t e es sp,P.underlying t=some (.slice e)→g t (.slice es sp)→∀x∈es,g e x
 part:∀t fs ps,P.underlying t=some (.struct fs)→g t (.agg ps)→∀(i:Nat) (f:Field) p,fs[i]?=some f→ps[i]?=some p→g f.type p
variable {H:Type} {enc:TypeId × Value→H} {P:Program} {w:World} {base:Nat} {held:Bool}
theorem Gm {N M:Nat} {g:TypeId→DataW H→Prop} (hb:GoodR P N M g) {t e:TypeId} {τ:Ty} {Q:den τ→Prop} {fuel:Nat} {cs:List Value} {x:DataW H × List MemPlace} (ht:P.underlying t=some (.slice e)) (hc:P.cellsOf e=ag τ) (h:DataW.trod enc P w base (fun _=>true) held fuel t cs=some x) (hg:g t x.1)
  (hel:∀(n:Nat) (ds:List Value) (y:DataW H × List MemPlace),fuel=n+1→DataW.trod enc P w base (fun _=>true) held n e ds=some y→g e y.1→∃z:den τ,VL (Om0 w) (cells τ z) ds/\Q z)
  (hsp:∀a len cap,cs=[.slice (some a) len cap]→a.spot=none):∃(l:List (den τ)) (v:Value),cs=[v]/\V (Om0 w) (.lst τ l none) v/\(16<=P.bytesOf e→l.length<=N)/\∀z∈l,Q z:=by
 rcases DataW.trod_slice ht h with ⟨rfl,_⟩ | ⟨a,len,cap,elems,rest,n,hfu,rfl,hx,_,hlc,hcm,hlen,hels,_,_⟩
 ·exact ⟨[],_,rfl,.lstNil τ none (fun id hid=>by cases hid),fun _=>Nat.zero_le _,fun z hz=>by cases hz⟩
 ·have hs:=hsp a len cap rfl
  obtain ⟨bl,off,spot⟩:=a
  simp only at hs
  subst hs
  have each:∀i,i < len→∃z:den τ,∃ds:List Value,ds.length=ag τ/\(∀j,j < ag τ→w.cell? ⟨bl,off+(i *ag τ+j),none⟩=ds[j]?)/\VL (Om0 w) (cells τ z) ds/\Q z:=by
   intro i hi
   have h1:=hels i hi
   obtain ⟨y,hy⟩:∃y,elems[i]?=some y:=⟨_,List.getElem?_eq_getElem (by omega)⟩
   rw [hy,hc,Option.bind_eq_some_iff] at h1
   obtain ⟨ds,hd,hy'⟩:=h1
   obtain ⟨_,hdl,hdc⟩:=World.cells?_some hd
   obtain ⟨z,hz,hq⟩:=hel n ds y hfu hy' (by
    rw [hx] at hg
    exact hb.el _ _ _ _ ht hg _ (List.mem_map_of_mem (List.mem_of_getElem? hy)))
   refine ⟨z,ds,hdl,fun j hj=>?_,hz,hq⟩
   have:=hdc j hj
   have ha:∀(o n:Nat),(⟨bl,o,none⟩:Addr).add n=⟨bl,o+n,none⟩:=by
    intro o n
    unfold Addr.add
    by_cases h0:n=0
    ·subst h0;rfl
    ·rw [if_neg h0]
   rw [ha,ha,Nat.add_assoc] at this
   exact this
  have hz:∃l:List (den τ),l.length=len/\∀i z,l[i]?=some z→∃ds:List Value,ds.length=ag τ/\(∀j,j < ag τ→w.cell? ⟨bl,off+(i *ag τ+j),none⟩=ds[j]?)/\VL (Om0 w) (cells τ z) ds/\Q z:=by
   refine ⟨(List.range len).attach.map fun i=>(each i.1 (List.mem_range.1 i.2)).choose,by simp,fun i z hi=>?_⟩
   have hil:i < len:=by
    have:=(List.getElem?_eq_some_iff.1 hi).1
    simpa using this
   simp only [List.getElem?_map,Option.map_eq_some_iff] at hi
   obtain ⟨⟨k,hk⟩,h1,h2⟩:=hi
   have hki:k=i:=by
    have:=List.getElem?_eq_some_iff.1 h1
    obtain ⟨_,e⟩:=this
    have:=congrArg Subtype.val e
    simpa using this.symm
   subst hki
   rw [←h2]
   exact (each k (List.mem_range.1 hk)).choose_spec
  obtain ⟨l,hll,hle⟩:=hz
  have hQ:∀z∈l,Q z:=fun z hz=>by
   obtain ⟨i,hi⟩:=List.getElem?_of_mem hz
   obtain ⟨_,_,_,_,hq⟩:=hle i z hi
   exact hq
  have hL:16<=P.bytesOf e→l.length<=N:=fun h16=>by
   rw [hx] at hg
   rw [hll,←hlen]
   have:=hb.len _ _ _ _ ht hg h16
   rwa [List.length_map] at this
  refine ⟨l,_,rfl,?_,hL,hQ⟩
  have key:=V.lst (Ω:=Om0 w) τ l none bl off cap (fun i j=>(w.cell? ⟨bl,off+(i *ag τ+j),none⟩).getD undef) (by omega) (by unfold maxLen at hcm;unfold bA;omega) (fun id hid=>by cases hid) (fun i z hz j c hj=>?_) (fun i z hz j c hj=>?_)
  ·rw [hll] at key
   exact key
  ·obtain ⟨ds,d1,d2,d3,_⟩:=hle i z hz
   have hjw:j < ag τ:=by
    rw [←aQ τ z]
    exact (List.getElem?_eq_some_iff.1 hj).1
   have hv:w.cell? ⟨bl,off+(i *ag τ+j),none⟩=some ds[j]:=by rw [d2 j hjw];exact List.getElem?_eq_getElem (by omega)
   refine ⟨⟨_,hv⟩,?_⟩
   show w.cell? _=_
   rw [hv];rfl
  ·obtain ⟨ds,d1,d2,d3,_⟩:=hle i z hz
   have hjw:j < ag τ:=by
    rw [←aQ τ z]
    exact (List.getElem?_eq_some_iff.1 hj).1
   have hd:ds[j]?=some ds[j]:=List.getElem?_eq_getElem (by omega)
   rw [d2 j hjw,hd]
   exact d3.2 j c ds[j] hj hd
theorem zI {N M:Nat} {g:TypeId→DataW H→Prop} (hb:GoodR P N M g) {t e:TypeId} {τ:Ty} {Q:den τ→Prop} {fuel:Nat} {cs:List Value} {x:DataW H × List MemPlace} (ht:P.underlying t=some (.slice e)) (hc:P.cellsOf e=ag τ) (hw:0 < ag τ)
  (h:DataW.trod enc P w base (fun _=>true) held fuel t cs=some x) (hg:g t x.1)
  (hel:∀(n:Nat) (ds:List Value) (y:DataW H × List MemPlace),fuel=n+1→DataW.trod enc P w base (fun _=>true) held n e ds=some y→g e y.1→∃z:den τ,VL (Om0 w) (cells τ z) ds/\Q z) :
  ∃(l:List (den τ)) (v:Value),cs=[v]/\V (Om0 w) (.lst τ l none) v/\(16<=P.bytesOf e→l.length<=N)/\∀z∈l,Q z:=by
 have h0:=h
 rcases DataW.trod_slice ht h with ⟨rfl,_⟩ | ⟨a,len,cap,elems,rest,n,hfu,rfl,_,_,hlc,hcm,hlen,hels,hrest,_⟩
 ·exact ⟨[],_,rfl,.lstNil τ none (fun id hid=>by cases hid),fun _=>Nat.zero_le _,fun z hz=>by cases hz⟩
 ·by_cases hcap:cap=0
  ·have:len=0:=by omega
   subst hcap this
   exact ⟨[],_,rfl,.lstVoid τ a,fun _=>Nat.zero_le _,fun z hz=>by cases hz⟩
  ·refine Gm hb ht hc h0 hg hel fun a' len' cap' e'=>?_
   simp only [List.cons.injEq,Value.slice.injEq,Xs,and_true] at e'
   obtain ⟨rfl,rfl,rfl⟩:=e'
   have hr:∃(ad:Addr) (y:DataW H × List MemPlace),ad=a/\(w.cells? base ad (P.cellsOf e)).bind (DataW.trod enc P w base (fun _=>true) held n e)=some y:=by
    by_cases hl:len=0
    ·obtain ⟨r1,r2⟩:=hrest rfl
     have:=r2 0 (by omega)
     rw [hl] at this
     refine ⟨_,_,?_,this.trans (List.getElem?_eq_getElem (by omega))⟩
     simp [Addr.add]
    ·have:=hels 0 (by omega)
     refine ⟨_,_,?_,this.trans (List.getElem?_eq_getElem (by omega))⟩
     simp [Addr.add]
   obtain ⟨ad,y,rfl,hy⟩:=hr
   rw [Option.bind_eq_some_iff] at hy
   obtain ⟨ds,hd,_⟩:=hy
   obtain ⟨_,hdl,hdc⟩:=World.cells?_some hd
   have:=hdc 0 (by rw [hc];exact hw)
   have ha:ad.add 0=ad:=by simp [Addr.add]
   rw [ha,List.getElem?_eq_getElem (by rw [hdl,hc];exact hw)] at this
   unfold World.cell? at this
   split at this
   ·split at this
    ·cases this
    ·rename_i hs
     cases hsp:ad.spot
     ·rfl
     ·rw [hsp] at hs;exact absurd rfl hs
   ·cases this
theorem D0 {N M:Nat} {g:TypeId→DataW H→Prop} (hb:GoodR P N M g) {sp:Nat→Bool} {t:TypeId} {fs:Array Field} {fuel:Nat} {cs:List Value} {x:DataW H × List MemPlace} (ht:P.underlying t=some (.struct fs)) (h:DataW.trod enc P w base sp held fuel t cs=some x) (hg:g t x.1) :
  ∃n,fuel=n+1/\cs.length=P.cellsOf t/\∀(i:Nat) (f:Field),fs[i]?=some f→∃y,DataW.trod enc P w base sp held n f.type ((cs.drop f.offset).take (P.cellsOf f.type))=some y/\g f.type y.1:=by
 obtain ⟨xs,n,hn,hx,hl,hs,hf⟩:=DataW.trod_struct ht h
 refine ⟨n,hn,hl,fun i f hif=>?_⟩
 have hi:i < xs.length:=by
  rw [hs]
  rcases Nat.lt_or_ge i fs.size with k | k
  ·exact k
  ·rw [Array.getElem?_eq_none k] at hif;cases hif
 refine ⟨xs[i],by rw [hf i f hif];exact List.getElem?_eq_getElem hi,?_⟩
 rw [hx] at hg
 exact hb.part _ _ _ ht hg i f _ hif (by rw [List.getElem?_map,List.getElem?_eq_getElem hi];rfl)
theorem Gn {N M:Nat} {g:TypeId→DataW H→Prop} (hb:GoodR P N M g) {sp:Nat→Bool} {t:TypeId} {fuel:Nat} {cs:List Value} {x:DataW H × List MemPlace} (ht:P.underlying t=some .string) (h:DataW.trod enc P w base sp held fuel t cs=some x) (hg:g t x.1) :
  ∃(s:Str) (v:Value),cs=[v]/\V (Om0 w) (.str s) v/\s.length<=M:=by
 obtain ⟨s,rfl,hx,hw⟩:=DataW.trod_string ht h
 refine ⟨s.data.toList,_,rfl,?_,by rw [hx] at hg;exact hb.str _ _ ht hg⟩
 have e:s=⟨s.data.toList.toArray⟩:=by cases s;simp
 have hl:s.data.toList.length<=bA:=by
  have:s.data.size=s.size:=rfl
  unfold maxLen at hw
  unfold bA
  simp only [Array.length_toList,this]
  omega
 have:=V.str (Ω:=Om0 w) s.data.toList hl
 rw [←e] at this
 exact this
structure TermAt (P:Program) (t:TypeId):Prop where
 ex:∃(f0 f1 f2 f3 f4 f5 f6 f7 f8:Field) (e g:TypeId),P.underlying t=some (.struct #[f0,f1,f2,f3,f4,f5,f6,f7,f8])/\P.cellsOf t=9/\
  (f0.offset=0/\f1.offset=1/\f2.offset=2/\f3.offset=3/\f4.offset=4/\f5.offset=5/\f6.offset=6/\f7.offset=7/\f8.offset=8)/\
  (P.cellsOf f0.type=1/\P.cellsOf f1.type=1/\P.cellsOf f2.type=1/\P.cellsOf f3.type=1/\P.cellsOf f4.type=1/\P.cellsOf f5.type=1/\P.cellsOf f6.type=1/\P.cellsOf f7.type=1/\P.cellsOf f8.type=1)/\
  (P.underlying f0.type=some (.int .i64)/\P.underlying f1.type=some .string/\P.underlying f2.type=some .string/\P.underlying f3.type=some (.int .i64)/\P.underlying f4.type=some (.slice e)/\P.underlying f5.type=some (.slice e)/\
   P.underlying f6.type=some (.slice g)/\P.underlying f7.type=some (.slice t)/\P.underlying f8.type=some (.int .i64))/\(P.underlying e=some .string/\P.cellsOf e=1/\P.bytesOf e=16)/\ShapeAt P g
def nc (N M:Nat) (x:Trm):Bool:=decide (x.names.length<=N) && decide (x.name.length<=M)
theorem Gp {N M:Nat} {g:TypeId→DataW H→Prop} (hb:GoodR P N M g) {t:TypeId} (hs:TermAt P t):∀(fuel:Nat) (cs:List Value) (x:DataW H × List MemPlace),DataW.trod enc P w base (fun _=>true) held fuel t cs=some x→g t x.1→
  ∃s:Trm,VL (Om0 w) (cells (.st .term) s) cs/\Pd.allT (nc N M) s=true:=by
 obtain ⟨f0,f1,f2,f3,f4,f5,f6,f7,f8,e,e6,ht,hc,⟨o0,o1,o2,o3,o4,o5,o6,o7,o8⟩,⟨c0,c1,c2,c3,c4,c5,c6,c7,c8⟩,⟨u0,u1,u2,u3,u4,u5,u6,u7,u8⟩,⟨us,ce,b16⟩,hg⟩:=hs
 have cg:P.cellsOf e6=ag (.st .shape):=by obtain ⟨_,_,_,_,_,_,_,hc,_⟩:=hg;rw [hc];rfl
 intro fuel
 induction fuel using Nat.strongRecOn with
 | _ fuel ih=>
 intro cs x h hN
 obtain ⟨n,hn,hl,hf⟩:=D0 hb ht h hN
 rw [hc] at hl
 obtain ⟨y0,h0,_⟩:=hf 0 f0 rfl
 obtain ⟨y1,h1,_⟩:=hf 1 f1 rfl
 obtain ⟨y2,h2,b2⟩:=hf 2 f2 rfl
 obtain ⟨y3,h3,_⟩:=hf 3 f3 rfl
 obtain ⟨y4,h4,b4⟩:=hf 4 f4 rfl
 obtain ⟨y5,h5,_⟩:=hf 5 f5 rfl
 obtain ⟨y6,h6,_⟩:=hf 6 f6 rfl
 obtain ⟨y7,h7,b7⟩:=hf 7 f7 rfl
 obtain ⟨y8,h8,_⟩:=hf 8 f8 rfl
 match cs,hl with
 | [a0,a1,a2,a3,a4,a5,a6,a7,a8],_=>
  rw [o0,c0] at h0
  rw [o1,c1] at h1
  rw [o2,c2] at h2
  rw [o3,c3] at h3
  rw [o4,c4] at h4
  rw [o5,c5] at h5
  rw [o6,c6] at h6
  rw [o7,c7] at h7
  rw [o8,c8] at h8
  simp only [List.drop_zero,List.drop_succ_cons,List.take_succ_cons,List.take_zero] at h0 h1 h2 h3 h4 h5 h6 h7 h8
  obtain ⟨k,e0,v0⟩:=zG u0 h0
  obtain ⟨p,w1,e1,v1⟩:=uT u1 h1
  obtain ⟨m,w2,e2,v2,l2⟩:=Gn hb u2 h2 b2
  obtain ⟨z,e3,v3⟩:=zG u3 h3
  have strs:∀(n:Nat) (ds:List Value) (y:DataW H × List MemPlace),DataW.trod enc P w base (fun _=>true) held n e ds=some y→∃z:den .str,VL (Om0 w) (cells .str z) ds:=fun n ds y hy=>by
   obtain ⟨s,v,rfl,hv⟩:=uT us hy
   exact ⟨s,VL.cons hv .nil⟩
  obtain ⟨ns,w4,e4,v4,l4,_⟩:=zI (τ:=.str) (Q:=fun _=>True) hb u4 ce (by decide) h4 b4 (fun n ds y _ hy _=>by obtain ⟨z,hz⟩:=strs n ds y hy;exact ⟨z,hz,trivial⟩)
  obtain ⟨vs,w5,e5,v5⟩:=tl (τ:=.str) u5 ce (by decide) h5 (fun n ds y _ hy=>strs n ds y hy)
  obtain ⟨ss,w6,e6,v6⟩:=tl (τ:=.st .shape) u6 cg (by decide) h6 (fun n ds y _ hy=>EX hg n ds y hy)
  obtain ⟨ps,w7,e7,v7,_,q7⟩:=zI (τ:=.st .term) (Q:=fun s=>Pd.allT (nc N M) s=true) hb u7 (by rw [hc];rfl) (by decide) h7 b7 (fun k ds y hk hy hle=>ih k (by omega) ds y hy hle)
  obtain ⟨at_,e8,v8⟩:=zG u8 h8
  simp only [List.cons.injEq,and_true] at e0 e1 e2 e3 e4 e5 e6 e7 e8
  subst e0 e1 e2 e3 e4 e5 e6 e7 e8
  refine ⟨⟨k,p,m,z,ns,vs,ss,ps,at_⟩,VL.cons v0 (VL.cons v1 (VL.cons v2 (VL.cons v3 (VL.cons v4 (VL.cons v5 (VL.cons v6 (VL.cons v7 (VL.cons v8 .nil)))))))),?_⟩
  rw [Pd.allT_eq,Bool.and_eq_true,Pd.allTL_all,List.all_eq_true]
  refine ⟨?_,q7⟩
  unfold nc
  rw [Xd (show ns.length<=N from l4 (Nat.le_of_eq b16.symm)),Xd (show m.length<=M from l2)]
  rfl
theorem AU {N M:Nat} {g:TypeId→DataW H→Prop} (hb:GoodR P N M g) {t:TypeId} (hs:TermAt P t) {r:Reach} {b0:Nat} {v:Value} {d:DataW H} {ps:List MemPlace} (hv:Value.okWide P w r b0 t v) (h:DataW.Trod enc P w base (fun _=>true) held t v d ps) (hg:g t d):∃s:Trm,V (Om0 w) (.st .term s) v/\Pd.allT (nc N M) s=true:=by
 obtain ⟨fu,h⟩:=h
 obtain ⟨s,hs',hq⟩:=Gp hb hs _ _ _ h hg
 refine ⟨s,.st .term s v ?_,hq⟩
 have hl:=hs'.1
 have hc:(cells (.st .term) s).length=9:=rfl
 rw [hc] at hl
 cases v with
 | agg vs=>
  have:=V.of_agg hs'
  simpa [Value.cells] using this
 | _=>simp [Value.cells] at hl
end Go.AL
end
section
namespace Go.Pd
open Go.AL
abbrev SR3:=Shape × Int × Flt
abbrev TR3:=Trm × Int × Flt
end Go.Pd
end
section
namespace Go.Pd
open Go.AL
abbrev st (l:List Tokn) (a:Int):PS:=⟨l,a,0,0⟩
variable {l:List Tokn}
section
variable {l:List Tokn} {R:PS→Shape × PS} {R':Int→SR3}
end
end Go.Pd
end
section
namespace Go.AL
variable [Tabs]
section
variable {P:Program}
def p4 (τ σ ρ μ:Ty) (F:den τ→den σ→den ρ→den μ→Ans):Pat
 | [a,b,c,d],[]=>(match arg τ a,arg σ b,arg ρ c,arg μ d with | some a,some b,some c,some d=>some (F a b c d) | _,_,_,_=>none)
 | _,_=>none
def p5 (τ σ ρ μ ν:Ty) (F:den τ→den σ→den ρ→den μ→den ν→Ans):Pat
 | [a,b,c,d,e],[]=>(match arg τ a,arg σ b,arg ρ c,arg μ d,arg ν e with | some a,some b,some c,some d,some e=>some (F a b c d e) | _,_,_,_,_=>none)
 | _,_=>none
theorem Hc {f:Nat} {τ σ ρ μ:Ty} {F:den τ→den σ→den ρ→den μ→Ans} (he:ax P f)
  (h:∀x y z u,Wf τ x→Wf σ y→Wf ρ z→(∀q,(F x y z u).ob=some q→q)→aw P f [inj τ x,inj σ y,inj ρ z,inj μ u] [] (F x y z u)):aj P f (p4 τ σ ρ μ F):=by
 intro args S A hA ho _
 unfold p4 at hA
 split at hA
 ·split at hA
  ·rename_i x y z u hx hy hz hu
   simp at hA
   subst hA
   exact ⟨he,aw.args (.cons (Rd.arg hx) (.cons (Rd.arg hy) (.cons (Rd.arg hz) (.cons (Rd.arg hu) .nil)))) (aw.wf fun hw=>h x y z u hw.one hw.two hw.three ho)⟩
  ·cases hA
 ·cases hA
theorem Hd {f:Nat} {τ σ ρ μ ν:Ty} {F:den τ→den σ→den ρ→den μ→den ν→Ans} (he:ax P f)
  (h:∀x y z u v,Wf τ x→Wf σ y→Wf ρ z→(∀q,(F x y z u v).ob=some q→q)→aw P f [inj τ x,inj σ y,inj ρ z,inj μ u,inj ν v] [] (F x y z u v)):aj P f (p5 τ σ ρ μ ν F):=by
 intro args S A hA ho _
 unfold p5 at hA
 split at hA
 ·split at hA
  ·rename_i x y z u v hx hy hz hu hv
   simp at hA
   subst hA
   exact ⟨he,aw.args (.cons (Rd.arg hx) (.cons (Rd.arg hy) (.cons (Rd.arg hz) (.cons (Rd.arg hu) (.cons (Rd.arg hv) .nil))))) (aw.wf fun hw=>h x y z u v hw.one hw.two hw.three ho)⟩
  ·cases hA
 ·cases hA
end
end Go.AL
end
section
namespace Go.Pd
open Go.AL
mutual
def sizeF:Shape→Int→Int
 | ⟨_,_,_,_,ps⟩,m=>sizeL ps 1 m
def sizeL:List Shape→Int→Int→Int
 | [],n,_=>n
 | p ::r,n,m=>if n<=m then sizeL r (n+sizeF p (m - n)) m else n
end
mutual
theorem sizeF_bd:∀(s:Shape) (m:Int),0<=m→1<=sizeF s m/\sizeF s m<=m+1
 | ⟨_,_,_,_,ps⟩,m,h=>by
  simp only [sizeF]
  exact sizeL_bd ps 1 m (by omega) (by omega)
theorem sizeL_bd:∀(l:List Shape) (n m:Int),1<=n→n<=m+1→1<=sizeL l n m/\sizeL l n m<=m+1
 | [],n,m,h1,h2=>by simp only [sizeL];omega
 | p ::r,n,m,h1,h2=>by
  simp only [sizeL]
  split
  ·have:=sizeF_bd p (m - n) (by omega)
   exact sizeL_bd r _ m (by omega) (by omega)
  ·omega
end
def cG:Str→Nat
 | []=>0
 | b ::r=>if dy (bI b)=true then cG r+1 else 0
theorem rU:∀s:Str,(cG s=s.length↔(s.all fun c=>dy (bI c))=true)
 | []=>by simp [cG]
 | b ::r=>by
  simp only [cG,List.length_cons,List.all_cons,Bool.and_eq_true]
  by_cases h:dy (bI b)=true
  ·rw [if_pos h,←rU r]
   constructor
   ·intro e;exact ⟨h,by omega⟩
   ·rintro ⟨_,e⟩;omega
  ·rw [if_neg h]
   constructor
   ·intro e;omega
   ·rintro ⟨e,_⟩;exact absurd e h
theorem nR (first:Int→Bool) (s:Str):bZ first s=(!decide (s=[]) && decide (s.length<=24) && first (bI (s.getD 0 0)) && decide (cG s=s.length)):=by
 unfold bZ
 congr 1
 rw [Bool.eq_iff_iff,decide_eq_true_eq]
 exact (rU s).symm
def eU (ns:List Str) (n:Int):Bool:=decide ((ns.length:Int)=n) && ns.all al && decide ns.Nodup
mutual
def deepF:Shape→Nat
 | ⟨_,_,_,_,ps⟩=>maxDeep ps+1
def maxDeep:List Shape→Nat
 | []=>0
 | p ::r=>max (deepF p) (maxDeep r)
end
mutual
theorem deepS_F:∀(s:Shape) (l:Int),deepS s l=l+deepF s - 1
 | ⟨_,_,_,_,ps⟩,l=>by
  simp only [deepS,deepF]
  rw [deepL_F ps (l+1) l (by omega)]
  omega
theorem deepL_F:∀(ps:List Shape) (m d:Int),m - 1<=d→deepL ps m d=max d (m+maxDeep ps - 1)
 | [],m,d,h=>by simp only [deepL,maxDeep];omega
 | p ::r,m,d,h=>by
  simp only [deepL,maxDeep]
  rw [deepL_F r m _ (by omega),deepS_F p m]
  omega
end
mutual
theorem deepF_sz:∀s:Shape,deepF s<=sz s
 | ⟨_,_,_,_,ps⟩=>by
  have:=maxDeep_sz ps
  simp only [deepF,sz]
  omega
theorem maxDeep_sz:∀l:List Shape,maxDeep l<=szL l
 | []=>Nat.le_refl _
 | p ::r=>by
  have:=deepF_sz p
  have:=maxDeep_sz r
  simp only [maxDeep,szL]
  omega
end
mutual
theorem sizeF_eq:∀(s:Shape) (m:Int),0<=m→sizeF s m=min (sz s:Int) (m+1)
 | ⟨_,_,_,_,ps⟩,m,h=>by
  simp only [sizeF,sz]
  rw [sizeL_eq ps 1 m (by omega)]
  omega
theorem sizeL_eq:∀(l:List Shape) (n m:Int),n<=m+1→sizeL l n m=min (n+szL l) (m+1)
 | [],n,m,h=>by simp only [sizeL,szL];omega
 | p ::r,n,m,h=>by
  simp only [sizeL,szL]
  have:=ib p
  split
  ·rw [sizeF_eq p (m - n) (by omega),sizeL_eq r _ m (by omega)]
   omega
  ·omega
end
theorem Gq (s:Shape):cb s=if 400 < sizeF s 400 then 3 else if 40 < (deepF s:Int) then 91 else if allS ak s=true then 0 else 70:=by
 unfold cb
 rw [sizeF_eq s 400 (by omega),deepS_F]
 have e:(1:Int)+deepF s - 1=deepF s:=by omega
 rw [e]
 by_cases h:400 < sz s
 ·rw [if_pos h,if_pos (show (400:Int) < min (sz s:Int) (400+1) by omega)]
 ·rw [if_neg h,if_neg (show ¬(400:Int) < min (sz s:Int) (400+1) by omega)]
end Go.Pd
end
section
namespace Go.Pd
open Go.AL
def dF (p:Int):Bool:=decide (0<=p) && decide (p<=1114111) && (decide (p < 55296) || decide (57343 < p))
def iI (n:Int):UInt8:=UInt8.ofNat n.toNat
def cK (p:Int):Str:=
 if p < 128 then [iI p]
 else if p < 2048 then [iI (192+p / 64),iI (128+p % 64)]
 else if p < 65536 then [iI (224+p / 4096),iI (128+p / 64 % 64),iI (128+p % 64)]
 else [iI (240+p / 262144),iI (128+p / 4096 % 64),iI (128+p / 64 % 64),iI (128+p % 64)]
def bq (s:Str):Nat:=if 240<=bI (s.getD 0 0) then 4 else if 224<=bI (s.getD 0 0) then 3 else if 192<=bI (s.getD 0 0) then 2 else 1
def eY (s:Str):Int:=if 240<=bI (s.getD 0 0) then bI (s.getD 0 0) - 240 else if 224<=bI (s.getD 0 0) then bI (s.getD 0 0) - 224 else if 192<=bI (s.getD 0 0) then bI (s.getD 0 0) - 192 else bI (s.getD 0 0)
def aN (s:Str):Nat→Int
 | 0=>eY s
 | 1=>eY s
 | k+2=>aN s (k+1) *64+bI (s.getD (k+1) 0) - 128
def cr (s:Str):Int × Int:=
 if s=[] then (0,0) else if s.length < bq s then (0,0)
 else if dF (aN s (bq s))=true/\cK (aN s (bq s))=s.take (bq s) then (aN s (bq s),bq s) else (0,0)
end Go.Pd
end
section
namespace Go.Pd
open Go.AL
theorem dU {n:Int} {b:UInt8} (h0:0<=n) (h1:n<=255):iI n=b↔n=bI b:=by
 unfold iI bI
 constructor
 ·intro e
  rw [←e,UInt8.toNat_ofNat']
  have:n.toNat % 2 ^ 8=n.toNat:=Nat.mod_eq_of_lt (by omega)
  rw [this]
  omega
 ·intro e
  rw [e,Int.toNat_natCast]
  exact UInt8.ofNat_toNat
theorem D1 {p:Int} (h:0<=p) (a:UInt8):cK p=[a]↔p < 128/\p=bI a:=by
 unfold cK
 split
 ·simp only [List.cons.injEq,and_true]
  rw [dU h (by omega)]
  omega
 ·refine ⟨fun e=>?_,fun e=>by omega⟩
  revert e
  split <;> (try split) <;> simp
theorem D2 {p:Int} (h:0<=p) (a b:UInt8):cK p=[a,b]↔128<=p/\p < 2048/\192+p / 64=bI a/\128+p % 64=bI b:=by
 unfold cK
 split
 ·refine ⟨fun e=>?_,fun e=>by omega⟩
  simp at e
 split
 ·simp only [List.cons.injEq,and_true]
  rw [dU (by omega) (by omega),dU (by omega) (by omega)]
  omega
 ·refine ⟨fun e=>?_,fun e=>by omega⟩
  revert e
  split <;> simp
theorem D3 {p:Int} (h:0<=p) (a b c:UInt8):cK p=[a,b,c]↔2048<=p/\p < 65536/\224+p / 4096=bI a/\128+p / 64 % 64=bI b/\128+p % 64=bI c:=by
 unfold cK
 split
 ·refine ⟨fun e=>?_,fun e=>by omega⟩
  simp at e
 split
 ·refine ⟨fun e=>?_,fun e=>by omega⟩
  simp at e
 split
 ·simp only [List.cons.injEq,and_true]
  rw [dU (by omega) (by omega),dU (by omega) (by omega),dU (by omega) (by omega)]
  omega
 ·refine ⟨fun e=>?_,fun e=>by omega⟩
  simp at e
theorem D4 {p:Int} (h:0<=p) (hp:p<=1114111) (a b c d:UInt8):cK p=[a,b,c,d]↔65536<=p/\240+p / 262144=bI a/\128+p / 4096 % 64=bI b/\128+p / 64 % 64=bI c/\128+p % 64=bI d:=by
 unfold cK
 split
 ·refine ⟨fun e=>?_,fun e=>by omega⟩
  simp at e
 split
 ·refine ⟨fun e=>?_,fun e=>by omega⟩
  simp at e
 split
 ·refine ⟨fun e=>?_,fun e=>by omega⟩
  simp at e
 ·simp only [List.cons.injEq,and_true]
  rw [dU (by omega) (by omega),dU (by omega) (by omega),dU (by omega) (by omega),dU (by omega) (by omega)]
  omega
theorem jm (p:Int):dF p=true↔0<=p/\p<=1114111/\(p < 55296∨57343 < p):=by
 unfold dF
 simp only [Bool.and_eq_true,Bool.or_eq_true,decide_eq_true_eq,and_assoc]
theorem vk (s:Str):(cr s).2=(gI s:Int):=by
 match s with
 | []=>rfl
 | b ::r=>
  rw [CS]
  have hb:=UInt8.toNat_lt b
  have e0:bI ((b ::r).getD 0 0)=(b.toNat:Int):=rfl
  unfold cr
  rw [if_neg (List.cons_ne_nil _ _)]
  by_cases c4:240<=(b.toNat:Int)
  ·have hL:bq (b ::r)=4:=by unfold bq;rw [e0,if_pos c4]
   rw [hL]
   match r with
   | []=>rw [if_pos (by simp)];unfold kf;simp only [List.length_nil];(repeat' split) <;> first | rfl | omega
   | [c1]=>rw [if_pos (by simp)];unfold kf;simp only [List.length_cons,List.length_nil];(repeat' split) <;> first | rfl | omega
   | [c1,c2]=>rw [if_pos (by simp)];unfold kf;simp only [List.length_cons,List.length_nil];(repeat' split) <;> first | rfl | omega
   | c1 ::c2 ::c3 ::r=>
    have h1:=UInt8.toNat_lt c1
    have h2:=UInt8.toNat_lt c2
    have h3:=UInt8.toNat_lt c3
    have hf:aN (b ::c1 ::c2 ::c3 ::r) 4=((((b.toNat:Int) - 240) *64+c1.toNat - 128) *64+c2.toNat - 128) *64+c3.toNat - 128:=by
     have:eY (b ::c1 ::c2 ::c3 ::r)=(b.toNat:Int) - 240:=by unfold eY;rw [show bI ((b ::c1 ::c2 ::c3 ::r).getD 0 0)=(b.toNat:Int) from rfl,if_pos c4]
     unfold aN aN aN aN
     rw [this]
     rfl
    rw [if_neg (by simp),hf]
    have ht:(b ::c1 ::c2 ::c3 ::r).take 4=[b,c1,c2,c3]:=rfl
    rw [ht]
    generalize hp:((((b.toNat:Int) - 240) *64+c1.toNat - 128) *64+c2.toNat - 128) *64+c3.toNat - 128=p
    have key:(dF p=true/\cK p=[b,c1,c2,c3])↔(0<=p/\p<=1114111/\(p < 55296∨57343 < p))/\(65536<=p/\240+p / 262144=(b.toNat:Int)/\128+p / 4096 % 64=(c1.toNat:Int)/\128+p / 64 % 64=(c2.toNat:Int)/\128+p % 64=(c3.toNat:Int)):=by
     rw [jm]
     exact and_congr_right fun e=>D4 e.1 e.2.1 _ _ _ _
    unfold kf
    simp only [List.length_cons,List.getD_cons_zero,List.getD_cons_succ]
    rw [show p / 4096=p / 64 / 64 by omega,show p / 262144=p / 64 / 64 / 64 by omega] at key
    generalize hu:p / 64=u at key
    generalize hv:u / 64=v at key
    generalize hw:v / 64=w at key
    split
    ·next h=>
     have h:=key.1 h
     have x0:b.toNat / 8=30/\c1.toNat / 64=2/\c2.toNat / 64=2/\c3.toNat / 64=2:=by omega
     have x1:b.toNat % 8 *262144+c1.toNat % 64 *4096+c2.toNat % 64 *64+c3.toNat % 64=p.toNat:=by omega
     rw [x1,if_neg (by omega),if_neg (by omega),if_neg (by omega),if_pos ⟨x0.1,⟨by omega,x0.2.1⟩,⟨by omega,x0.2.2.1⟩,by omega,x0.2.2.2⟩,if_pos (by omega)]
    ·next h=>
     by_cases x0:b.toNat / 8=30/\c1.toNat / 64=2/\c2.toNat / 64=2/\c3.toNat / 64=2
     ·have x1:((b.toNat % 8 *262144+c1.toNat % 64 *4096+c2.toNat % 64 *64+c3.toNat % 64:Nat):Int)=p:=by omega
      have x2:¬((b.toNat % 8 *262144+c1.toNat % 64 *4096+c2.toNat % 64 *64+c3.toNat % 64)≥65536/\((b.toNat % 8 *262144+c1.toNat % 64 *4096+c2.toNat % 64 *64+c3.toNat % 64) < 55296∨57344<=(b.toNat % 8 *262144+c1.toNat % 64 *4096+c2.toNat % 64 *64+c3.toNat % 64)/\(b.toNat % 8 *262144+c1.toNat % 64 *4096+c2.toNat % 64 *64+c3.toNat % 64)<=1114111)):=fun e=>h (key.2 ⟨by omega,by omega⟩)
      rw [if_neg (by omega),if_neg (by omega),if_neg (by omega),if_pos ⟨x0.1,⟨by omega,x0.2.1⟩,⟨by omega,x0.2.2.1⟩,by omega,x0.2.2.2⟩,if_neg x2]
      rfl
     ·rw [if_neg (by omega),if_neg (by omega),if_neg (by omega),if_neg (fun e=>x0 ⟨e.1,e.2.1.2,e.2.2.1.2,e.2.2.2.2⟩)]
      rfl
  by_cases c3:224<=(b.toNat:Int)
  ·have hL:bq (b ::r)=3:=by unfold bq;rw [e0,if_neg c4,if_pos c3]
   rw [hL]
   match r with
   | []=>rw [if_pos (by simp)];unfold kf;simp only [List.length_nil];(repeat' split) <;> first | rfl | omega
   | [c1]=>rw [if_pos (by simp)];unfold kf;simp only [List.length_cons,List.length_nil];(repeat' split) <;> first | rfl | omega
   | c1 ::c2 ::r=>
    have h1:=UInt8.toNat_lt c1
    have h2:=UInt8.toNat_lt c2
    have hf:aN (b ::c1 ::c2 ::r) 3=(((b.toNat:Int) - 224) *64+c1.toNat - 128) *64+c2.toNat - 128:=by
     have:eY (b ::c1 ::c2 ::r)=(b.toNat:Int) - 224:=by unfold eY;rw [show bI ((b ::c1 ::c2 ::r).getD 0 0)=(b.toNat:Int) from rfl,if_neg c4,if_pos c3]
     unfold aN aN aN
     rw [this]
     rfl
    rw [if_neg (by simp),hf]
    have ht:(b ::c1 ::c2 ::r).take 3=[b,c1,c2]:=rfl
    rw [ht]
    generalize hp:(((b.toNat:Int) - 224) *64+c1.toNat - 128) *64+c2.toNat - 128=p
    have key:(dF p=true/\cK p=[b,c1,c2])↔(0<=p/\p<=1114111/\(p < 55296∨57343 < p))/\(2048<=p/\p < 65536/\224+p / 4096=(b.toNat:Int)/\128+p / 64 % 64=(c1.toNat:Int)/\128+p % 64=(c2.toNat:Int)):=by
     rw [jm]
     exact and_congr_right fun e=>D3 e.1 _ _ _
    unfold kf
    simp only [List.length_cons,List.getD_cons_zero,List.getD_cons_succ]
    rw [show p / 4096=p / 64 / 64 by omega] at key
    generalize hu:p / 64=u at key
    generalize hv:u / 64=v at key
    split
    ·next h=>
     have h:=key.1 h
     have x0:b.toNat / 16=14/\c1.toNat / 64=2/\c2.toNat / 64=2:=by omega
     have x1:b.toNat % 16 *4096+c1.toNat % 64 *64+c2.toNat % 64=p.toNat:=by omega
     rw [x1,if_neg (by omega),if_neg (by omega),if_pos ⟨x0.1,⟨by omega,x0.2.1⟩,by omega,x0.2.2⟩,if_pos (by omega)]
    ·next h=>
     by_cases x0:b.toNat / 16=14/\c1.toNat / 64=2/\c2.toNat / 64=2
     ·have x1:((b.toNat % 16 *4096+c1.toNat % 64 *64+c2.toNat % 64:Nat):Int)=p:=by omega
      have x2:¬((b.toNat % 16 *4096+c1.toNat % 64 *64+c2.toNat % 64)≥2048/\((b.toNat % 16 *4096+c1.toNat % 64 *64+c2.toNat % 64) < 55296∨57344<=(b.toNat % 16 *4096+c1.toNat % 64 *64+c2.toNat % 64)/\(b.toNat % 16 *4096+c1.toNat % 64 *64+c2.toNat % 64)<=1114111)):=fun e=>h (key.2 ⟨by omega,by omega⟩)
      rw [if_neg (by omega),if_neg (by omega),if_pos ⟨x0.1,⟨by omega,x0.2.1⟩,by omega,x0.2.2⟩,if_neg x2]
      rfl
     ·rw [if_neg (by omega),if_neg (by omega),if_neg (fun e=>x0 ⟨e.1,e.2.1.2,e.2.2.2⟩),if_neg (by omega)]
      rfl
  by_cases c2:192<=(b.toNat:Int)
  ·have hL:bq (b ::r)=2:=by unfold bq;rw [e0,if_neg c4,if_neg c3,if_pos c2]
   rw [hL]
   match r with
   | []=>rw [if_pos (by simp)];unfold kf;simp only [List.length_nil];(repeat' split) <;> first | rfl | omega
   | c1 ::r=>
    have h1:=UInt8.toNat_lt c1
    have hf:aN (b ::c1 ::r) 2=((b.toNat:Int) - 192) *64+c1.toNat - 128:=by
     have:eY (b ::c1 ::r)=(b.toNat:Int) - 192:=by unfold eY;rw [show bI ((b ::c1 ::r).getD 0 0)=(b.toNat:Int) from rfl,if_neg c4,if_neg c3,if_pos c2]
     unfold aN aN
     rw [this]
     rfl
    rw [if_neg (by simp),hf]
    have ht:(b ::c1 ::r).take 2=[b,c1]:=rfl
    rw [ht]
    generalize hp:((b.toNat:Int) - 192) *64+c1.toNat - 128=p
    have key:(dF p=true/\cK p=[b,c1])↔(0<=p/\p<=1114111/\(p < 55296∨57343 < p))/\(128<=p/\p < 2048/\192+p / 64=(b.toNat:Int)/\128+p % 64=(c1.toNat:Int)):=by
     rw [jm]
     exact and_congr_right fun e=>D2 e.1 _ _
    unfold kf
    simp only [List.length_cons,List.getD_cons_zero,List.getD_cons_succ]
    generalize hu:p / 64=u at key
    split
    ·next h=>
     have h:=key.1 h
     have x0:b.toNat / 32=6/\c1.toNat / 64=2:=by omega
     have x1:b.toNat % 32 *64+c1.toNat % 64=p.toNat:=by omega
     rw [x1,if_neg (by omega),if_pos ⟨x0.1,by omega,x0.2⟩,if_pos (by omega)]
    ·next h=>
     by_cases x0:b.toNat / 32=6/\c1.toNat / 64=2
     ·have x1:((b.toNat % 32 *64+c1.toNat % 64:Nat):Int)=p:=by omega
      generalize b.toNat % 32 *64+c1.toNat % 64=q at x1 ⊢
      have x2:¬(q≥128):=fun e=>h (key.2 ⟨by omega,by omega⟩)
      rw [if_neg (by omega),if_pos ⟨x0.1,by omega,x0.2⟩,if_neg x2]
      rfl
     ·rw [if_neg (by omega),if_neg (fun e=>x0 ⟨e.1,e.2.2⟩),if_neg (by omega),if_neg (by omega)]
      rfl
  ·have hL:bq (b ::r)=1:=by unfold bq;rw [e0,if_neg c4,if_neg c3,if_neg c2]
   rw [hL,if_neg (by simp)]
   have hf:aN (b ::r) 1=(b.toNat:Int):=by
    unfold aN eY
    rw [e0,if_neg c4,if_neg c3,if_neg c2]
   rw [hf]
   have ht:(b ::r).take 1=[b]:=rfl
   rw [ht]
   have key:(dF (b.toNat:Int)=true/\cK (b.toNat:Int)=[b])↔(b.toNat:Int) < 128:=by
    rw [jm,D1 (by omega)]
    constructor
    ·exact fun e=>e.2.1
    ·exact fun e=>⟨by omega,e,rfl⟩
   by_cases h:b.toNat < 128
   ·rw [if_pos (key.2 (by omega))];unfold kf;rw [if_pos h]
   ·rw [if_neg (fun e=>h (by have:=key.1 e;omega))];unfold kf;rw [if_neg h,if_neg (by omega),if_neg (by omega),if_neg (by omega)];rfl
theorem F7 (s:Str):gI s<=s.length:=by
 by_cases h:s=[]
 ·subst h;exact Nat.le_refl _
 by_cases e:gI s=0
 ·omega
 obtain ⟨_,h2,_,_,h5⟩:=pS h
 have:=h2 e
 omega
theorem zJ {s:Str} {n:Nat} (h:n<=s.length):n+gI (s.drop n)<=s.length:=by
 have:=F7 (s.drop n)
 rw [List.length_drop] at this
 omega
end Go.Pd
end
section
namespace Go.Pd
open Go.AL
mutual
def db:Trm→Int→Int
 | ⟨_,_,_,_,_,_,_,ps,_⟩,m=>sizeTL ps 1 m
def sizeTL:List Trm→Int→Int→Int
 | [],n,_=>n
 | p ::r,n,m=>if n<=m then sizeTL r (n+db p (m - n)) m else n
end
mutual
def deepT:Trm→Nat
 | ⟨_,_,_,_,_,_,_,ps,_⟩=>maxDT ps+1
def maxDT:List Trm→Nat
 | []=>0
 | p ::r=>max (deepT p) (maxDT r)
end
mutual
theorem sizeT_bd:∀(s:Trm) (m:Int),0<=m→1<=db s m/\db s m<=m+1
 | ⟨_,_,_,_,_,_,_,ps,_⟩,m,h=>by
  simp only [db]
  exact sizeTL_bd ps 1 m (by omega) (by omega)
theorem sizeTL_bd:∀(l:List Trm) (n m:Int),1<=n→n<=m+1→1<=sizeTL l n m/\sizeTL l n m<=m+1
 | [],n,m,h1,h2=>by simp only [sizeTL];omega
 | p ::r,n,m,h1,h2=>by
  simp only [sizeTL]
  split
  ·have:=sizeT_bd p (m - n) (by omega)
   exact sizeTL_bd r _ m (by omega) (by omega)
  ·omega
end
mutual
theorem deepT_sz:∀s:Trm,deepT s<=szT s
 | ⟨_,_,_,_,_,_,_,ps,_⟩=>by
  have:=maxDT_sz ps
  simp only [deepT,szT]
  omega
theorem maxDT_sz:∀l:List Trm,maxDT l<=szTL l
 | []=>Nat.le_refl _
 | p ::r=>by
  have:=deepT_sz p
  have:=maxDT_sz r
  simp only [maxDT,szTL]
  omega
end
mutual
theorem sizeT_eq:∀(s:Trm) (m:Int),0<=m→db s m=min (szT s:Int) (m+1)
 | ⟨_,_,_,_,_,_,_,ps,_⟩,m,h=>by
  simp only [db,szT]
  rw [sizeTL_eq ps 1 m (by omega)]
  omega
theorem sizeTL_eq:∀(l:List Trm) (n m:Int),n<=m+1→sizeTL l n m=min (n+szTL l) (m+1)
 | [],n,m,h=>by simp only [sizeTL,szTL];omega
 | p ::r,n,m,h=>by
  simp only [sizeTL,szTL]
  have:=fA p
  split
  ·rw [sizeT_eq p (m - n) (by omega),sizeTL_eq r _ m (by omega)]
   omega
  ·omega
end
mutual
theorem countT_size:∀(s:Trm) (m:Int),0<=m→(countT s m).1=min (szT s:Int) (m+1)
 | ⟨_,_,_,_,_,_,_,ps,_⟩,m,h=>by
  simp only [countT,szT]
  rw [countL_size ps m 1 0 (by omega)]
  omega
theorem countL_size:∀(l:List Trm) (m n d:Int),n<=m+1→(countL l m n d).1=min (n+szTL l) (m+1)
 | [],m,n,d,h=>by simp only [countL,szTL];omega
 | p ::r,m,n,d,h=>by
  simp only [countL,szTL]
  have:=fA p
  split
  ·show n=_;omega
  ·rw [countL_size r m _ _ (by rw [countT_size p (m - n) (by omega)];omega),countT_size p (m - n) (by omega)]
   omega
end
mutual
theorem countT_deep:∀(s:Trm) (m:Int),(szT s:Int)<=m→(countT s m).2=deepT s
 | ⟨_,_,_,_,_,_,_,ps,_⟩,m,h=>by
  simp only [szT] at h
  simp only [countT,deepT]
  rw [countL_deep ps m 1 0 (by omega) (by omega)]
  omega
theorem countL_deep:∀(l:List Trm) (m n d:Int),n+szTL l<=m→0<=d→(countL l m n d).2=max d (maxDT l)
 | [],m,n,d,h,h0=>by simp only [countL,maxDT];omega
 | p ::r,m,n,d,h,h0=>by
  simp only [szTL] at h
  simp only [countL,maxDT]
  rw [if_neg (by omega)]
  have e1:(countT p (m - n)).1=szT p:=by rw [countT_size p (m - n) (by omega)];omega
  rw [countL_deep r m _ _ (by rw [e1];omega) (by omega),countT_deep p (m - n) (by omega)]
  omega
end
theorem xJ (t:Trm):bw t=if 4096 < db t 4096 then 3 else if 40 < (deepT t:Int) then 91 else if allT ai t=true then 0 else 80:=by
 unfold bw
 rw [countT_size t 4096 (by omega),sizeT_eq t 4096 (by omega)]
 by_cases h:(4096:Int) < min (szT t:Int) (4096+1)
 ·rw [if_pos h,if_pos h]
 ·rw [if_neg h,if_neg h,countT_deep t 4096 (by omega)]
mutual
def eqT:Trm→Trm→Bool→Bool
 | ⟨k,g,q,z,ns,vs,ss,ps,pp⟩,⟨k',g',q',z',ns',vs',ss',ps',pp'⟩,b=>
  decide (k=k') && decide (g=g') && decide (q=q') && decide (z=z') && (!b || decide (pp=pp')) && decide (ns=ns') && decide (vs=vs') && eqL ss ss' && eqTL ps ps' b
def eqTL:List Trm→List Trm→Bool→Bool
 | [],[],_=>true
 | x ::r,y ::s,b=>eqT x y b && eqTL r s b
 | _,_,_=>false
end
def dG (ns:List Str) (b:Bool):Bool:=ns.all al && (!b || decide ns.Nodup)
def aK (t:Trm) (n v s p:Int):Bool:=decide ((t.names.length:Int)=n) && decide ((t.vars.length:Int)=v) && decide ((t.shapes.length:Int)=s) && decide ((t.parts.length:Int)=p)
def jn (s:Str):Nat→Nat→List Int→List Int × Flt
 | 0,_,acc=>(acc,⟨0,0⟩)
 | f+1,i,acc=>if i < s.length then (if gI (s.drop i)=0 then ([],⟨30,i⟩) else jn s f (i+gI (s.drop i)) (acc++[(cr (s.drop i)).1])) else (acc,⟨0,0⟩)
def ed (s:Str):List Int × Flt:=jn s (s.length+1) 0 []
end Go.Pd
end
section
namespace Go.Pd
open Go.AL
theorem q9:∀(f:Nat) (s:Str) (i:Nat) (acc:List Int),s.length - i < f→i<=s.length→((jn s f i acc).2.err=0↔kg s i=none)
 | 0,s,i,acc,h,_=>absurd h (Nat.not_lt_zero _)
 | f+1,s,i,acc,h,hi=>by
  rw [jn]
  by_cases k:i < s.length
  ·rw [if_pos k]
   by_cases b:gI (s.drop i)=0
   ·rw [if_pos b,AN k b]
    simp
   ·rw [if_neg b,xF k b]
    have:=zJ (s:=s) (n:=i) hi
    exact q9 f s _ _ (by omega) this
  ·rw [if_neg k,AM (by omega)]
   simp
theorem qa (s:Str):(ed s).2.err=0↔ke s=none:=by
 rw [←xE]
 exact q9 _ s 0 [] (by omega) (Nat.zero_le _)
theorem xK {s:Str} (h:s.all cn=true):decide ((ed s).2.err=0)=fI s:=by
 unfold fI
 rw [h,Bool.true_and]
 cases e:ke s with
 | none=>rw [Xd ((qa s).2 e)];rfl
 | some k=>rw [Xf (fun q=>by have:=(qa s).1 q;rw [e] at this;cases this)];rfl
theorem AW {c:Prop} [Decidable c] {a b:Bool} {P:Prop} (h:(if c then a else b)=true) (f:a=true→P) (g:b=true→P):P:=by
 by_cases k:c
 ·rw [if_pos k] at h;exact f h
 ·rw [if_neg k] at h;exact g h
theorem qb {t:Trm} (h:gY t=true):dR t.names=true/\t.vars.all al=true:=by
 unfold gY dN at h
 repeat' (refine AW h (fun h=>?_) (fun h=>?_))
 all_goals simp only [Bool.and_eq_true,decide_eq_true_eq,Bool.false_eq_true] at h
 all_goals refine ⟨?_,?_⟩
 all_goals first
  | exact h.1.2 | exact h.1.1.2
  | (have e1:=List.eq_nil_of_length_eq_zero (l:=t.vars) (by omega);rw [e1];rfl)
  | (have e1:=List.eq_nil_of_length_eq_zero (l:=t.names) (by omega);rw [e1];rfl)
  | exact h.elim
theorem xL {t:Trm} (h:dG t.names true=false):ai t=false:=by
 rw [Bool.eq_false_iff]
 intro e
 unfold ai at e
 rw [Bool.and_eq_true] at e
 have:=(qb e.2).1
 unfold dR at this
 unfold dG at h
 simp at this h
 exact h this.1 this.2
theorem AX {t:Trm} (h:dG t.vars false=false):ai t=false:=by
 rw [Bool.eq_false_iff]
 intro e
 unfold ai at e
 rw [Bool.and_eq_true] at e
 have:=(qb e.2).2
 unfold dG at h
 rw [this] at h
 simp at h
def bO (t:Trm):Bool:=allT (fun x=>decide (x.name.length<=2000000) && decide (x.names.length<=2000000)) t
theorem qc {t x:Trm} (h:bO t=true) (hx:x∈t.parts):bO x=true:=by
 unfold bO at h ⊢
 rw [allT_eq,Bool.and_eq_true,allTL_all] at h
 exact List.all_eq_true.1 h.2 x hx
theorem qd {t:Trm} (h:bO t=true):t.name.length<=2000000/\t.names.length<=2000000:=by
 unfold bO at h
 rw [allT_eq,Bool.and_eq_true,Bool.and_eq_true,decide_eq_true_eq,decide_eq_true_eq] at h
 exact h.1
end Go.Pd
end
section
namespace Go.Proofs.YtgackciebknbeaaGreatDoor.Join
open Go.AL Go.AL.Seat Go.Pd Go.ChangeShapes Go.WideShapes Go.RowKit Go.Lib Go.Shelf
set_option maxRecDepth 1000000
theorem F8:ShapeAt Tryz.prog 93:=⟨_,_,_,_,_,9,Tryz.underlying93,by kernel_rfl,⟨rfl,rfl,rfl,rfl,rfl⟩,⟨by kernel_rfl,by kernel_rfl,by kernel_rfl,by kernel_rfl,by kernel_rfl⟩,by kernel_rfl,by kernel_rfl,by kernel_rfl,by kernel_rfl,by kernel_rfl,by kernel_rfl,by kernel_rfl⟩
theorem Gr:TermAt Tryz.prog 26:=⟨_,_,_,_,_,_,_,_,_,9,93,Tryz.underlying26,by kernel_rfl,⟨rfl,rfl,rfl,rfl,rfl,rfl,rfl,rfl,rfl⟩,⟨by kernel_rfl,by kernel_rfl,by kernel_rfl,by kernel_rfl,by kernel_rfl,by kernel_rfl,by kernel_rfl,by kernel_rfl,by kernel_rfl⟩,
 ⟨by kernel_rfl,by kernel_rfl,by kernel_rfl,by kernel_rfl,by kernel_rfl,by kernel_rfl,by kernel_rfl,by kernel_rfl,by kernel_rfl⟩,⟨by kernel_rfl,by kernel_rfl,by kernel_rfl⟩,F8⟩
theorem He:Tryz.prog.readableRec 26=true:=by kernel_rfl
variable {H:Type}
theorem D5 (d:DataW H):1<=Rows.uptoBulk d:=by
 cases d with
 | lit l=>cases l <;> (unfold Rows.uptoBulk;omega)
 | _=>unfold Rows.uptoBulk;omega
theorem vl:∀l:List (DataW H),l.length<=Rows.uptoBulkAll l
 | []=>Nat.zero_le _
 | d ::r=>by
  have:=vl r
  have:=D5 d
  unfold Rows.uptoBulkAll
  rw [List.length_cons]
  omega
theorem mn {d:DataW H}:∀{l:List (DataW H)},d∈l→Rows.uptoBulk d<=Rows.uptoBulkAll l
 | x ::r,h=>by
  unfold Rows.uptoBulkAll
  rcases List.mem_cons.1 h with rfl | h
  ·omega
  ·have:=mn h;omega
theorem rV (P:Program):GoodR (H:=H) P 1048576 1048576 (fun _ d=>Rows.uptoBulk d<=1048576) where
 str t s ht h:=by unfold Rows.uptoBulk at h;omega
 len t e es sp ht h h16:=by
  have:=vl es
  unfold Rows.uptoBulk at h
  omega
 el t e es sp ht h x hx:=by
  have:=mn hx
  unfold Rows.uptoBulk at h
  omega
 part t fs ps ht h i f p hf hp:=by
  have:=mn (List.mem_of_getElem? hp)
  unfold Rows.uptoBulk at h
  omega
theorem vm {ds:List (DataW H)} (h:Rows.uptoSmall H ds=true) {d:DataW H} (hd:d∈ds):Rows.uptoBulk d<=1048576:=by
 have:=mn hd
 have:=Xo h
 omega
theorem lI:∀(n:Nat) (s:Trm),szT s<=n→allT (nc 1048576 1048576) s=true→bF s=true/\bO s=true
 | 0,s,h,_=>by have:=fA s;omega
 | n+1,s,h,ha=>by
  rw [allT_eq,Bool.and_eq_true,allTL_all,List.all_eq_true] at ha
  have hb:=ha.1
  unfold nc at hb
  rw [Bool.and_eq_true,decide_eq_true_eq,decide_eq_true_eq] at hb
  have hp:∀x∈s.parts,bF x=true/\bO x=true:=fun x hx=>by
   have h1:=fV hx
   have h2:=gG s
   exact lI n x (by omega) (ha.2 x hx)
  unfold bF bO at hp ⊢
  rw [allT_eq,allT_eq,Bool.and_eq_true,Bool.and_eq_true,allTL_all,allTL_all,List.all_eq_true,List.all_eq_true]
  refine ⟨⟨Xd (by omega),fun x hx=>(hp x hx).1⟩,?_,fun x hx=>(hp x hx).2⟩
  rw [Xd (show s.name.length<=2000000 by omega),Xd (show s.names.length<=2000000 by omega)]
  rfl
theorem F9 [Tabs] {enc:TypeId × Value→H} {P:Program} {w:World} {base:Nat} {held:Bool} {t:TypeId} (ht:P.underlying t=some .string) {r:Reach} {b0:Nat} {v:Value} {d:DataW H} {ps:List MemPlace} (hv:Value.okWide P w r b0 t v) (h:DataW.Trod enc P w base (fun _=>true) held t v d ps) (hg:Rows.uptoBulk d<=1048576) :
  ∃s:Str,V (Om0 w) (.str s) v/\s.length<=1048576:=by
 obtain ⟨s,rfl,rfl,_,hw⟩:=Go.ChangeMaps.open_string ht hv h
 have e:s=⟨s.data.toList.toArray⟩:=by cases s;simp
 have hl:s.data.toList.length<=bA:=by
  have:s.data.size=s.size:=rfl
  unfold maxLen at hw
  unfold bA
  simp only [Array.length_toList,this]
  omega
 have:=V.str (Ω:=Om0 w) s.data.toList hl
 rw [←e] at this
 exact ⟨_,this,(rV P).str t _ ht hg⟩
end Go.Proofs.YtgackciebknbeaaGreatDoor.Join
end
noncomputable section
namespace Go.AL
def evN {α:Type} (n:Nat) (k:Nat→α):α:=match n with | 0=>k 0 | m+1=>k (m+1)
def evI {α:Type} (n:Int) (k:Int→α):α:=match n with | .ofNat m=>evN m fun m=>k (.ofNat m) | .negSucc m=>evN m fun m=>k (.negSucc m)
def evL {α β:Type}:List β→(List β→α)→α
 | [],k=>k []
 | a ::r,k=>evL r fun r=>k (a ::r)
theorem eV {α:Type} (n:Nat) (k:Nat→α):evN n k=k n:=by cases n <;> rfl
theorem xM {α:Type} (n:Int) (k:Int→α):evI n k=k n:=by
 cases n <;> (unfold evI;exact eV _ _)
theorem eh {α β:Type}:∀(l:List β) (k:List β→α),evL l k=k l
 | [],_=>rfl
 | a ::r,k=>by rw [evL,eh r]
mutual
def evV {α:Type}:AV→(AV→α)→α
 | .int κ n,k=>evI n fun n=>k (.int κ n)
 | .bool true,k=>k (.bool true)
 | .bool false,k=>k (.bool false)
 | .str s,k=>evL s fun s=>k (.str s)
 | .lst τ xs none,k=>evL xs fun xs=>k (.lst τ xs none)
 | .lst τ xs (some i),k=>evL xs fun xs=>k (.lst τ xs (some i))
 | .row τ xs,k=>evL xs fun xs=>k (.row τ xs)
 | .arr i n w,k=>evN n fun n=>k (.arr i n w)
 | .aptr i n w o,k=>evN n fun n=>evN o fun o=>k (.aptr i n w o)
 | .cptr c,k=>evV c fun c=>k (.cptr c)
 | .agg cs,k=>evVs cs fun cs=>k (.agg cs)
 | .tup cs,k=>evVs cs fun cs=>k (.tup cs)
 | .fn f cs,k=>evVs cs fun cs=>k (.fn f cs)
 | .iface t a,k=>evV a fun a=>k (.iface t a)
 | .lstp τ xs i,k=>evL xs fun xs=>k (.lstp τ xs i)
 | .undef,k=>k .undef
 | .nils,k=>k .nils
 | .ptr i o,k=>k (.ptr i o)
 | .nilp,k=>k .nilp
 | .st n x,k=>k (.st n x)
 | .map i,k=>k (.map i)
 | .bptr i,k=>k (.bptr i)
 | .nilif,k=>k .nilif
 | .nilm,k=>k .nilm
 | .pt n x,k=>k (.pt n x)
 | .tptr τ n i,k=>k (.tptr τ n i)
def evVs {α:Type}:List AV→(List AV→α)→α
 | [],k=>k []
 | a ::r,k=>evV a fun a=>evVs r fun r=>k (a ::r)
end
mutual
theorem evV_eq {α:Type}:∀(a:AV) (k:AV→α),evV a k=k a
 | .int κ n,k=>by rw [evV,xM]
 | .bool true,k=>rfl
 | .bool false,k=>rfl
 | .str s,k=>by rw [evV,eh]
 | .lst τ xs none,k=>by rw [evV,eh]
 | .lst τ xs (some i),k=>by rw [evV,eh]
 | .row τ xs,k=>by rw [evV,eh]
 | .arr i n w,k=>by rw [evV,eV]
 | .aptr i n w o,k=>by rw [evV,eV,eV]
 | .cptr c,k=>by rw [evV,evV_eq c]
 | .agg cs,k=>by rw [evV,evVs_eq cs]
 | .tup cs,k=>by rw [evV,evVs_eq cs]
 | .fn f cs,k=>by rw [evV,evVs_eq cs]
 | .iface t a,k=>by rw [evV,evV_eq a]
 | .lstp τ xs i,k=>by rw [evV,eh]
 | .undef,k=>rfl
 | .nils,k=>rfl
 | .ptr _ _,k=>rfl
 | .nilp,k=>rfl
 | .st _ _,k=>rfl
 | .map _,k=>rfl
 | .bptr _,k=>rfl
 | .nilif,k=>rfl
 | .nilm,k=>rfl
 | .pt _ _,k=>rfl
 | .tptr _ _ _,k=>rfl
theorem evVs_eq {α:Type}:∀(l:List AV) (k:List AV→α),evVs l k=k l
 | [],k=>rfl
 | a ::r,k=>by rw [evVs,evV_eq a,evVs_eq r]
end
def evA {α:Type} (a:AV) (k:AV→α):α:=
 match a with
 | .int κ n=>evI n fun n=>k (.int κ n)
 | .bool b=>(match b with | true=>k (.bool true) | false=>k (.bool false))
 | .str s=>evL s fun s=>k (.str s)
 | .lst τ xs o=>evL xs fun xs=>(match o with | none=>k (.lst τ xs none) | some i=>k (.lst τ xs (some i)))
 | .row τ xs=>evL xs fun xs=>k (.row τ xs)
 | .arr i n w=>evN n fun n=>k (.arr i n w)
 | .aptr i n w o=>evN n fun n=>evN o fun o=>k (.aptr i n w o)
 | .ptr i o=>evN o fun o=>k (.ptr i o)
 | .cptr c=>evV c fun c=>k (.cptr c)
 | .agg cs=>evVs cs fun cs=>k (.agg cs)
 | .tup cs=>evVs cs fun cs=>k (.tup cs)
 | .fn f cs=>evVs cs fun cs=>k (.fn f cs)
 | .iface t a=>evV a fun a=>k (.iface t a)
 | .lstp τ xs i=>evL xs fun xs=>k (.lstp τ xs i)
 | a=>k a
theorem Gs {α:Type} (a:AV) (k:AV→α):evA a k=k a:=by
 unfold evA
 split
 ·exact xM _ _
 ·split <;> rfl
 ·exact eh _ _
 ·rw [eh];split <;> rfl
 ·exact eh _ _
 ·exact eV _ _
 ·rw [eV,eV]
 ·exact eV _ _
 ·exact evV_eq _ _
 ·exact evVs_eq _ _
 ·exact evVs_eq _ _
 ·exact evVs_eq _ _
 ·exact evV_eq _ _
 ·exact eh _ _
 ·rfl
mutual
def evW {α:Type}:AV→(AV→α)→α
 | .int κ n,k=>evI n fun n=>k (.int κ n)
 | .bool true,k=>k (.bool true)
 | .bool false,k=>k (.bool false)
 | .lst τ xs none,k=>k (.lst τ xs none)
 | .lst τ xs (some i),k=>k (.lst τ xs (some i))
 | .row τ xs,k=>evL xs fun xs=>k (.row τ xs)
 | .arr i n w,k=>evN n fun n=>k (.arr i n w)
 | .aptr i n w o,k=>evN n fun n=>evN o fun o=>k (.aptr i n w o)
 | .cptr c,k=>evW c fun c=>k (.cptr c)
 | .agg cs,k=>evWs cs fun cs=>k (.agg cs)
 | .tup cs,k=>evWs cs fun cs=>k (.tup cs)
 | .fn f cs,k=>evWs cs fun cs=>k (.fn f cs)
 | .iface t a,k=>evW a fun a=>k (.iface t a)
 | .lstp τ xs i,k=>evL xs fun xs=>k (.lstp τ xs i)
 | .str s,k=>k (.str s)
 | .undef,k=>k .undef
 | .nils,k=>k .nils
 | .ptr i o,k=>evN o fun o=>k (.ptr i o)
 | .nilp,k=>k .nilp
 | .st n x,k=>k (.st n x)
 | .map i,k=>k (.map i)
 | .bptr i,k=>k (.bptr i)
 | .nilif,k=>k .nilif
 | .nilm,k=>k .nilm
 | .pt n x,k=>k (.pt n x)
 | .tptr τ n i,k=>k (.tptr τ n i)
def evWs {α:Type}:List AV→(List AV→α)→α
 | [],k=>k []
 | a ::r,k=>evW a fun a=>evWs r fun r=>k (a ::r)
end
mutual
theorem evW_eq {α:Type}:∀(a:AV) (k:AV→α),evW a k=k a
 | .int κ n,k=>by rw [evW,xM]
 | .bool true,k=>rfl
 | .bool false,k=>rfl
 | .str s,k=>rfl
 | .lst τ xs none,k=>rfl
 | .lst τ xs (some i),k=>rfl
 | .row τ xs,k=>by rw [evW,eh]
 | .arr i n w,k=>by rw [evW,eV]
 | .aptr i n w o,k=>by rw [evW,eV,eV]
 | .cptr c,k=>by rw [evW,evW_eq c]
 | .agg cs,k=>by rw [evW,evWs_eq cs]
 | .tup cs,k=>by rw [evW,evWs_eq cs]
 | .fn f cs,k=>by rw [evW,evWs_eq cs]
 | .iface t a,k=>by rw [evW,evW_eq a]
 | .lstp τ xs i,k=>by rw [evW,eh]
 | .undef,k=>rfl
 | .nils,k=>rfl
 | .ptr _ o,k=>by rw [evW,eV]
 | .nilp,k=>rfl
 | .st _ _,k=>rfl
 | .map _,k=>rfl
 | .bptr _,k=>rfl
 | .nilif,k=>rfl
 | .nilm,k=>rfl
 | .pt _ _,k=>rfl
 | .tptr _ _ _,k=>rfl
theorem evWs_eq {α:Type}:∀(l:List AV) (k:List AV→α),evWs l k=k l
 | [],k=>rfl
 | a ::r,k=>by rw [evWs,evW_eq a,evWs_eq r]
end
def Fa:Op→Bool
 | .load _ _=>true
 | .move _=>true
 | _=>false
def evQ {α:Type} (o:Oper) (a:AV) (k:AV→α):α:=match Fa o.op with | true=>evW a k | false=>evA a k
theorem Gt {α:Type} (o:Oper) (a:AV) (k:AV→α):evQ o a k=k a:=by
 unfold evQ
 split
 ·exact evW_eq _ _
 ·exact Gs _ _
def evO {α:Type}:SObj→(SObj→α)→α
 | .box c,k=>evW c fun c=>k (.box c)
 | .tail τ n,k=>evN n fun n=>k (.tail τ n)
 | .map κ τ m,k=>evL m fun m=>k (.map κ τ m)
 | .bld t u l,k=>evL l fun l=>k (.bld t u l)
 | .tailp τ n x,k=>evN n fun n=>k (.tailp τ n x)
theorem Gu {α:Type} (o:SObj) (k:SObj→α):evO o k=k o:=by
 cases o with
 | box c=>exact evW_eq _ _
 | tail τ n=>unfold evO;exact eV _ _
 | map κ τ m=>exact eh _ _
 | bld t u l=>exact eh _ _
 | tailp τ n x=>unfold evO;exact eV _ _
def evB {α:Type}:List (Nat × SObj)→(List (Nat × SObj)→α)→α
 | [],k=>k []
 | (i,o) ::r,k=>evO o fun o=>evB r fun r=>k ((i,o) ::r)
theorem tz {α:Type}:∀(l:List (Nat × SObj)) (k:List (Nat × SObj)→α),evB l k=k l
 | [],k=>rfl
 | (i,o) ::r,k=>by rw [evB,Gu,tz r]
def evS {α:Type} (s:St) (k:St→α):α:=evL s.t fun t=>evB s.b fun b=>k ⟨t,b⟩
theorem D6 {α:Type} (s:St) (k:St→α):evS s k=k s:=by rw [evS,eh,tz]
theorem AY {ob:Option DP} {q:Prop} (h:okO ob=true) (hq:q):oS ob q:=by
 cases ob with
 | none=>exact hq
 | some d=>exact ⟨d.h h,hq⟩
def zK {α:Sort _} (ops:List Oper) (o:Oper) (T:Nat→AV) (bad:α) (on off:Unit→α):α:=
 match o.guard with
 | none=>on ()
 | some (j,want)=>
  match (nth ops j).bind (·.dst) with
  | none=>bad
  | some d=>
   match T d with
   | .bool true=>if want then on () else off ()
   | .bool false=>if want then off () else on ()
   | .tup []=>off ()
   | _=>bad
theorem xN {α:Type} {ops:List Oper} {o:Oper} {T:Nat→AV} {y:α} {on off:Unit→Option α} {on' off':Unit→Prop} (hon:on ()=some y→on' ()) (hoff:off ()=some y→off' ())
  (h:zK ops o T none on off=some y):zK ops o T False on' off':=by
 unfold zK at h ⊢
 cases hg:o.guard with
 | none=>simp only [hg] at h ⊢;exact hon h
 | some p=>
  obtain ⟨j,want⟩:=p
  simp only [hg] at h ⊢
  cases hd:(nth ops j).bind (·.dst) with
  | none=>simp only [hd] at h;cases h
  | some d=>
   simp only [hd] at h ⊢
   generalize T d=v at h ⊢
   split at h
   ·split at h
    ·rename_i hw;exact (if_pos hw).symm ▸ hon h
    ·rename_i hw;exact (if_neg hw).symm ▸ hoff h
   ·split at h
    ·rename_i hw;exact (if_pos hw).symm ▸ hoff h
    ·rename_i hw;exact (if_neg hw).symm ▸ hon h
   ·exact hoff h
   ·cases h
def gdB (ops:List Oper) (g:Bool) (i:Nat):Bool:=match g with | true=>eJ ops i | false=>false
def D7 (ops:List Oper):Bool:=ops.any fun o=>o.guard.isSome
theorem Gv (ops:List Oper) (i:Nat):gdB ops (D7 ops) i=eJ ops i:=by
 unfold gdB
 cases h:D7 ops with
 | true=>rfl
 | false=>
  show false=eJ ops i
  symm
  unfold D7 at h
  rw [List.any_eq_false] at h
  unfold eJ
  rw [List.any_eq_false]
  intro o ho
  have:=h o ho
  cases hg:o.guard with
  | none=>simp
  | some x=>rw [hg] at this;exact absurd rfl this
def vn (C:Cfg) (ops:List Oper) (g:Bool):List Oper→Nat→St→List bD→Option (St × List bD)
 | [],_,s,fs=>some (s,fs.reverse)
 | o ::r,i,s,fs=>
  zK ops o (aT s.t) none
   (fun _=>
    match az C o (aT s.t) (aq s.b) with
    | none=>none
    | some e=>
     match okO e.ob,ca C o (aT s.t) (aq s.b) with
     | true,none=>
      (match gdB ops g i,e.val with
      | true,.bool b=>(match b with
       | true=>vn C ops g r (i+1) ⟨oR s.t o.dst (.bool true),cm s.b e.upd⟩ ((aG C o (aT s.t) (aq s.b),e.upd.map (·.1)) ::fs)
       | false=>vn C ops g r (i+1) ⟨oR s.t o.dst (.bool false),cm s.b e.upd⟩ ((aG C o (aT s.t) (aq s.b),e.upd.map (·.1)) ::fs))
      | true,_=>none
      | false,v=>evQ o v fun v=>vn C ops g r (i+1) ⟨oR s.t o.dst v,cm s.b e.upd⟩ ((aG C o (aT s.t) (aq s.b),e.upd.map (·.1)) ::fs))
     | _,_=>none)
   (fun _=>vn C ops g r (i+1) ⟨oR s.t o.dst (.tup []),s.b⟩ (([],[]) ::fs))
theorem zL {C:Cfg} {ops:List Oper} {draw:Bool} {kp:AV→St→Prop} {k:St→List bD→Prop} {s':St} {fs':List bD} (hk:k s' fs') :
  ∀(l:List Oper) (i:Nat) (s:St) (fs:List bD),vn C ops (D7 ops) l i s fs=some (s',fs')→bL C ops draw kp l i s fs k
 | [],_,s,fs,h=>by
  simp only [vn,Xs,Prod.mk.injEq] at h
  obtain ⟨rfl,rfl⟩:=h
  exact hk
 | o ::r,i,s,fs,h=>by
  have ih:=zL (C:=C) (ops:=ops) (draw:=draw) (kp:=kp) hk r
  rw [vn,Gv] at h
  refine xN (on':=fun _=>
   match az C o (aT s.t) (aq s.b) with
   | none=>False
   | some e=>
    oS e.ob
    (match ca C o (aT s.t) (aq s.b) with
    | none=>
     (match eJ ops i,e.val with
     | true,.bool b=>
      sp b (bL C ops draw kp r (i+1) (s.put o.dst {e with val:=.bool true}) ((aG C o (aT s.t) (aq s.b),e.upd.map (·.1)) ::fs) k)
       (bL C ops draw kp r (i+1) (s.put o.dst {e with val:=.bool false}) ((aG C o (aT s.t) (aq s.b),e.upd.map (·.1)) ::fs) k)
     | true,_=>False
     | false,_=>bL C ops draw kp r (i+1) (s.put o.dst e) ((aG C o (aT s.t) (aq s.b),e.upd.map (·.1)) ::fs) k)
    | some (b,pv,u)=>
     (match eJ ops i with
     | true=>False
     | false=>sp b (sI C ops draw kp r i s fs (aG C o (aT s.t) (aq s.b),e.upd.map (·.1)) pv u) (bL C ops draw kp r (i+1) (s.put o.dst e) ((aG C o (aT s.t) (aq s.b),e.upd.map (·.1)) ::fs) k))))
   (off':=fun _=>bL C ops draw kp r (i+1) ⟨oR s.t o.dst (.tup []),s.b⟩ (([],[]) ::fs) k) ?_ (fun h=>ih _ _ _ h) h
  intro h
  split at h
  ·cases h
  ·rename_i e he
   split at h
   ·rename_i ho hp
    refine AY ho ?_
    try simp only [hp]
    split at h
    ·rename_i b hg hv
     try simp only [hg,hv]
     split at h
     ·exact ih _ _ _ h
     ·exact ih _ _ _ h
    ·cases h
    ·rename_i v hg
     simp only [Gt] at h
     try simp only [hg]
     exact ih _ _ _ h
   ·cases h
def Fb (ops:List Oper) (i j:Nat):Bool:=((dQ ops).getD j 0).testBit i
def lr:Nat→List bD→List (Nat × bD)
 | _,[]=>[]
 | i,f ::r=>match f with | ([],[])=>lr (i+1) r | f=>(i,f) ::lr (i+1) r
def nd (ops:List Oper):List (Nat × bD)→Bool
 | []=>true
 | x ::r=>r.all (fun p=>Fb ops x.1 p.1 || dh x.2 p.2) && nd ops r
def zM (ops:List Oper):Bool:=
 ((List.range ops.length).all fun j=>(List.range j).all fun i=>Fb ops i j || (match nth ops i,nth ops j with | some x,some y=>fj ops x y | _,_=>false)) &&
 (ops.zipIdx.all fun (o,j)=>o.after.all fun e=>!Region.binds .any e || Nat.blt e.on j)
def xO (ops:List Oper) (fs:List bD):Bool:=zM ops && eF fs ops.length && nd ops (lr 0 fs)
theorem qe {α:Type}:∀{l:List α} {i:Nat},i < l.length→∃x,nth l i=some x
 | a ::_,0,_=>⟨a,rfl⟩
 | _ ::r,i+1,h=>qe (l:=r) (Nat.lt_of_succ_lt_succ h)
theorem rW:∀{fs:List bD} {i0 k:Nat} {f:bD},nth fs k=some f→f≠([],[])→(i0+k,f)∈lr i0 fs
 | g ::r,i0,0,f,h,hf=>by
  cases h
  unfold lr
  split
  ·exact absurd rfl hf
  ·exact List.mem_cons_self ..
 | g ::r,i0,k+1,f,h,hf=>by
  have ih:=rW (fs:=r) (i0:=i0+1) (k:=k) h hf
  rw [show i0+(k+1)=i0+1+k by omega]
  unfold lr
  split
  ·exact ih
  ·exact List.mem_cons_of_mem _ ih
theorem nS {ops:List Oper}:∀{fs:List bD} {i0 a b:Nat} {f g:bD},nd ops (lr i0 fs)=true→a < b→nth fs a=some f→nth fs b=some g→f≠([],[])→g≠([],[])→(Fb ops (i0+a) (i0+b) || dh f g)=true
 | x ::r,i0,0,b+1,f,g,h,_,hf,hg,h1,h2=>by
  cases hf
  have hm:=rW (fs:=r) (i0:=i0+1) (k:=b) hg h2
  unfold lr at h
  split at h
  ·exact absurd rfl h1
  ·unfold nd at h
   rw [Bool.and_eq_true,List.all_eq_true] at h
   have:=h.1 _ hm
   rwa [show i0+1+b=i0+(b+1) by omega] at this
 | x ::r,i0,a+1,b+1,f,g,h,hab,hf,hg,h1,h2=>by
  have hr:nd ops (lr (i0+1) r)=true:=by
   unfold lr at h
   split at h
   ·exact h
   ·unfold nd at h
    rw [Bool.and_eq_true] at h
    exact h.2
  have:=nS (fs:=r) (i0:=i0+1) (a:=a) (b:=b) hr (by omega) hf hg h1 h2
  rwa [show i0+1+a=i0+(a+1) by omega,show i0+1+b=i0+(b+1) by omega] at this
theorem xP (g:bD):dh ([],[]) g=true:=by
 unfold dh sH
 simp
theorem vo (f:bD):dh f ([],[])=true:=by
 unfold dh sH
 simp
theorem mq {α:Type}:∀{l:List α} {n:Nat},eF l n=true→l.length=n
 | [],0,_=>rfl
 | _ ::r,n+1,h=>by rw [List.length_cons,mq (l:=r) h]
theorem AZ {ops:List Oper} {fs:List bD} (h:xO ops fs=true):dS ops fs=true:=by
 unfold xO zM at h
 simp only [Bool.and_eq_true,List.all_eq_true,List.mem_range] at h
 obtain ⟨⟨⟨h1,h2⟩,h3⟩,h4⟩:=h
 have hl:=mq h3
 unfold dS
 rw [Bool.and_eq_true]
 refine ⟨?_,by rw [List.all_eq_true];intro p hp;have:=h2 p hp;exact (by obtain ⟨o,j⟩:=p;simpa using this)⟩
 rw [List.all_eq_true]
 intro j hj
 rw [List.all_eq_true]
 intro i hi
 rw [List.mem_range] at hj hi
 have k:=h1 j hj i hi
 rw [Bool.or_eq_true] at k ⊢
 rcases k with k | k
 ·exact .inl k
 obtain ⟨x,hx⟩:=qe (l:=ops) (i:=i) (by omega)
 obtain ⟨y,hy⟩:=qe (l:=ops) (i:=j) hj
 obtain ⟨f,hf⟩:=qe (l:=fs) (i:=i) (by omega)
 obtain ⟨g,hg⟩:=qe (l:=fs) (i:=j) (by omega)
 rw [hx,hy] at k
 rw [hx,hy,hf,hg]
 have q:Fb ops i j=true∨dh f g=true:=by
  by_cases c1:f=([],[])
  ·rw [c1];exact .inr (xP g)
  ·by_cases c2:g=([],[])
   ·rw [c2];exact .inr (vo f)
   ·have:=nS h4 hi hf hg c1 c2
    rw [Nat.zero_add,Nat.zero_add,Bool.or_eq_true] at this
    exact this
 rcases q with q | q
 ·exact .inl q
 ·exact .inr (by rw [Bool.and_eq_true];exact ⟨k,q⟩)
end Go.AL
end
noncomputable section
namespace Go.AL
variable [Tabs]
def D8:List (Nat × SObj)→Nat→Nat
 | [],m=>m *1000+998
 | (i,_) ::r,m=>D8 r (match Nat.ble m (i / 1000) with | true=>i / 1000+1 | false=>m)
def tA:List Nat→St→Option St
 | [],s=>some s
 | i ::r,s=>(match EJ i (D8 s.b 100) s with | some s=>tA r s | none=>none)
theorem mr {F:Fr} {a:Act}:∀(l:List Nat) {s s':St} {Ω:Om},Holds F s.abs a Ω→tA l s=some s'→∃Ω',Ω'.w=Ω.w/\Holds F s'.abs a Ω'
 | [],s,s',Ω,h,hr=>by cases hr;exact ⟨Ω,rfl,h⟩
 | i ::r,s,s',Ω,h,hr=>by
  unfold tA at hr
  split at hr
  ·rename_i s1 h1
   obtain ⟨Ω1,e1,g1⟩:=pO h h1
   obtain ⟨Ω2,e2,g2⟩:=mr r g1 hr
   exact ⟨Ω2,e2.trans e1,g2⟩
  ·cases hr
def xQ (ops:List Oper) (s:St):Option St:=
 match enter ops s with
 | some s'=>some s'
 | none=>(match tA ((s.b.map (·.1)).filter fun i=>zo (oU ops) (sJ ops) i && !bz i) s with | some s'=>enter ops s' | none=>none)
theorem tB {F:Fr} {ops:List Oper} {s s':St} {a:Act} {Ω:Om} (h:Holds F s.abs a Ω) (he:xQ ops s=some s'):∃Ω',Ω'.w=Ω.w/\Holds F s'.abs a Ω':=by
 unfold xQ at he
 split at he
 ·rename_i s1 h1;cases he;exact jT h h1
 ·split at he
  ·rename_i s1 h1
   obtain ⟨Ω1,e1,g1⟩:=mr _ h h1
   obtain ⟨Ω2,e2,g2⟩:=jT g1 he
   exact ⟨Ω2,e2.trans e1,g2⟩
  ·cases he
end Go.AL
end
noncomputable section
namespace Go.AL
def D9 (k:Nat) (s:St):Option St:=
 match aq s.b k with
 | some (.tailp τ n x)=>
  if ((s.t.flatMap (fun y=>lensV k y.2)++s.b.flatMap (fun y=>FU k y.2)).all fun m=>Nat.beq m n)=true then
   some ⟨s.t.map fun y=>(y.1,finV k τ x y.2),(nX s.b k (.tail τ (n+1))).map fun y=>(y.1,Aa k τ x y.2)⟩ else none
 | _=>some s
def zN:List Nat→St→Option St
 | [],s=>some s
 | k ::r,s=>(match D9 k s with | some s=>zN r s | none=>none)
theorem rX {n:Nat} {q:Prop} (hq:q):∀l:List Nat,(l.all fun m=>Nat.beq m n)=true→sK n l q
 | [],_=>hq
 | m ::r,h=>by
  rw [List.all_cons,Bool.and_eq_true] at h
  exact ⟨Nat.eq_of_beq_eq_true h.1,rX hq r h.2⟩
theorem Da {k:Nat} {s s':St} {Q:St→Prop} (h:D9 k s=some s') (hq:Q s'):wU k s Q:=by
 unfold D9 at h
 unfold wU
 generalize hb:aq s.b k=b at h ⊢
 cases b with
 | none=>cases h;exact hq
 | some o=>
  cases o with
  | tailp τ n x=>
   dsimp only at h ⊢
   split at h
   ·rename_i ha
    cases h
    exact rX hq _ ha
   ·cases h
  | _=>cases h;exact hq
theorem vp {Q:St→Prop} {s':St} (hq:Q s'):∀(l:List Nat) (s:St),zN l s=some s'→wV l s Q
 | [],s,h=>by cases h;exact hq
 | k ::r,s,h=>by
  unfold zN at h
  split at h
  ·rename_i s1 h1
   exact Da h1 (vp hq r s1 h)
  ·cases h
def trimM (keep:Nat) (s:St):St:=⟨s.t.filter fun x=>Nat.beq (Nat.land (Nat.shiftRight keep x.1) 1) 1,s.b⟩
def Gw (C:Cfg) (keep:Nat) (ops:Array Oper) (draw:Bool) (s:St):Option St:=
 match vn C ops.toList (D7 ops.toList) ops.toList 0 s [] with
 | none=>none
 | some (s,fs)=>
  match zN (om s.b) s with
  | none=>none
  | some s=>
   match draw with
   | false=>evS (trimM keep s) some
   | true=>(match xO ops.toList fs with | true=>evS (trimM keep s) some | false=>none)
theorem Holds.trimM [Tabs] {F:Fr} {s:St} {a:Act} {Ω:Om} (h:Holds F s.abs a Ω) (keep:Nat):Holds F (trimM keep s).abs a Ω:=by
 refine ⟨fun i=>?_,h.size,h.defers,h.slots,h.dom,h.inj,h.pubok,h.keep,h.frame⟩
 have e:(AL.trimM keep s).abs.T i=if Nat.beq (Nat.land (Nat.shiftRight keep i) 1) 1=true then aT s.t i else .undef:=gX s.t (fun i=>Nat.beq (Nat.land (Nat.shiftRight keep i) 1) 1) i
 rw [e]
 split
 ·exact h.tmps i
 ·exact .undef _
theorem xR [Tabs] {P:Program} {C:Cfg} {F:Fr} (hm:P.follows .mixedOrders=true) (hT:aU P C.tbl) (hS:bJ P C.spec) {keep:Nat} {id:Nat} {ops:Array Oper} {draw:Bool} {s s':St} {a:Act} {Ω:Om}
  (hdst:∀(o:Oper),o∈ops.toList→∀d,o.dst=some d→d < F.n) (h:Gw C keep ops draw s=some s') (hh:Holds F s.abs a Ω):(Code.region id ops draw).wp P (QL F fun y t=>y=.normal/\t=s') a Ω.w:=by
 have key:bL C ops.toList draw (fun _ _=>False) ops.toList 0 s [] fun s2 fs=>Ga s2 fun s3=>s'=trimM keep s3/\(draw=true→dS ops.toList fs=true):=by
  unfold Gw at h
  split at h
  ·cases h
  ·rename_i s1 fs h1
   refine zL ?_ _ _ _ _ h1
   split at h
   ·cases h
   ·rename_i s2 h2
    refine vp ?_ _ _ h2
    split at h
    ·rw [D6] at h
     cases h
     exact ⟨rfl,fun q=>by cases q⟩
    ·split at h
     ·rename_i hi
      rw [D6] at h
      cases h
      exact ⟨rfl,fun _=>AZ hi⟩
     ·cases h
 refine mh hm hT hS hdst key (fun hdr s2 fs hk=>let ⟨s3,h3⟩:=mX _ hk;h3.2 hdr) hh (fun s2 fs a' Ω' hk h'=>
   let ⟨s3,Ω3,g1,g2,g3⟩:=pM h' hk
   ⟨.normal,trimM keep s3,Ω3,rfl,g1,g2.trimM keep,rfl,g3.1.symm⟩)
  (fun pv s2 a' Ω' v hk _ _=>hk.elim)
def zO (f:St→Option (SX × St)):Nat→St→Option (SX × St)
 | 0,_=>none
 | n+1,s=>
  match f s with
  | some (.normal,s')=>zO f n s'
  | r=>r
def iJ (C:Cfg) (keep:Nat) (pubs:List (Nat × List Nat)) (N:Nat):Code→St→Option (SX × St)
 | .skip,s=>some (.normal,s)
 | .seq a b,s=>
  (match iJ C keep pubs N a s with
  | some (.normal,s')=>iJ C keep pubs N b s'
  | r=>r)
 | .cond c a b,s=>
  (match opd (aT s.t) c with
  | .bool true=>iJ C keep pubs N a s
  | .bool false=>iJ C keep pubs N b s
  | _=>none)
 | .block id c,s=>
  (match iJ C keep pubs N c s with
  | some (.exit j,s')=>if j ==id then some (.normal,s') else some (.exit j,s')
  | r=>r)
 | .exit id,s=>some (.exit id,s)
 | .scope c,s=>iJ C keep pubs N c s
 | .label _,s=>some (.normal,s)
 | .ret,s=>some (.ret,s)
 | .region id ops draw,s=>
  (match mG (uh pubs id) s with
  | none=>none
  | some s=>
   match xQ ops.toList s with
   | none=>none
   | some s=>
    match Gw C keep ops draw s with
    | some s=>some (.normal,s)
    | none=>none)
 | .loop c,s=>zO (iJ C keep pubs N c) N s
 | _,_=>none
variable [Tabs]
variable {P:Program} {C:Cfg} {F:Fr}
theorem xS (hm:P.follows .mixedOrders=true) (hT:aU P C.tbl) (hS:bJ P C.spec) (keep:Nat) (pubs:List (Nat × List Nat)) (N:Nat) :
  ∀(c:Code) (s:St) (x:SX) (s':St) (a:Act) (Ω:Om),iJ C keep pubs N c s=some (x,s')→bG F.n c=true→Holds F s.abs a Ω→c.wp P (QL F fun y t=>y=x/\t=s') a Ω.w:=by
 intro c
 induction c with
 | skip=>intro s x s' a Ω h _ hh;cases h;exact wp_skip ⟨.normal,s,Ω,rfl,rfl,hh,rfl,rfl⟩
 | region id ops draw=>
  intro s x s' a Ω h hd hh
  unfold iJ at h
  split at h
  ·cases h
  ·rename_i s0 h0
   obtain ⟨Ω0,e0,g0⟩:=jh _ hh h0
   split at h
   ·cases h
   ·rename_i s1 h1
    obtain ⟨Ω1,e1,g1⟩:=tB g0 h1
    have hdst:∀(o:Oper),o∈ops.toList→∀d,o.dst=some d→d < F.n:=by
     intro o ho d hod
     simp only [bG,List.all_eq_true] at hd
     have:=hd o ho
     rw [hod] at this
     simpa using this
    split at h
    ·rename_i s2 h2
     cases h
     rw [←e0,←e1]
     exact xR hm hT hS hdst h2 g1
    ·cases h
 | seq x y ihx ihy=>
  intro s z s' a Ω h hd hh
  simp only [bG,Bool.and_eq_true] at hd
  unfold iJ at h
  cases h1:iJ C keep pubs N x s with
  | none=>rw [h1] at h;cases h
  | some r=>
   obtain ⟨e1,s1⟩:=r
   rw [h1] at h
   refine wp_seq (wp_mono (ihx s e1 s1 a Ω h1 hd.1 hh) ?_)
   intro e a' w' hq
   obtain ⟨e2,s2,Ω',g1,g2,g3,g4,g5⟩:=hq
   subst g2 g4 g5
   cases e2 with
   | normal=>cases g1;exact ihy _ z s' a' Ω' h hd.2 g3
   | exit id=>cases g1;cases h;exact ⟨.exit id,_,Ω',rfl,rfl,g3,rfl,rfl⟩
   | ret=>cases g1;cases h;exact ⟨.ret,_,Ω',rfl,rfl,g3,rfl,rfl⟩
   | pan pv=>obtain ⟨v,rfl,hv⟩:=g1;cases h;exact ⟨.pan pv,_,Ω',⟨v,rfl,hv⟩,rfl,g3,rfl,rfl⟩
 | cond c x y ihx ihy=>
  intro s z s' a Ω h hd hh
  simp only [bG,Bool.and_eq_true] at hd
  unfold iJ at h
  have hv:=bk hh c
  split at h
  ·rename_i hb
   have hb':opd s.abs.T c=.bool true:=hb
   rw [hb'] at hv
   exact wp_cond hv.bool_inv (ihx _ z s' a Ω h hd.1 hh)
  ·rename_i hb
   have hb':opd s.abs.T c=.bool false:=hb
   rw [hb'] at hv
   exact wp_cond hv.bool_inv (ihy _ z s' a Ω h hd.2 hh)
  ·cases h
 | block id c ih=>
  intro s z s' a Ω h hd hh
  simp only [bG] at hd
  unfold iJ at h
  cases h1:iJ C keep pubs N c s with
  | none=>rw [h1] at h;cases h
  | some r=>
   obtain ⟨e1,s1⟩:=r
   rw [h1] at h
   refine wp_block (wp_mono (ih s e1 s1 a Ω h1 hd hh) ?_)
   intro e a' w' hq
   obtain ⟨e2,s2,Ω',g1,g2,g3,g4,g5⟩:=hq
   subst g2 g4 g5
   cases e2 with
   | normal=>cases g1;cases h;exact ⟨.normal,_,Ω',rfl,rfl,g3,rfl,rfl⟩
   | ret=>cases g1;cases h;exact ⟨.ret,_,Ω',rfl,rfl,g3,rfl,rfl⟩
   | pan pv=>obtain ⟨v,rfl,hv⟩:=g1;cases h;exact ⟨.pan pv,_,Ω',⟨v,rfl,hv⟩,rfl,g3,rfl,rfl⟩
   | exit j=>
    cases g1
    simp only [xy,Exit.inBlock]
    by_cases hj:j=id
    ·subst hj
     simp only [beq_self_eq_true,if_true] at h
     cases h
     simp only [if_true]
     exact ⟨.normal,_,Ω',rfl,rfl,g3,rfl,rfl⟩
    ·simp only [beq_iff_eq,hj,if_false] at h
     cases h
     rw [if_neg hj]
     exact ⟨.exit j,_,Ω',rfl,rfl,g3,rfl,rfl⟩
 | loop c ih=>
  intro s z s' a Ω h hd hh
  simp only [bG] at hd
  unfold iJ at h
  refine wp_loop_rounds N ?_
  have key:∀(n:Nat) (s:St) (a:Act) (Ω:Om),zO (iJ C keep pubs N c) n s=some (z,s')→Holds F s.abs a Ω→Code.rounds P c (QL F fun y t=>y=z/\t=s') n a Ω.w:=by
   intro n
   induction n with
   | zero=>intro s a Ω h _;cases h
   | succ n ihn=>
    intro s a Ω h hh
    rw [rounds_succ]
    unfold zO at h
    cases h1:iJ C keep pubs N c s with
    | none=>rw [h1] at h;cases h
    | some r=>
     obtain ⟨e1,s1⟩:=r
     rw [h1] at h
     refine wp_mono (ih s e1 s1 a Ω h1 hd hh) ?_
     intro e a' w' hq
     obtain ⟨e2,s2,Ω',g1,g2,g3,g4,g5⟩:=hq
     subst g2 g4 g5
     cases e2 with
     | normal=>cases g1;exact ihn _ a' Ω' h g3
     | exit id=>cases g1;cases h;exact ⟨.exit id,_,Ω',rfl,rfl,g3,rfl,rfl⟩
     | ret=>cases g1;cases h;exact ⟨.ret,_,Ω',rfl,rfl,g3,rfl,rfl⟩
     | pan pv=>obtain ⟨v,rfl,hv⟩:=g1;cases h;exact ⟨.pan pv,_,Ω',⟨v,rfl,hv⟩,rfl,g3,rfl,rfl⟩
  exact key N s a Ω h hh
 | exit id=>intro s x s' a Ω h _ hh;cases h;exact wp_exit ⟨.exit id,s,Ω,rfl,rfl,hh,rfl,rfl⟩
 | ret=>intro s x s' a Ω h _ hh;cases h;exact wp_ret ⟨.ret,s,Ω,rfl,rfl,hh,rfl,rfl⟩
 | rangeFunc g ps x y _ _=>intro s z s' a Ω h;cases h
 | scope c ih=>
  intro s z s' a Ω h hd hh
  simp only [bG] at hd
  unfold iJ at h
  refine wp_scope_straight (wp_mono (ih s z s' a Ω h hd hh) ?_)
  intro e a' w' hq
  obtain ⟨e2,s2,Ω',h1,h2,h3,h4⟩:=hq
  cases e2 with
  | normal=>cases h1;exact ⟨.normal,_,Ω',rfl,h2,h3,h4⟩
  | exit id=>cases h1;exact ⟨.exit id,_,Ω',rfl,h2,h3,h4⟩
  | ret=>cases h1;exact ⟨.ret,_,Ω',rfl,h2,h3,h4⟩
  | pan pv=>obtain ⟨v,rfl,hv⟩:=h1;exact ⟨.pan pv,_,Ω',⟨v,rfl,hv⟩,h2,h3,h4⟩
 | label l=>intro s x s' a Ω h _ hh;cases h;exact wp_label ⟨.normal,s,Ω,rfl,rfl,hh,rfl,rfl⟩
 | goto l=>intro s z s' a Ω h;cases h
 | refuse why=>intro s z s' a Ω h;cases h
end Go.AL
end
noncomputable section
namespace Go.AL
variable [Tabs]
def Gx:AV→Bool
 | .ptr k 0=>bz k
 | _=>false
def ptrIn (ks:List Nat):AV→Bool
 | .ptr k _=>ks.contains k
 | _=>false
def Fc (ks:List Nat) (t:List (Nat × AV)):List (Nat × AV):=t.map fun x=>(x.1,if ptrIn ks x.2 then x.2 else .undef)
structure RC where
 r0:Code
 rest:Code
 crest:Code
 t5:Nat
 caps:List Operand
 t6:Nat
 t3:Nat
def Gy (g:Nat) (c cc:Code):Option RC:=
 match c,cc with
 | .seq r0 (.seq (.region _ o1 false) rest),.seq (.region _ o2 false) crest=>
  match o1.toList,o2.toList with
  | [⟨some t5,.makeFunc (.func g') fst caps,_,_,_,none⟩,⟨none,.defer ⟨.value (.tmp t5'),asx,_⟩,_,_,_,none⟩],
   [⟨some t6,.call ⟨.builtin .recover,as2,_⟩,_,_,_,none⟩,⟨some t3,.assign (.tmp t6'),_,_,_,none⟩]=>
   if Nat.beq g' g && Nat.beq t5' t5 && Nat.beq t6' t6 && fst.isEmpty && asx.isEmpty && as2.isEmpty then some ⟨r0,rest,crest,t5,caps.toList,t6,t3⟩ else none
  | _,_=>none
 | _,_=>none
def Db (C:Cfg) (rs:List ResultVar) (L:List cZ) (s1:St) (S1:List (Nat × SObj)) (S:List (Nat × SObj)) (A:Ans) (t2:List (Nat × AV)) (s3:St):Prop:=
 match b9 (aH s3.b) && (aH S1).all (fun k=>(aH s3.b).contains k) with
 | true=>
  match jv C.tbl ⟨Fc (aH S1) t2,s3.b⟩ rs with
  | some l=>
   (match jt (aq s1.b) L 998 (fQ S1 s3.b),mapVs (ny L 998) (fP L 998) (fP L 998) l with
   | some u',some l'=>eK ⟨[],cm s1.b u'⟩ fun s4=>rF (some l') s4 A.val (cm S A.upd)
   | _,_=>False)
  | none=>False
 | false=>False
def vq (C:Cfg) (annC:An) (clo:Func) (R:RC) (caps:List AV) (v:AV) (s2:St) (fin:St→Prop):Prop:=
 gT (List.range clo.ntmps) fun keep=>eK ⟨iT (cO 0 caps) R.t3 v,s2.b⟩ fun s=>swp C keep annC R.crest s fun
  | .exit _,_=>False
  | .pan _,_=>False
  | _,s3=>fin s3
def fwpR (C:Cfg) (ann annC:An) (fn:Func) (g:Nat) (clo:Func) (args:List AV) (S:List (Nat × SObj)) (A:Ans):Prop:=
 match fn.body,clo.body,A.pan with
 | some c,some cc,none=>
  match Gy g c cc with
  | none=>False
  | some R=>
   match bG fn.ntmps c && bG clo.ntmps cc && Nat.blt R.t5 fn.ntmps && kZ args fn.ntmps && (aH S).all bz && clo.results.isEmpty && kZ R.caps clo.ntmps && kZ R.caps R.t6 with
   | false=>False
   | true=>gT ((List.range fn.ntmps)) fun keep=>eK ⟨cO 0 args,S⟩ fun i=>swp C keep ann R.r0 i fun
    | .normal,s1=>
     (match (aH s1.b).map (fun i=>(i,(none:Option (Nat × Nat)))) with
     | L=>
      (match b9 (L.map (·.1)) && Nat.ble L.length 100,mapVs (toP L) (toI L) (toI L) ((List.range fn.ntmps).map (aT s1.t)),mapVs (toP L) (toI L) (toI L) (R.caps.map (opd (aT s1.t))),lR (aq s1.b) L L 900 with
      | true,some as1,some caps,some S1=>
       (match caps.all Gx with
       | true=>eK ⟨iT (cO 0 as1) R.t5 .undef,S1⟩ fun i=>swp C keep ann R.rest i fun
        | .exit _,_=>False
        | .pan v,s2=>vq C annC clo R caps v s2 (Db C fn.results.toList L s1 S1 S A s2.t)
        | _,s2=>vq C annC clo R caps .nilif s2 (Db C fn.results.toList L s1 S1 S A s2.t)
       | false=>False)
      | _,_,_,_=>False))
    | _,_=>False
 | _,_,_=>False
theorem nf:∀(u S:List (Nat × SObj)) (i:Nat),b9 (u.map (·.1))=true→aq (cm S u) i=(aq u i).or (aq S i)
 | [],S,i,_=>by simp [cm,aP,aJ]
 | (j,o) ::r,S,i,h=>by
  simp only [List.map_cons,b9,Bool.and_eq_true,Bool.not_eq_true'] at h
  simp only [cm]
  rw [nf r _ i h.2,gl]
  simp only [aP,aJ]
  by_cases e:j=i
  ·subst e
   have:aq r j=none:=by
    cases hb:aq r j with
    | none=>rfl
    | some o'=>
     have:=cC r j o' hb
     have h1:=h.1
     simp only [List.contains_eq_mem,decide_eq_false_iff_not,List.mem_map,not_exists,not_and] at h1
     exact absurd rfl (h1 _ this)
   simp [this]
  ·simp [e]
section
variable {P:Program} {C:Cfg}
theorem V.pinned {e0 e:Nat→Option CObj} {w0 w:World} {p0 p:Nat→Nat→Prop} (hk:∀id c,e0 id=some c→∃c',e id=some c'/\CLe c c') {a:AV} {v:Value} (ha:Gx a=true) (h:V ⟨e0,w0,p0⟩ a v):V ⟨e,w,p⟩ a v:=by
 cases h with
 | ptr i o b q len he=>
  obtain ⟨c',h1,h2⟩:=hk i _ he
  have:=h2.box
  subst this
  exact .ptr i o b q len h1
 | _=>simp [Gx] at ha
theorem Holds.retmp' {F:Fr} {s:AS} {a a':Act} {Ω:Om} (h:Holds F s a Ω) {n:Nat} {ds:List Deferred} {T:Nat→AV} (hT:∀i,V Ω (T i) (a'.tmps.getD i undef)) (hs:a'.tmps.size=n) (hd:a'.defers=ds) :
  Holds ⟨F.w0,F.pub0,n,F.e0,F.dom0,ds,F.tab0⟩ ⟨T,s.B⟩ a' Ω:=
 ⟨hT,hs,hd,h.slots,h.dom,h.inj,h.pubok,h.keep,⟨h.frame.os,h.frame.tape,h.frame.output,h.frame.size,h.frame.block,h.frame.cell,h.frame.kind,h.frame.pub,h.frame.old,h.frame.pcell⟩⟩
inductive Rcv:FrameMode→AV→Om→Value→FrameMode→Prop
 | ret (Ω:Om):Rcv .returning .nilif Ω .nilIface .returning
 | pan (Ω:Om) (a:AV) (v:Value):V Ω a v→Rcv (.panicking [{v,recovered:=false}]) a Ω v (.panicking [{v,recovered:=true}])
structure RCcode (g:Nat) (R:RC) (c cc:Code):Prop where
 code:∃i1 i2 ty1 ps1 af1 ty2 ps2 af2 ts2 ty3 ps3 af3 ts3 ty4 ps4 af4,
  c=.seq R.r0 (.seq (.region i1 #[⟨some R.t5,.makeFunc (.func g) #[] R.caps.toArray,ty1,ps1,af1,none⟩,⟨none,.defer ⟨.value (.tmp R.t5),#[],ts2⟩,ty2,ps2,af2,none⟩] false) R.rest)/\
  cc=.seq (.region i2 #[⟨some R.t6,.call ⟨.builtin .recover,#[],ts3⟩,ty3,ps3,af3,none⟩,⟨some R.t3,.assign (.tmp R.t6),ty4,ps4,af4,none⟩] false) R.crest
theorem Dc {g:Nat} {c cc:Code} {R:RC} (h:Gy g c cc=some R):RCcode g R c cc:=by
 unfold Gy at h
 split at h
 ·rename_i r0 i1 o1 rest i2 o2 crest
  split at h
  ·rename_i h1 h2
   split at h
   ·rename_i hc
    simp only [Bool.and_eq_true,Nat.beq_eq,Array.isEmpty_iff] at hc
    obtain ⟨⟨⟨⟨⟨rfl,rfl⟩,rfl⟩,rfl⟩,rfl⟩,rfl⟩:=hc
    simp only [Xs] at h
    subst h
    have e1:=congrArg List.toArray h1
    have e2:=congrArg List.toArray h2
    simp only [Array.toArray_toList] at e1 e2
    subst e1 e2
    exact ⟨_,_,_,_,_,_,_,_,_,_,_,_,_,_,_,_,rfl,rfl⟩
   ·cases h
  ·cases h
 ·cases h
theorem nT {ts:Array Nat} {d:Option Nat} {ty:Nat} {ps:String} {af:Array Edge} {ρ:Operand→Value} {w:World} :
  (execOp ρ ⟨d,.call ⟨.builtin .recover,#[],ts⟩,ty,ps,af,none⟩).run P w=.ok .recover w:=by
 simp [execOp,resolve,invoke,builtin]
theorem xT (hm:P.follows .mixedOrders=true) (hT:aU P C.tbl) (hS:bJ P C.spec) {g:Nat} {clo:Func} {c cc:Code} {R:RC} (hR:RCcode g R c cc) (hg:P.funcs[g]?=some clo) (hb:clo.body=some cc)
  (hd:bG clo.ntmps cc=true) (hres:clo.results=#[]) {caps:List AV} (hcl:caps.length<=clo.ntmps) (hc6:caps.length<=R.t6) {F:Fr} {s2:St} {a2:Act} {Ω2:Om} (h:Holds F s2.abs a2 Ω2) {vs:List Value} (hv:VL Ω2 caps vs)
  {u u':FrameMode} {av:AV} {v:Value} (hrc:Rcv u av Ω2 v u') {annC:An} {fin:St→Prop} (hc:vq C annC clo R caps av s2 fin) :
  CallsD P g vs.toArray u Ω2.w fun en u2 w'=>u2=u'/\en=.returned (.tuple #[])/\∃s3 Ω3 a3 T,Ω3.w=w'/\fin s3/\Holds ⟨F.w0,F.pub0,clo.ntmps,F.e0,F.dom0,[],F.tab0⟩ ⟨T,aq s3.b⟩ a3 Ω3:=by
 obtain ⟨i1,i2,ty1,ps1,af1,ty2,ps2,af2,ts2,ty3,ps3,af3,ts3,ty4,ps4,af4,_,rfl⟩:=hR
 refine callsD_of_wpS hg hb (fun c₀ cs hu=>?_)
 apply wpS_seq
 apply wpS_region
 simp only [bG,Bool.and_eq_true,List.all_cons,List.all_nil,Bool.and_true,Nat.blt_eq] at hd
 obtain ⟨⟨hd6,hd3⟩,hdc⟩:=hd
 have hvs:vs.length<=clo.ntmps:=by rw [←hv.1];exact hcl
 have hbase:Holds ⟨F.w0,F.pub0,clo.ntmps,F.e0,F.dom0,[],F.tab0⟩ ⟨aT (cO 0 caps),aq s2.b⟩ {tmps:=vs.toArray++Array.replicate (clo.ntmps - vs.toArray.size) undef,defers:=[]} Ω2:=
  h.retmp' (fun i=>iF _ hv i) (by simp;omega) rfl
 have key:∃cs',(∃c1,cs'=c1 ::cs/\c1={c₀ with mode:=u'})/\∀Q':Exit→Act→List Frame→World→Prop,Q' .normal (({tmps:=vs.toArray++Array.replicate (clo.ntmps - vs.toArray.size) undef,defers:=[]}:Act).put (some R.t6) v |>.put (some R.t3) v) cs' Ω2.w→
   wpOpsS P #[⟨some R.t6,.call ⟨.builtin .recover,#[],ts3⟩,ty3,ps3,af3,none⟩,⟨some R.t3,.assign (.tmp R.t6),ty4,ps4,af4,none⟩] Q' [0,1] {tmps:=vs.toArray++Array.replicate (clo.ntmps - vs.toArray.size) undef,defers:=[]} (c₀ ::cs) Ω2.w:=by
  have two:∀(cs':List Frame) (Q':Exit→Act→List Frame→World→Prop),Q' .normal (({tmps:=vs.toArray++Array.replicate (clo.ntmps - vs.toArray.size) undef,defers:=[]}:Act).put (some R.t6) v |>.put (some R.t3) v) cs' Ω2.w→
    wpOpsS P #[⟨some R.t6,.call ⟨.builtin .recover,#[],ts3⟩,ty3,ps3,af3,none⟩,⟨some R.t3,.assign (.tmp R.t6),ty4,ps4,af4,none⟩] Q' [1] (({tmps:=vs.toArray++Array.replicate (clo.ntmps - vs.toArray.size) undef,defers:=[]}:Act).put (some R.t6) v) cs' Ω2.w:=by
   intro cs' Q' hq
   have he:(({tmps:=vs.toArray++Array.replicate (clo.ntmps - vs.toArray.size) undef,defers:=[]}:Act).put (some R.t6) v).eval (.tmp R.t6)=v:=by
    show (Act.put _ (some R.t6) v).tmps.getD R.t6 undef=v
    rw [cu hbase.size hd6,if_pos rfl]
   unfold wpOpsS
   simp only [List.getElem?_toArray,List.getElem?_cons_succ,List.getElem?_cons_zero,Region.wanted,if_true]
   have hr:(execOp (({tmps:=vs.toArray++Array.replicate (clo.ntmps - vs.toArray.size) undef,defers:=[]}:Act).put (some R.t6) v).eval ⟨some R.t3,.assign (.tmp R.t6),ty4,ps4,af4,none⟩).run P Ω2.w=.ok (.value v) Ω2.w:=by
    show (pure (Next.value (Act.eval _ (.tmp R.t6))):Sem Next).run P Ω2.w=_
    rw [he]
    rfl
   rw [hr]
   simp only [Oper.upon]
   exact hq
  cases hrc with
  | ret=>
   refine ⟨_,⟨c₀,rfl,by cases c₀;simp only at hu;subst hu;rfl⟩,fun Q' hq=>?_⟩
   unfold wpOpsS
   simp only [List.getElem?_toArray,List.getElem?_cons_zero,Region.wanted,if_true]
   rw [nT]
   simp only [recoverD,hu]
   exact two _ Q' hq
  | pan _ _ hv'=>
   refine ⟨_,⟨_,rfl,rfl⟩,fun Q' hq=>?_⟩
   unfold wpOpsS
   simp only [List.getElem?_toArray,List.getElem?_cons_zero,Region.wanted,if_true]
   rw [nT]
   simp only [recoverD,hu]
   exact two _ Q' hq
 obtain ⟨cs',⟨c1,rfl,hc1⟩,key⟩:=key
 refine key _ ?_
 refine wpS_of_wp ?_
 unfold vq at hc
 rw [gC,da] at hc
 have hav:V Ω2 av v:=by
  cases hrc <;> first | exact .nilif | assumption
 have h1:=(hbase.pure (dst:=some R.t6) (val:=.undef) (v:=v) (.undef v) (fun d e=>by cases e;exact hd6)).pure (dst:=some R.t3) (val:=av) (v:=v) hav (fun d e=>by cases e;exact hd3)
 have h2:Holds ⟨F.w0,F.pub0,clo.ntmps,F.e0,F.dom0,[],F.tab0⟩ (St.abs ⟨iT (cO 0 caps) R.t3 av,s2.b⟩) _ Ω2:=h1.weak (s':=St.abs ⟨iT (cO 0 caps) R.t3 av,s2.b⟩) (fun i=>by
  simp only [St.abs,fm,bN]
  by_cases e3:R.t3=i
  ·right;simp [e3]
  ·by_cases e6:R.t6=i
   ·left
    subst e6
    rw [if_neg e3,fq,if_pos (Nat.zero_le _),Nat.sub_zero]
    simp [List.getD_eq_getElem?_getD,List.getElem?_eq_none hc6]
   ·right;simp [e3,e6]) rfl
 refine wp_mono (kI hm hT hS _ annC R.crest _ _ _ Ω2 hc hdc h2) ?_
 intro e a' w' hq
 obtain ⟨z,s3,Ω3,q1,q2,q3,q4⟩:=hq
 have fin3:fin s3→bodyPostS P clo c₀ cs (fun en u2 w'=>u2=u'/\en=.returned (.tuple #[])/\∃s3 Ω3 a3 T,Ω3.w=w'/\fin s3/\Holds ⟨F.w0,F.pub0,clo.ntmps,F.e0,F.dom0,[],F.tab0⟩ ⟨T,aq s3.b⟩ a3 Ω3) .ret a' (c1 ::cs) w':=by
  intro hf
  refine ⟨q3.defers,u',by rw [hc1],.tuple #[],by simp [results,hres],rfl,rfl,s3,Ω3,a',_,q2,hf,q3⟩
 cases z with
 | normal=>cases q1;exact fin3 q4
 | ret=>cases q1;exact fin3 q4
 | exit id=>exact q4.elim
 | pan v=>exact q4.elim
theorem B0 {w:World} {pub:Nat→Nat→Prop} {e:Nat→Option CObj} {n:Nat} {hl:∀id c,e id=some c→bz id=true} {ds:List Deferred} {ht:gw w pub e} {T:Nat→AV} {t:List (Nat × AV)} {b b':List (Nat × SObj)} {a:Act} {Ω:Om} {l:List AV} {us:List Value} {val:AV}
  (hh:Holds ⟨w,pub,n,e,hl,ds,ht⟩ ⟨T,aq b⟩ a Ω) (k2:VL Ω l us) (hend:rF (some l) ⟨t,b⟩ val b') :
  ∃pub' e',V ⟨e',Ω.w,pub'⟩ val (if h:us.toArray.size=1 then us.toArray[0] else .tuple us.toArray)/\After w pub e (aq b') Ω.w pub' e':=by
 unfold rF at hend
 split at hend
 ·rename_i x hres
  cases hres
  obtain ⟨u,rfl⟩:=iG (by rw [←k2.1];rfl)
  have h1:=hh.retmp' (T:=aT (cO 0 [x])) (a':={tmps:=[u].toArray++Array.replicate 0 undef,defers:=[]}) (n:=1) (ds:=[]) (fun i=>iF 0 k2 i) (by simp) rfl
  obtain ⟨Ω2,e2,hh2⟩:=dw (s:=⟨[(0,x)],b⟩) h1 (fU hend)
  refine ⟨Ω2.pub,Ω2.e,?_,?_⟩
  ·have:=hh2.tmps 0
   rw [←e2]
   exact this
  ·rw [←e2]
   exact gD hh2
 ·rename_i l' hne hres
  cases hres
  split at hend
  ·rename_i rs
   split at hend
   ·rename_i hln
    have hl2:=bP _ _ hln
    have h1:=hh.retmp' (T:=aT (cO 0 l)) (a':={tmps:=us.toArray++Array.replicate 0 undef,defers:=[]}) (n:=us.length) (ds:=[]) (fun i=>iF 0 k2 i) (by simp) rfl
    obtain ⟨Ω2,e2,hh2⟩:=dw (s:=⟨cO 0 l,b⟩) h1 (fU hend)
    have hsz:¬us.toArray.size=1:=by
     intro h1
     obtain ⟨x,hx⟩:=iG (l:=l) (by rw [k2.1];simpa using h1)
     exact hne x hx
    rw [dif_neg hsz]
    refine ⟨Ω2.pub,Ω2.e,?_,?_⟩
    ·refine .tup rs us (by rw [←k2.1,←hl2]) (fun j c v hc hv=>?_)
     have:=hh2.tmps j
     simp only [St.abs,fq,Nat.zero_le,if_true,Nat.sub_zero,List.getD_eq_getElem?_getD,hc,Option.getD_some] at this
     have e3:(us.toArray++Array.replicate 0 undef).getD j undef=v:=by
      simp [Array.getD_eq_getD_getElem?,hv]
     rw [e3] at this
     rw [←e2]
     exact this
    ·rw [←e2]
     exact gD hh2
   ·exact hend.elim
  ·exact hend.elim
 ·rename_i h;cases h
theorem CLe.to_box {c:CObj} {b o l:Nat} (h:CLe c (.box b o l)):c=.box b o l:=by
 cases c <;> simp [CLe] at h
 obtain ⟨rfl,rfl,rfl⟩:=h
 rfl
theorem V.ptrIn {F:Fr} {Ω2 Ω3:Om} {ks:List Nat} (h2:∀id c,F.e0 id=some c→∃c',Ω2.e id=some c'/\CLe c c') (h3:∀id c,F.e0 id=some c→∃c',Ω3.e id=some c'/\CLe c c')
  (hk:∀k∈ks,∃c,F.e0 k=some c) {a:AV} {v:Value} (h:V Ω2 a v):V Ω3 (if AL.ptrIn ks a=true then a else .undef) v:=by
 split
 ·rename_i hp
  cases h with
  | ptr i o b q len he=>
   simp only [AL.ptrIn,List.contains_eq_mem,decide_eq_true_eq] at hp
   obtain ⟨c,hc⟩:=hk i hp
   obtain ⟨c2,e2,l2⟩:=h2 i c hc
   rw [he] at e2
   cases e2
   have:=l2.to_box
   subst this
   obtain ⟨c3,e3,l3⟩:=h3 i _ hc
   have:=l3.box
   subst this
   exact .ptr i o b q len e3
  | _=>simp [AL.ptrIn] at hp
 ·exact .undef v
theorem B1 (hT:aU P C.tbl) {w:World} {pub:Nat→Nat→Prop} {e:Nat→Option CObj} {n n1:Nat} {hl:∀id c,e id=some c→bz id=true} {ht:gw w pub e} {s1:St} {a1:Act} {Ω1:Om} {L:List cZ} {ht1:gw Ω1.w Ω1.pub (cN L Ω1.e)} (h3:Holds ⟨w,pub,n,e,hl,[],ht⟩ s1.abs a1 Ω1)
  (hdist:b9 (L.map (·.1))=true) {S1:List (Nat × SObj)} (hS1:lR (aq s1.b) L L 900=some S1) {hl1:∀id c,cN L Ω1.e id=some c→bz id=true} (hk1:∀k∈aH S1,∃c,cN L Ω1.e k=some c)
  {ds:List Deferred} {s2:St} {a2:Act} {Ω2:Om} (q3:Holds ⟨Ω1.w,Ω1.pub,n,cN L Ω1.e,hl1,ds,ht1⟩ s2.abs a2 Ω2) {s3:St} {a3:Act} {Ω3:Om} {T:Nat→AV} (h5:Holds ⟨Ω1.w,Ω1.pub,n1,cN L Ω1.e,hl1,[],ht1⟩ ⟨T,aq s3.b⟩ a3 Ω3)
  {fn:Func} {S:List (Nat × SObj)} {A:Ans} (hpan:A.pan=none) (hf:Db C fn.results.toList L s1 S1 S A s2.t s3) :
  ∃v,(results fn a2.tmps).run P Ω3.w=.ok v Ω3.w/\∃pub' e',(∀b pv u,A.pan=some (b,pv,u)→b=false)/\V ⟨e',Ω3.w,pub'⟩ A.val v/\After w pub e (aq (cm S A.upd)) Ω3.w pub' e':=by
 unfold Db at hf
 split at hf
 ·rename_i hck
  simp only [Bool.and_eq_true,List.all_eq_true] at hck
  obtain ⟨hd3,hin⟩:=hck
  split at hf
  ·rename_i l hres
   split at hf
   ·rename_i u' l' hu' hl'
    rw [da] at hf
    have hR:Holds ⟨Ω1.w,Ω1.pub,n,cN L Ω1.e,hl1,ds,ht1⟩ (St.abs ⟨Fc (aH S1) s2.t,s3.b⟩) a2 Ω3:=by
     have:=h5.retmp' (T:=aT (Fc (aH S1) s2.t)) (a':=a2) (n:=n) (ds:=ds) (fun i=>by
      rw [show aT (Fc (aH S1) s2.t) i=if ptrIn (aH S1) (aT s2.t i)=true then aT s2.t i else .undef from mg (fun x=>if ptrIn (aH S1) x=true then x else .undef) (by simp [ptrIn]) s2.t i]
      exact V.ptrIn (F:=⟨Ω1.w,Ω1.pub,n,cN L Ω1.e,hl1,ds,ht1⟩) q3.keep h5.keep hk1 (q3.tmps i)) q3.size q3.defers
     exact this
    obtain ⟨us,k1,k2⟩:=eA hT hR _ _ hres
    have hmap:(results fn a2.tmps).run P Ω3.w=.ok (if h:us.toArray.size=1 then us.toArray[0] else .tuple us.toArray) Ω3.w:=by
     rw [lC,←Array.toArray_toList (xs:=fn.results),List.mapM_toArray]
     simp only [Sem.run_bind,Sem.run_map,k1,Result.andThen_ok,Sem.run_pure]
    have hB:aq (cm S1 s3.b)=aq s3.b:=by
     funext i
     rw [nf _ _ _ hd3]
     cases h:aq s3.b i with
     | some o=>rfl
     | none=>
      cases h':aq S1 i with
      | none=>rfl
      | some o=>
       have:=hin i (List.mem_map.2 ⟨(i,o),cC _ _ _ h',rfl⟩)
       simp only [List.contains_eq_mem,decide_eq_true_eq] at this
       exact absurd this (iD _ _ h)
    have hA:After Ω1.w Ω1.pub (cN L Ω1.e) (aq (cm S1 s3.b)) Ω3.w Ω3.pub Ω3.e:=by
     rw [hB]
     exact gD (h5.retmp' (T:=T) (a':=a3) (n:=n1) (ds:=[]) h5.tmps h5.size h5.defers)
    obtain ⟨Ω',w1,w2,w3⟩:=mN h3 (d:=998) (by omega) hdist hS1 hd3 hu' (val:=.tup l) (val':=.tup l') (by simp only [mapV,hl']) (v:=.tuple us.toArray) (V.of_tup k2) hA
    obtain ⟨us',e1,k3⟩:=w2.tup_inv
    have e2:us=us':=by
     have:=congrArg Array.toList (Value.tuple.inj e1)
     simpa using this
    subst e2
    rw [show s1.abs.B=aq s1.b from rfl,←gB] at w3
    obtain ⟨pub',e',p1,p2⟩:=B0 (T:=s1.abs.T) (b:=cm s1.b u') (t:=[]) w3 k3 hf
    rw [w1] at p1 p2
    exact ⟨_,hmap,pub',e',(fun b pv u h=>by rw [hpan] at h;cases h),p1,p2⟩
   ·exact hf.elim
  ·exact hf.elim
 ·exact hf.elim
theorem fwpR_sound (hm:P.follows .mixedOrders=true) (hT:aU P C.tbl) (hS:bJ P C.spec) {ann annC:An} {f g:Nat} {fn clo:Func} (hf:P.funcs[f]?=some fn) (hg:P.funcs[g]?=some clo)
  (eg:∀args w,(callFunc g args).run P w=.ok (.enter g args) w) {args:List AV} {S:List (Nat × SObj)} {A:Ans} (h:fwpR C ann annC fn g clo args S A):aw P f args S A:=by
 intro w pub e vs hp ht hv hs hdom hinj
 unfold fwpR at h
 split at h
 ·rename_i c cc hb hcb hpan
  split at h
  ·exact h.elim
  ·rename_i R hR
   split at h
   ·exact h.elim
   ·rename_i hck
    simp only [Bool.and_eq_true,List.all_eq_true,Array.isEmpty_iff,Nat.blt_eq] at hck
    obtain ⟨⟨⟨⟨⟨⟨⟨hk1,hk2⟩,hk5⟩,hk3⟩,hk4⟩,hres⟩,hcl⟩,hc6⟩:=hck
    have hlen:=dB _ _ hk3
    have hcl:=dB _ _ hcl
    have hc6:=dB _ _ hc6
    rw [gC,da] at h
    have hlent:∀id c,e id=some c→bz id=true:=by
     intro id c hc
     cases hg:aq S id with
     | none=>rw [hdom id hg] at hc;cases hc
     | some o=>exact hk4 id (List.mem_map.2 ⟨(id,o),cC _ _ _ hg,rfl⟩)
    have hRc:=Dc hR
    obtain ⟨i1,i2,ty1,ps1,af1,ty2,ps2,af2,ts2,ty3,ps3,af3,ts3,ty4,ps4,af4,rfl,_⟩:=id hRc
    refine calls_of_wp_defers hf hb ?_
    have hh:=jj (n:=fn.ntmps) hp ht hv hlen hs hdom hinj hlent
    have hdr:bG fn.ntmps R.r0=true/\bG fn.ntmps R.rest=true:=by
     simp only [bG,Bool.and_eq_true] at hk1
     exact ⟨hk1.1,hk1.2.2⟩
    refine wp_seq (wp_mono (kI (F:=⟨w,pub,fn.ntmps,e,hlent,[],ht⟩) hm hT hS _ ann R.r0 _ _ _ _ h hdr.1 hh) ?_)
    intro en a1 w1 hq
    obtain ⟨z,s1,Ω1,q1,rfl,h3,h4⟩:=hq
    cases z with
    | exit id=>exact h4.elim
    | ret=>exact h4.elim
    | pan pv=>exact h4.elim
    | normal=>
     cases q1
     simp only at h4
     generalize hLL:(aH s1.b).map (fun i=>(i,(none:Option (Nat × Nat))))=L at h4
     split at h4
     ·rename_i as1 caps S1 hdl has hcaps hS1
      simp only [Bool.and_eq_true,Nat.ble_eq] at hdl
      obtain ⟨hdist,hL100⟩:=hdl
      split at h4
      ·rename_i hcp
       rw [da] at h4
       obtain ⟨k1,k2,k3⟩:=gj L 900 S1 hS1
       refine wp_seq (wp_region ?_)
       show wpOps P _ _ [0,1] a1 Ω1.w
       refine cD (o:=⟨some R.t5,.makeFunc (.func g) #[] R.caps.toArray,ty1,ps1,af1,none⟩) rfl rfl (aB (v:=.func (.func g) #[] (R.caps.toArray.map a1.eval)) (w':=Ω1.w) (by simp [execOp,Instr.makeFunc]) ?_)
       have he5:(a1.put (some R.t5) (.func (.func g) #[] (R.caps.toArray.map a1.eval))).eval (.tmp R.t5)=.func (.func g) #[] (R.caps.toArray.map a1.eval):=by
        show (Act.put a1 (some R.t5) _).tmps.getD R.t5 undef=_
        rw [cu h3.size hk5,if_pos rfl]
       refine cD (o:=⟨none,.defer ⟨.value (.tmp R.t5),#[],ts2⟩,ty2,ps2,af2,none⟩) rfl rfl ?_
       have hrun:(execOp (a1.put (some R.t5) (.func (.func g) #[] (R.caps.toArray.map a1.eval))).eval ⟨none,.defer ⟨.value (.tmp R.t5),#[],ts2⟩,ty2,ps2,af2,none⟩).run P Ω1.w=.ok (.defer {target:=.fn (.func g) (R.caps.toArray.map a1.eval),args:=#[]}) Ω1.w:=by
        have he5':=he5
        simp only [List.map_toArray] at he5'
        simp [execOp,resolve,he5',Deferred.ofValue]
       unfold Oper.wp
       rw [hrun]
       have hcv:R.caps.toArray.map a1.eval=(R.caps.map a1.eval).toArray:=by simp
       have hdef0:a1.defers=[]:=h3.defers
       have hvl1:VL Ω1 ((List.range fn.ntmps).map (aT s1.t)) a1.tmps.toList:=by
        have hz:a1.tmps.size=fn.ntmps:=h3.size
        refine ⟨by simp;omega,fun j c v hc hv=>?_⟩
        simp only [List.getElem?_map,Option.map_eq_some_iff] at hc
        obtain ⟨q,hq,rfl⟩:=hc
        have hqj:q=j:=by
         have:=List.getElem?_eq_some_iff.1 hq
         obtain ⟨_,e⟩:=this
         simpa using e.symm
        subst hqj
        have:=h3.tmps q
        rw [Array.getElem?_toList] at hv
        simp only [Array.getD_eq_getD_getElem?,hv,Option.getD_some] at this
        exact this
       have hvc1:VL Ω1 (R.caps.map (opd (aT s1.t))) (R.caps.map a1.eval):=by
        refine ⟨by simp,fun j c v hc hv=>?_⟩
        simp only [List.getElem?_map,Option.map_eq_some_iff] at hc hv
        obtain ⟨x,hx,rfl⟩:=hc
        obtain ⟨y,hy,rfl⟩:=hv
        rw [hx] at hy
        cases hy
        exact bk h3 x
       have hvl:=hvl1.mapVs (jN L Ω1.e) has
       have hvc:=hvc1.mapVs (jN L Ω1.e) hcaps
       have hlent1:∀k i r,bg L k=some (i,r)→∃o o',s1.abs.B i=some o/\eG L r o=some o'/\aq S1 k=some o':=by
        intro k i r hk
        obtain ⟨h1,h2⟩:=ez hk
        obtain ⟨o,o',q1,q2,q3⟩:=k2 _ i r h2
        rw [show 900+(k - 900)=k by omega] at q3
        exact ⟨o,o',q1,q2,q3⟩
       have hLs:∀q i r,nth L q=some (i,r)→∃o o',s1.abs.B i=some o/\eG L r o=some o':=fun q i r hq=>let ⟨o,o',q1,q2,_⟩:=k2 q i r hq;⟨o,o',q1,q2⟩
       have hslots:∀id o,aq S1 id=some o→bu ⟨cN L Ω1.e,Ω1.w,Ω1.pub⟩ (fun _ _=>True) id o:=fun id o' ho'=>by
        obtain ⟨q,i,r,o2,e1,e2,e3,e4⟩:=k1 id o' ho'
        subst e1
        exact uK (cw (kF L i 900 q r hdist e2)) (h3.slots i o2 e3) e4
       have hdom1:∀id,aq S1 id=none→cN L Ω1.e id=none:=fun id hid=>by
        unfold cN
        cases hl:bg L id with
        | none=>rfl
        | some x=>
         obtain ⟨o1,o2,_,_,q3⟩:=hlent1 id x.1 x.2 hl
         rw [hid] at q3
         cases q3
       have hinj1:Inj (cN L Ω1.e):=fun i j c c' b oo hi hj ho1 ho2=>by
        obtain ⟨i1,r1,c1,p1,p2,p3⟩:=iC h3.slots hLs hi
        obtain ⟨i2,r2,c2,p4,p5,p6⟩:=iC h3.slots hLs hj
        have:=h3.inj i1 i2 c1 c2 b oo p2 p5 (p3 b oo ho1) (p6 b oo ho2)
        subst this
        have a1:=cX hdist p1
        have a2:=cX hdist p4
        rw [a1] at a2
        simp at a2
        exact a2.1
       have hpin:∀id c,cN L Ω1.e id=some c→bz id=true:=by
        intro id c hc
        cases hg:aq S1 id with
        | none=>rw [hdom1 id hg] at hc;cases hc
        | some o=>
         have:=k3 (id,o) (cC _ _ _ hg)
         simp only [bz,Bool.and_eq_true,Nat.ble_eq,Nat.blt_eq]
         simp only at this
         omega
       have hkS:∀k∈aH S1,∃c,cN L Ω1.e k=some c:=by
        intro k hk
        obtain ⟨x,hx,rfl⟩:=List.mem_map.1 hk
        cases hg:aq S1 x.1 with
        | none=>exact absurd (List.mem_map.2 ⟨x,hx,rfl⟩) (iD _ _ hg)
        | some o=>
         have hso:=hslots x.1 o hg
         cases o with
         | box c=>obtain ⟨_,_,e1,_⟩:=hso;exact ⟨_,e1⟩
         | tail τ n=>obtain ⟨_,_,e1,_⟩:=hso;exact ⟨_,e1⟩
         | map κ τ m=>obtain ⟨_,e1,_⟩:=hso;exact ⟨_,e1⟩
         | bld t u l=>obtain ⟨_,_,e1,_⟩:=hso;exact ⟨_,e1⟩
         | tailp τ n x=>obtain ⟨_,_,e1,_⟩:=hso;exact ⟨_,e1⟩
       have hlen1:as1.length<=fn.ntmps:=by
        have:=hvl.1
        rw [this,Array.length_toList,h3.size]
        exact Nat.le_refl _
       have hi1:=jj (n:=fn.ntmps) h3.pubok (h3.tabsC hLs) hvl hlen1 hslots hdom1 hinj1 hpin
       have hi2:=hi1.retmp' (T:=aT (cO 0 as1)) (a':={tmps:=a1.tmps,defers:=[{target:=.fn (.func g) (R.caps.toArray.map a1.eval),args:=#[]}]}) (n:=fn.ntmps) (ds:=[{target:=.fn (.func g) (R.caps.toArray.map a1.eval),args:=#[]}])
        (fun i=>by
         have:=hi1.tmps i
         have e0:(a1.tmps.toList.toArray++Array.replicate (fn.ntmps - a1.tmps.toList.toArray.size) undef)=a1.tmps:=by
          have hz:a1.tmps.size=fn.ntmps:=h3.size
          apply Array.ext'
          simp [hz]
         rw [e0] at this
         exact this) h3.size rfl
       have hi3:=hi2.pure (dst:=some R.t5) (val:=.undef) (v:=.func (.func g) #[] (R.caps.toArray.map a1.eval)) (.undef _) (fun d e=>by cases e;exact hk5)
       have hi4:=hi3.weak (s':=St.abs ⟨iT (cO 0 as1) R.t5 .undef,S1⟩) (fun i=>by
        simp only [St.abs,fm,bN]
        by_cases e5:R.t5=i
        ·left;simp [e5]
        ·right;simp [e5]) rfl
       have hact:(({tmps:=a1.tmps,defers:=[{target:=.fn (.func g) (R.caps.toArray.map a1.eval),args:=#[]}]}:Act).put (some R.t5) (.func (.func g) #[] (R.caps.toArray.map a1.eval)))=
         ({(a1.put (some R.t5) (.func (.func g) #[] (R.caps.toArray.map a1.eval))) with defers:={target:=.fn (.func g) (R.caps.toArray.map a1.eval),args:=#[]} ::(a1.put (some R.t5) (.func (.func g) #[] (R.caps.toArray.map a1.eval))).defers}:Act).put none undef:=by
        simp [Act.put,hdef0]
       show Code.wp P R.rest _ (({(a1.put (some R.t5) (.func (.func g) #[] (R.caps.toArray.map a1.eval))) with defers:={target:=.fn (.func g) (R.caps.toArray.map a1.eval),args:=#[]} ::(a1.put (some R.t5) (.func (.func g) #[] (R.caps.toArray.map a1.eval))).defers}:Act).put none undef) Ω1.w
       rw [←hact]
       refine wp_mono (kI hm hT hS _ ann R.rest _ _ _ ⟨cN L Ω1.e,Ω1.w,Ω1.pub⟩ h4 hdr.2 hi4) ?_
       intro en a2 w2 hq
       obtain ⟨z,s2,Ω2,g1,rfl,g3,g4⟩:=hq
       have hcv2:VL Ω2 caps (R.caps.map a1.eval):=by
        refine ⟨hvc.1,fun j c v hc hv=>?_⟩
        exact V.pinned g3.keep (List.all_eq_true.1 hcp c (List.mem_of_getElem? hc)) (hvc.2 j c v hc hv)
       have hcl':caps.length<=clo.ntmps:=by rw [hvc.1,List.length_map];exact hcl
       have hc6':caps.length<=R.t6:=by rw [hvc.1,List.length_map];exact hc6
       have close:∀(u u':FrameMode) (av:AV) (v:Value),u≠.run→settle u'=.returning→Rcv u av Ω2 v u'→vq C annC clo R caps av s2 (Db C fn.results.toList L s1 S1 S A s2.t)→
         Leaves P fn a2.tmps (fun en w'=>∃pub' e',match en with
          | .returned v=>(∀b pv u,A.pan=some (b,pv,u)→b=false)/\V ⟨e',w',pub'⟩ A.val v/\After w pub e (aq (cm S A.upd)) w' pub' e'
          | .panicked ch=>∃pv u v,A.pan=some (true,pv,u)/\ch=[{v,recovered:=false}]/\V ⟨e',w',pub'⟩ pv v/\After w pub e (aq (cm S u)) w' pub' e'
          | .outgrown=>False) [{target:=.fn (.func g) (R.caps.toArray.map a1.eval),args:=#[]}] u Ω2.w:=by
        intro u u' av v hu hse hrc hcr
        refine leaves_cons (f:=g) (args:=(R.caps.map a1.eval).toArray) hu (by simp [invoke,eg]) ?_
        refine (xT hm hT hS hRc hg hcb hk2 hres hcl' hc6' g3 hcv2 hrc hcr).mono ?_
        rintro en u2 w3 ⟨rfl,rfl,s3,Ω3,a3,T3,rfl,hfin,h5⟩
        simp only [hse,Leaves]
        obtain ⟨v,r1,pub',e',r2,r3,r4⟩:=B1 hT h3 hdist hS1 hkS g3 h5 hpan hfin
        exact ⟨v,r1,pub',e',r2,r3,r4⟩
       have hds:a2.defers=[{target:=.fn (.func g) (R.caps.toArray.map a1.eval),args:=#[]}]:=g3.defers
       cases z with
       | normal=>cases g1;show Leaves P fn a2.tmps _ a2.defers .returning Ω2.w;rw [hds];exact close .returning .returning .nilif .nilIface (by simp) rfl (.ret Ω2) g4
       | ret=>cases g1;show Leaves P fn a2.tmps _ a2.defers .returning Ω2.w;rw [hds];exact close .returning .returning .nilif .nilIface (by simp) rfl (.ret Ω2) g4
       | exit id=>exact g4.elim
       | pan pv=>
        obtain ⟨v,rfl,hv⟩:=g1
        show Leaves P fn a2.tmps _ a2.defers (.panicking [{v,recovered:=false}]) Ω2.w
        rw [hds]
        exact close _ (.panicking [{v,recovered:=true}]) pv v (by simp) (by simp [settle]) (.pan Ω2 pv v hv) g4
      ·exact h4.elim
     ·exact h4.elim
 ·exact h.elim
end
end Go.AL
end
noncomputable section
namespace Go.AL
variable [Tabs]
mutual
def fineV:AV→Bool
 | .lstp _ _ _=>false
 | .tptr _ _ _=>false
 | .cptr c=>fineV c
 | .agg cs=>fineVs cs
 | .tup cs=>fineVs cs
 | .fn _ cs=>fineVs cs
 | .iface _ a=>fineV a
 | _=>true
def fineVs:List AV→Bool
 | []=>true
 | a ::r=>fineV a && fineVs r
end
def G0:SObj→Bool
 | .box c=>fineV c
 | .tailp _ _ _=>false
 | _=>true
mutual
def strip:AV→AV
 | .lst τ xs _=>.lst τ xs none
 | .agg cs=>.agg (strips cs)
 | .tup cs=>.tup (strips cs)
 | a=>a
def strips:List AV→List AV
 | []=>[]
 | a ::r=>strip a ::strips r
end
theorem lJ (τ:Ty) (xs:List (den τ)):fB τ τ xs=some xs:=by simp [fB]
theorem xU (n:SN) (x:SD n):jA n n x=some x:=by simp [jA]
theorem xV (n:SN) (x:Option (SD n)):nv n n x=some x:=by simp [nv]
theorem qf (a:AV):rE a a:=by cases a <;> trivial
mutual
theorem LeV_self (G:List Nat):∀a:AV,fineV a=true→LeV G a a
 | .undef,_=>bW (by simp [LeF])
 | .int k n,_=>bW (by simp [LeF])
 | .bool b,_=>bW (by simp [LeF])
 | .str s,_=>bW (by simp [LeF])
 | .lst τ xs o,_=>bW (by simp [LeF,lJ])
 | .nils,_=>bW (by simp [LeF])
 | .ptr i o,_=>bW (by simp [LeF])
 | .nilp,_=>bW (by simp [LeF])
 | .pt n x,_=>bW (by simp [LeF,xV])
 | .st n x,_=>bW (by simp [LeF,xU])
 | .row τ xs,_=>bW (by simp [LeF,lJ])
 | .arr i n w,_=>bW (by simp [LeF])
 | .aptr i n w o,_=>bW (by simp [LeF])
 | .map i,_=>bW (by simp [LeF])
 | .bptr i,_=>bW (by simp [LeF])
 | .nilif,_=>bW (by simp [LeF])
 | .nilm,_=>bW (by simp [LeF])
 | .cptr c,h=>by simp only [fineV] at h;unfold LeV;exact ⟨qf c,LeV_self G c h⟩
 | .agg cs,h=>by simp only [fineV] at h;unfold LeV;exact LeL_self G cs h
 | .tup cs,h=>by simp only [fineV] at h;unfold LeV;exact LeL_self G cs h
 | .fn f cs,h=>by simp only [fineV] at h;unfold LeV;exact ⟨by simp,LeL_self G cs h⟩
 | .iface t a,h=>by simp only [fineV] at h;unfold LeV;exact ⟨by simp,LeV_self G a h⟩
 | .lstp _ _ _,h=>by cases h
 | .tptr _ _ _,h=>by cases h
theorem LeL_self (G:List Nat):∀l:List AV,fineVs l=true→LeL G l l
 | [],_=>by unfold LeL;trivial
 | a ::r,h=>by
  simp only [fineVs,Bool.and_eq_true] at h
  unfold LeL
  exact ⟨LeV_self G a h.1,LeL_self G r h.2⟩
end
mutual
theorem LeV_strip (G:List Nat):∀a:AV,fineV a=true→LeV G a (strip a)
 | .lst τ xs o,_=>by unfold strip;exact bW (by simp [LeF,lJ])
 | .agg cs,h=>by simp only [fineV] at h;unfold strip LeV;exact LeL_strip G cs h
 | .tup cs,h=>by simp only [fineV] at h;unfold strip LeV;exact LeL_strip G cs h
 | .undef,h=>LeV_self G _ h
 | .int k n,h=>LeV_self G _ h
 | .bool b,h=>LeV_self G _ h
 | .str s,h=>LeV_self G _ h
 | .nils,h=>LeV_self G _ h
 | .ptr i o,h=>LeV_self G _ h
 | .nilp,h=>LeV_self G _ h
 | .pt n x,h=>LeV_self G _ h
 | .st n x,h=>LeV_self G _ h
 | .row τ xs,h=>LeV_self G _ h
 | .arr i n w,h=>LeV_self G _ h
 | .aptr i n w o,h=>LeV_self G _ h
 | .map i,h=>LeV_self G _ h
 | .bptr i,h=>LeV_self G _ h
 | .nilif,h=>LeV_self G _ h
 | .nilm,h=>LeV_self G _ h
 | .cptr c,h=>LeV_self G _ h
 | .fn f cs,h=>LeV_self G _ h
 | .iface t a,h=>LeV_self G _ h
 | .lstp _ _ _,h=>by cases h
 | .tptr _ _ _,h=>by cases h
theorem LeL_strip (G:List Nat):∀l:List AV,fineVs l=true→LeL G l (strips l)
 | [],_=>by unfold strips LeL;trivial
 | a ::r,h=>by
  simp only [fineVs,Bool.and_eq_true] at h
  unfold strips LeL
  exact ⟨LeV_strip G a h.1,LeL_strip G r h.2⟩
end
theorem vr {G:List Nat} {s:St}:∀(l l':List AV) (k:Nat),LeL G l l'→(∀j,aT s.t (k+j)=l.getD j .undef)→LeT G s (cO k l')
 | [],[],k,_,_=>trivial
 | a ::r,b ::r',k,h,hg=>by
  unfold LeL at h
  refine ⟨?_,vr r r' (k+1) h.2 fun j=>?_⟩
  ·have:=hg 0
   rw [Nat.add_zero] at this
   rw [this]
   exact h.1
  ·have:=hg (j+1)
   rw [show k+1+j=k+(j+1) by omega,this]
   rfl
 | [],_ ::_,_,h,_=>by unfold LeL at h;exact h.elim
 | _ ::_,[],_,h,_=>by unfold LeL at h;exact h.elim
theorem kh {G:List Nat} {s:St}:∀l:List (Nat × SObj),(∀x∈l,aq s.b x.1=some x.2/\G0 x.2=true)→LeB G s l
 | [],_=>trivial
 | (i,.box c) ::r,h=>by
  obtain ⟨h1,h2⟩:=h _ (List.mem_cons_self ..)
  refine ⟨?_,kh r fun x hx=>h x (List.mem_cons_of_mem _ hx)⟩
  simp only at h1
  rw [h1]
  exact ⟨qf c,LeV_self G c h2⟩
 | (i,.tail τ n) ::r,h=>by
  obtain ⟨h1,h2⟩:=h _ (List.mem_cons_self ..)
  refine ⟨?_,kh r fun x hx=>h x (List.mem_cons_of_mem _ hx)⟩
  simp only at h1
  rw [h1]
  simp
 | (i,.map κ τ m) ::r,h=>by
  obtain ⟨h1,h2⟩:=h _ (List.mem_cons_self ..)
  refine ⟨?_,kh r fun x hx=>h x (List.mem_cons_of_mem _ hx)⟩
  simp only at h1
  rw [h1]
  simp [zp]
 | (i,.bld t u l) ::r,h=>by
  obtain ⟨h1,h2⟩:=h _ (List.mem_cons_self ..)
  refine ⟨?_,kh r fun x hx=>h x (List.mem_cons_of_mem _ hx)⟩
  simp only at h1
  rw [h1]
  simp
 | (i,.tailp τ n x) ::r,h=>by
  obtain ⟨h1,h2⟩:=h _ (List.mem_cons_self ..)
  cases h2
end Go.AL
end
noncomputable section
namespace Go.AL
def nU (S:List (Nat × SObj)) (x:Nat × SObj):Bool:=match aq S x.1 with | some o=>eqO o x.2 | none=>false
def Dd:List AV→AV
 | [a]=>a
 | l=>.tup l
def De (s:St) (l:List AV):List (Nat × SObj):=
 s.b.filter fun x=>bz x.1 || (iw (aq s.b) 64 (ids.idsL l++(aH s.b).filter bz) []).contains x.1
def Gz:Bool→List AV→List AV
 | true,l=>l
 | false,l=>strips l
def Df (tok:Bool) (S:List (Nat × SObj)) (s:St) (l:List AV):Option Ans:=
 evVs (Gz tok l) fun l'=>evB (De s l') fun kept=>
  match fineVs l && (kept.all (fun x=>G0 x.2)) && b9 (aH s.b) && (aH S).all (fun i=>(aH kept).contains i) &&
    (cQ ((aH s.b).filter fun i=>!(aH kept).contains i) ⟨cO 0 l',kept⟩ && ((aH s.b).filter fun i=>!(aH kept).contains i).all (fun i=>!bz i)) with
  | true=>some ⟨none,none,Dd l',kept.filter fun x=>!nU S x⟩
  | false=>none
theorem oA:∀{l:List (Nat × SObj)},b9 (aH l)=true→∀{i:Nat} {o:SObj},(i,o)∈l→aq l i=some o
 | [],_,_,_,h=>by cases h
 | (j,u) ::r,hd,i,o,h=>by
  simp only [aH,List.map_cons,b9,Bool.and_eq_true,Bool.not_eq_true',List.contains_eq_mem,decide_eq_false_iff_not] at hd
  rcases List.mem_cons.1 h with e | e
  ·cases e;simp [aP,aJ]
  ·have hne:¬j=i:=fun q=>hd.1 (List.mem_map.2 ⟨_,e,q.symm⟩)
   simp only [aP,aJ,beq_iff_eq,hne,if_false]
   exact oA hd.2 e
theorem fM (p:Nat × SObj→Bool):∀{l:List (Nat × SObj)},b9 (aH l)=true→b9 (aH (l.filter p))=true
 | [],_=>rfl
 | x ::r,hd=>by
  simp only [aH,List.map_cons,b9,Bool.and_eq_true,Bool.not_eq_true',List.contains_eq_mem,decide_eq_false_iff_not] at hd
  have ih:=fM p hd.2
  rw [List.filter_cons]
  split
  ·simp only [aH,List.map_cons,b9,Bool.and_eq_true,Bool.not_eq_true',List.contains_eq_mem,decide_eq_false_iff_not]
   refine ⟨fun h=>hd.1 ?_,ih⟩
   obtain ⟨y,hy,e⟩:=List.mem_map.1 h
   exact List.mem_map.2 ⟨y,(List.mem_filter.1 hy).1,e⟩
  ·exact ih
variable [Tabs]
theorem Dg {l:List (Nat × SObj)} {i:Nat} (h:aq l i=none):i∉aH l:=iD l i h
theorem qg {l:List (Nat × SObj)} {i:Nat} (h:i∉aH l):aq l i=none:=by
 cases hb:aq l i with
 | none=>rfl
 | some o=>exact absurd (List.mem_map.2 ⟨(i,o),cC l i o hb,rfl⟩) h
theorem Fe {S kept:List (Nat × SObj)} (hd:b9 (aH kept)=true) (hS:∀i∈aH S,i∈aH kept):aq (cm S (kept.filter fun x=>!nU S x))=aq kept:=by
 funext i
 have hdf:=fM (fun x=>!nU S x) hd
 rw [nf _ S i hdf]
 cases hk:aq kept i with
 | some o=>
  have hm:=cC kept i o hk
  cases hs:nU S (i,o) with
  | false=>
   have:(i,o)∈kept.filter fun x=>!nU S x:=List.mem_filter.2 ⟨hm,by rw [hs];rfl⟩
   rw [oA hdf this]
   rfl
  | true=>
   have hn:aq (kept.filter fun x=>!nU S x) i=none:=by
    cases hb:aq (kept.filter fun x=>!nU S x) i with
    | none=>rfl
    | some o'=>
     have h1:=List.mem_filter.1 (cC _ i o' hb)
     have h2:=oA hd h1.1
     rw [hk] at h2
     cases h2
     have h3:=h1.2
     rw [hs] at h3
     cases h3
   rw [hn]
   unfold nU at hs
   split at hs
   ·rename_i o' ho'
    simp only at ho' hs
    rw [ho',Cd hs]
    rfl
   ·cases hs
 | none=>
  have h1:i∉aH kept:=Dg hk
  rw [qg (l:=S) fun h=>h1 (hS i h),qg fun h=>h1 ?_]
  ·rfl
  ·obtain ⟨y,hy,e⟩:=List.mem_map.1 h
   exact List.mem_map.2 ⟨y,(List.mem_filter.1 hy).1,e⟩
theorem qh {G:List Nat}:∀{l m:List AV},LeL G l m→l.length=m.length
 | [],[],_=>rfl
 | _ ::_,_ ::_,h=>by unfold LeL at h;rw [List.length_cons,List.length_cons,qh h.2]
 | [],_ ::_,h=>by unfold LeL at h;exact h.elim
 | _ ::_,[],h=>by unfold LeL at h;exact h.elim
theorem B2 {tok:Bool} {S:List (Nat × SObj)} {s:St} {l:List AV} {A:Ans} (h:Df tok S s l=some A) :
  A.ob=none/\A.pan=none/\∃l' kept,A.val=Dd l'/\l'.length=l.length/\LeS ⟨cO 0 l,s.b⟩ ⟨cO 0 l',kept⟩/\aq (cm S A.upd)=aq kept:=by
 unfold Df at h
 rw [evVs_eq,tz] at h
 split at h
 ·rename_i hc
  cases h
  simp only [Bool.and_eq_true,List.all_eq_true] at hc
  obtain ⟨⟨⟨⟨h1,h2⟩,h3⟩,h4⟩,h5,h6⟩:=hc
  refine ⟨rfl,rfl,Gz tok l,De s (Gz tok l),rfl,?_,⟨?_,?_,?_⟩,?_⟩
  ·cases tok with
   | true=>rfl
   | false=>exact (qh (LeL_strip [] l h1)).symm
  ·rw [if_pos]
   ·trivial
   ·rw [Bool.and_eq_true,List.all_eq_true]
    exact ⟨h5,h6⟩
  ·refine vr l _ 0 ?_ fun j=>?_
   ·cases tok with
    | true=>exact LeL_self _ l h1
    | false=>exact LeL_strip _ l h1
   ·show aT (cO 0 l) (0+j)=_
    rw [fq]
    simp
  ·refine kh _ fun x hx=>⟨?_,h2 x hx⟩
   exact oA h3 (List.mem_filter.1 hx).1
  ·refine Fe (fM _ h3) fun i hi=>?_
   have:=h4 i hi
   rwa [List.contains_eq_mem,decide_eq_true_eq] at this
 ·cases h
structure FB where
 body:Code
 n:Nat
 res:List ResultVar
 keep:Nat
 pubs:List (Nat × List Nat)
 pend:Nat→Bool
 rows:Nat→Bool
 same:Nat→Bool
 tok:Bool
 ps:List (Option Ty)
def Dh:Option Ty→AV→AV
 | some (.st n),a=>(match arg (.st n) a with | some x=>.st n x | none=>a)
 | _,a=>a
def zP:List (Option Ty)→List AV→List AV
 | p ::ps,a ::r=>Dh p a ::zP ps r
 | _,l=>l
def GA (C:Cfg) (N:Nat) (x:FB) (args:List AV) (S:List (Nat × SObj)):Option Ans:=
 evVs (zP x.ps args) fun args=>evB S fun S=>
  match kZ args x.n && (aH S).all bz with
  | false=>none
  | true=>
   match iJ C x.keep x.pubs N x.body ⟨cO 0 args,S⟩ with
   | some (.normal,s)=>(match jv C.tbl s x.res with | some l=>Df x.tok S s l | none=>none)
   | some (.ret,s)=>(match jv C.tbl s x.res with | some l=>Df x.tok S s l | none=>none)
   | _=>none
variable {P:Program} {C:Cfg}
theorem Di (p:Option Ty) (a:AV):Rd a (Dh p a):=by
 unfold Dh
 split
 ·split
  ·rename_i x hx;exact Rd.arg hx
  ·exact Rd.refl a
 ·exact Rd.refl a
theorem vt:∀(ps:List (Option Ty)) (l:List AV),RdL l (zP ps l)
 | [],l=>RdL.refl l
 | p ::ps,[]=>.nil
 | p ::ps,a ::r=>.cons (Di p a) (vt ps r)
theorem runF_meets (hm:P.follows .mixedOrders=true) (hT:aU P C.tbl) (hS:bJ P C.spec) {N:Nat} {x:FB} {f:Nat} {fn:Func} (hf:P.funcs[f]?=some fn) (hb:fn.body=some x.body) (hn:fn.ntmps=x.n) (hr:fn.results.toList=x.res)
  (hd:bG x.n x.body=true) {args:List AV} {S:List (Nat × SObj)} {A:Ans} (h:GA C N x args S=some A):aw P f args S A:=by
 refine aw.args (vt x.ps args) ?_
 intro w pub e vs hp ht hv hs hdom hinj
 unfold GA at h
 rw [evVs_eq,tz] at h
 split at h
 ·cases h
 ·rename_i hck
  simp only [Bool.and_eq_true,List.all_eq_true] at hck
  obtain ⟨hck2,hck3⟩:=hck
  have hlen:=dB _ _ hck2
  have hlent:∀id c,e id=some c→bz id=true:=by
   intro id c hc
   cases hg:aq S id with
   | none=>rw [hdom id hg] at hc;cases hc
   | some o=>exact hck3 id (List.mem_map.2 ⟨(id,o),cC _ _ _ hg,rfl⟩)
  have hrun:∃z s',iJ C x.keep x.pubs N x.body ⟨cO 0 (zP x.ps args),S⟩=some (z,s')/\(match jv C.tbl s' x.res with | some l=>Df x.tok S s' l | none=>none)=some A/\(z=.normal∨z=.ret):=by
   split at h
   ·rename_i s' hz;exact ⟨_,s',hz,h,.inl rfl⟩
   ·rename_i s' hz;exact ⟨_,s',hz,h,.inr rfl⟩
   ·cases h
  obtain ⟨z,s',hz,he,hzz⟩:=hrun
  refine calls_of_wp hf hb ?_
  have hh:=jj (n:=fn.ntmps) hp ht hv (by rw [hn];exact hlen) hs hdom hinj hlent
  rw [←hn] at hd
  refine wp_mono (xS (F:=⟨w,pub,fn.ntmps,e,hlent,[],ht⟩) hm hT hS _ _ N x.body _ z s' _ _ hz hd hh) ?_
  intro en a' w' hq
  obtain ⟨z2,s2,Ω',h1,h2,h3,h4,h5⟩:=hq
  subst h2 h4 h5
  have hmap:∀us,(fn.results.toList.mapM (mY a'.tmps)).run P Ω'.w=.ok us Ω'.w→
    (results fn a'.tmps).run P Ω'.w=.ok (if h:us.toArray.size=1 then us.toArray[0] else .tuple us.toArray) Ω'.w:=by
   intro us hus
   rw [lC,←Array.toArray_toList (xs:=fn.results),List.mapM_toArray]
   simp only [Sem.run_bind,Sem.run_map,hus,Result.andThen_ok,Sem.run_pure]
  have main:a'.defers=[]/\∃v,(results fn a'.tmps).run P Ω'.w=.ok v Ω'.w/\∃pub' e',(∀b pv u,A.pan=some (b,pv,u)→b=false)/\V ⟨e',Ω'.w,pub'⟩ A.val v/\After w pub e (aq (cm S A.upd)) Ω'.w pub' e':=by
   refine ⟨h3.defers,?_⟩
   split at he
   ·rename_i l hres
    rw [←hr] at hres
    obtain ⟨a1,a2,l',kept,a3,a4,a5,a6⟩:=B2 he
    obtain ⟨us,k1,k2⟩:=eA hT h3 _ _ hres
    obtain ⟨Ω2,e2,hh2⟩:=dw (s:=⟨cO 0 l,s2.b⟩) (h3.retmp k2) a5
    rw [a3,a6]
    refine ⟨_,hmap us k1,Ω2.pub,Ω2.e,fun b pv u q=>(by rw [a2] at q;cases q),?_,by rw [←e2];exact gD hh2⟩
    have hval:∀(j:Nat) c v,l'[j]?=some c→us[j]?=some v→V ⟨Ω2.e,Ω'.w,Ω2.pub⟩ c v:=fun j c v hc hv=>by
     have:=hh2.tmps j
     simp only [St.abs,fq,Nat.zero_le,if_true,Nat.sub_zero,List.getD_eq_getElem?_getD,hc,Option.getD_some] at this
     have e3:(us.toArray++Array.replicate 0 undef).getD j undef=v:=by
      simp [Array.getD_eq_getD_getElem?,hv]
     rw [e3] at this
     rw [←e2]
     exact this
    have hlu:l'.length=us.length:=a4.trans k2.1
    by_cases h1':us.toArray.size=1
    ·rw [dif_pos h1']
     obtain ⟨u,rfl⟩:=iG (l:=us) (by simpa using h1')
     obtain ⟨c,rfl⟩:=iG (l:=l') (by rw [hlu];rfl)
     exact hval 0 c u rfl rfl
    ·rw [dif_neg h1']
     have:Dd l'=.tup l':=by
      match l',hlu with
      | [],_=>rfl
      | [c],q=>exact absurd (by simpa using q.symm) h1'
      | _ ::_ ::_,_=>rfl
     rw [this]
     exact .tup l' us hlu hval
   ·cases he
  rcases hzz with rfl | rfl
  ·cases h1;exact main
  ·cases h1;exact main
def zQ:List (Nat × FB)→Nat→Option FB
 | [],_=>none
 | (j,x) ::r,f=>if Nat.beq j f=true then some x else zQ r f
def cd (tbl:List (Nat × TR)) (fn:Func) (keep:Nat) (pubs:List (Nat × List Nat)) (pend rows same:Nat→Bool) (tok:Bool):FB:=
 ⟨fn.body.getD .skip,fn.ntmps,fn.results.toList,keep,pubs,pend,rows,same,tok,fn.params.toList.map fun t=>(aC tbl t).bind (·.ty)⟩
def fbok (fn:Func):Bool:=match fn.body with | none=>false | some c=>bG fn.ntmps c && !(fn.name == "runtime.NumGoroutine")
def aV (P:Program) (tab:List (Nat × FB)):Prop:=∀f x,zQ tab f=some x→
 ∃fn,P.funcs[f]?=some fn/\fn.body=some x.body/\fn.ntmps=x.n/\fn.results.toList=x.res/\bG x.n x.body=true/\(fn.name == "runtime.NumGoroutine")=false
theorem aV.nil:aV P []:=fun f x h=>by cases h
theorem aV.cons {tbl:List (Nat × TR)} {f:Nat} {fn:Func} {keep:Nat} {pubs:List (Nat × List Nat)} {pend rows same:Nat→Bool} {tok:Bool} {tab:List (Nat × FB)} (hf:P.funcs[f]?=some fn) (hc:fbok fn=true) (ht:aV P tab) :
  aV P ((f,cd tbl fn keep pubs pend rows same tok) ::tab):=by
 intro g x h
 unfold zQ at h
 split at h
 ·rename_i hb
  obtain rfl:=Nat.eq_of_beq_eq_true hb
  cases h
  unfold fbok at hc
  split at hc
  ·cases hc
  ·rename_i c hb'
   simp only [Bool.and_eq_true,Bool.not_eq_true'] at hc
   exact ⟨fn,hf,by simp [cd,hb'],rfl,rfl,by simpa [cd,hb'] using hc.1,hc.2⟩
 ·exact ht g x h
def qi (tbl:List (Nat × TR)) (tab:List (Nat × FB)) (keeps:Nat→Bool) (lends:Nat→List (Option Nat)) (N:Nat) (base:Nat→List AV→List (Nat × SObj)→Option Ans) :
  Nat→Nat→List AV→List (Nat × SObj)→Option Ans
 | 0,f,us,S=>base f us S
 | n+1,f,us,S=>
  match base f us S with
  | some A=>some A
  | none=>
  match zQ tab f with
  | none=>none
  | some x=>GA ⟨tbl,qi tbl tab keeps lends N base n,keeps,lends,x.pend,x.rows,x.same⟩ N x us S
theorem zR {tbl:List (Nat × TR)} {tab:List (Nat × FB)} {keeps:Nat→Bool} {lends:Nat→List (Option Nat)} {N:Nat} {base:Nat→List AV→List (Nat × SObj)→Option Ans}
  (hm:P.follows .mixedOrders=true) (hT:aU P tbl) (hB:bJ P base) (ht:aV P tab):∀n:Nat,bJ P (qi tbl tab keeps lends N base n)
 | 0=>hB
 | n+1=>by
  intro f args S A h ho hl
  unfold qi at h
  split at h
  ·rename_i A' hb
   cases h
   exact hB f args S A hb ho hl
  split at h
  ·cases h
  ·rename_i x hx
   obtain ⟨fn,h1,h2,h3,h4,h5,h6⟩:=ht f x hx
   exact ⟨⟨fn,h1,by rw [h2];rfl,h6⟩,runF_meets hm hT (zR hm hT hB ht n) h1 h2 h3 h4 h5 h⟩
theorem fv {tbl:List (Nat × TR)} {tab:List (Nat × FB)} {keeps:Nat→Bool} {lends:Nat→List (Option Nat)} {N n f:Nat} {base:Nat→List AV→List (Nat × SObj)→Option Ans} {args:List AV} {v:AV} {u:List (Nat × SObj)}
  (hm:P.follows .mixedOrders=true) (hT:aU P tbl) (hB:bJ P base) (ht:aV P tab) (h:qi tbl tab keeps lends N base n f args []=some ⟨none,none,v,u⟩):aw P f args [] ⟨none,none,v,u⟩:=
 (zR hm hT hB ht n f args [] _ h (fun _ q=>by cases q) rfl).2
end Go.AL
end
noncomputable section
namespace Go.AL
variable [Tabs] {P:Program}
def q1 (τ:Ty) (b:den τ→Bool) (F:den τ→AV):Pat
 | [a],[]=>(match arg τ a with | some x=>(match b x with | true=>some (.ret (F x)) | false=>none) | none=>none)
 | _,_=>none
theorem G1 {f:Nat} {τ:Ty} {b:den τ→Bool} {F:den τ→AV} {O:den τ→Prop} (h:aj P f (p1 τ fun x=>⟨some (O x),none,F x,[]⟩)) (hb:∀x,b x=true→O x):aj P f (q1 τ b F):=by
 intro args S A hA ho hl
 unfold q1 at hA
 split at hA
 ·rename_i a
  split at hA
  ·rename_i x hx
   split at hA
   ·rename_i ht
    cases hA
    have k:=h [a] [] ⟨some (O x),none,F x,[]⟩ (by simp [p1,hx]) (fun q hq=>by cases hq;exact hb x ht) hl
    exact ⟨k.1,k.2⟩
   ·cases hA
  ·cases hA
 ·cases hA
def q2 (τ σ:Ty) (b:den τ→den σ→Bool) (F:den τ→den σ→AV):Pat
 | [a,c],[]=>(match arg τ a,arg σ c with | some x,some y=>(match b x y with | true=>some (.ret (F x y)) | false=>none) | _,_=>none)
 | _,_=>none
theorem vu {f:Nat} {τ σ:Ty} {b:den τ→den σ→Bool} {F:den τ→den σ→AV} {O:den τ→den σ→Prop} (h:aj P f (p2 τ σ fun x y=>⟨some (O x y),none,F x y,[]⟩)) (hb:∀x y,b x y=true→O x y):aj P f (q2 τ σ b F):=by
 intro args S A hA ho hl
 unfold q2 at hA
 split at hA
 ·rename_i a c
  split at hA
  ·rename_i x y hx hy
   split at hA
   ·rename_i ht
    cases hA
    have k:=h [a,c] [] ⟨some (O x y),none,F x y,[]⟩ (by simp [p2,hx,hy]) (fun q hq=>by cases hq;exact hb x y ht) hl
    exact ⟨k.1,k.2⟩
   ·cases hA
  ·cases hA
 ·cases hA
def nV (as0:List AV) (v:AV):Pat:=fun args S=>match eqVs as0 args,S with | true,[]=>some (.ret v) | _,_=>none
theorem kM {f:Nat} {as0:List AV} {v:AV} (he:ax P f) (h:aw P f as0 [] (.ret v)):aj P f (nV as0 v):=by
 intro args S A hA ho hl
 unfold nV at hA
 split at hA
 ·rename_i heq
  cases hA
  rw [←eqVs_ok _ _ heq]
  exact ⟨he,h⟩
 ·cases hA
def t1 (τ:Ty) (b:den τ→Bool):List AV→List (Nat × SObj)→Bool
 | [a],_=>(match arg τ a with | some x=>b x | none=>false)
 | _,_=>false
end Go.AL
end
section
open Go Go.AL Go.Proofs
namespace Go.AL.Seat
variable [Tabs]
def r1:TR:=⟨.other,1,8,[.undef],none⟩
def r2:TR:=⟨.int .i64,1,8,[.int .i64 0],some (.int .i64)⟩
def r5:TR:=⟨.int .u8,1,1,[.int .u8 0],some (.int .u8)⟩
def r7:TR:=⟨.strct true [(0,2),(1,3),(2,4),(3,6)],4,24,[.int .i64 0,.int .i64 0,.bool false,.int .u8 0],none⟩
def r9:TR:=⟨.str,1,16,[.str []],some .str⟩
def r12:TR:=⟨.int .u64,1,8,[.int .u64 0],some (.int .u64)⟩
def r13:TR:=⟨.strct false [(0,9),(1,12)],2,24,[.str [],.int .u64 0],none⟩
def r18:TR:=⟨.strct false [(0,17)],1,8,[.nilp],none⟩
def r20:TR:=⟨.iface,1,16,[.nilif],none⟩
def r21:TR:=⟨.int .i32,1,4,[.int .i32 0],some (.int .i32)⟩
def r49:TR:=⟨.strct true [(0,3),(1,3)],2,16,[.int .i64 0,.int .i64 0],none⟩
def r76:TR:=⟨.strct true [(0,35)],2,16,[.int .i64 0,.int .i64 0],none⟩
def r95:TR:=⟨.strct false [],0,0,[],none⟩
def Ff:TR:=⟨.strct true [(0,9),(1,3)],2,24,[.str [],.int .i64 0],none⟩
def Fg:TR:=⟨.strct false [(0,101),(2,68),(3,35)],5,64,[.str [],.int .i64 0,.nils,.int .i64 0,.int .i64 0],none⟩
def r148:TR:=⟨.strct true [(0,3),(1,3),(2,3),(3,3)],4,32,[.int .i64 0,.int .i64 0,.int .i64 0,.int .i64 0],none⟩
def r202:TR:=⟨.strct true [(0,5),(1,5)],2,2,[.int .u8 0,.int .u8 0],none⟩
def r238:TR:=⟨.strct false [(0,9),(1,9),(2,171)],3,48,[.str [],.str [],.nilif],none⟩
def r255:TR:=⟨.strct true [(0,9)],1,16,[.str []],none⟩
def r267:TR:=⟨.strct false [(0,17),(1,17),(2,17),(3,9)],4,40,[.nilp,.nilp,.nilp,.str []],none⟩
def r278:TR:=⟨.strct false [(0,12),(1,12),(2,232),(3,273),(4,5),(5,5),(6,274),(7,275),(8,253),(9,276),(10,277)],11,48,[.int .u64 0,.int .u64 0,.int .u32 0,.int .u8 0,.int .u8 0,.int .u8 0,.int .u8 0,.undef,.nilp,.int .i32 0,.int .i32 0],none⟩
def tbl:List (Nat × TR):=[(1,r1),
 (2,r2),
 (3,r2),
 (4,⟨.bool,1,1,[.bool false],some .bool⟩),
 (5,r5),
 (6,r5),
 (7,r7),
 (8,r7),
 (9,r9),
 (10,r9),
 (11,r9),
 (12,r12),
 (13,r13),
 (14,r13),
 (15,⟨.ptr 268,1,8,[.nilp],none⟩),
 (16,⟨.ptr 271,1,8,[.nilp],none⟩),
 (17,⟨.ptr 279,1,8,[.nilp],none⟩),
 (18,r18),
 (19,r18),
 (20,r20),
 (21,r21),
 (22,⟨.slice 9,1,24,[.nils],some (.lst .str)⟩),
 (23,⟨.slice 93,1,24,[.nils],some (.lst (.st .shape))⟩),
 (24,⟨.slice 26,1,24,[.nils],some (.lst (.st .term))⟩),
 (25,⟨.strct false [(0,3),(1,9),(2,9),(3,3),(4,22),(5,22),(6,23),(7,24),(8,3)],9,152,[.int .i64 0,.str [],.str [],.int .i64 0,.nils,.nils,.nils,.nils,.int .i64 0],none⟩),
 (26,⟨.strct false [(0,3),(1,9),(2,9),(3,3),(4,22),(5,22),(6,23),(7,24),(8,3)],9,152,[.int .i64 0,.str [],.str [],.int .i64 0,.nils,.nils,.nils,.nils,.int .i64 0],some (.st .term)⟩),
 (27,r1),
 (28,r1),
 (29,r1),
 (30,⟨.slice 32,1,24,[.nils],some (.lst (.st .val))⟩),
 (31,⟨.strct false [(0,3),(1,2),(2,9),(3,9),(4,22),(5,30)],6,96,[.int .i64 0,.int .i64 0,.str [],.str [],.nils,.nils],none⟩),
 (32,⟨.strct false [(0,3),(1,2),(2,9),(3,9),(4,22),(5,30)],6,96,[.int .i64 0,.int .i64 0,.str [],.str [],.nils,.nils],some (.st .val)⟩),
 (33,r2),
 (34,⟨.strct true [(0,33),(1,3)],2,16,[.int .i64 0,.int .i64 0],none⟩),
 (35,⟨.strct true [(0,33),(1,3)],2,16,[.int .i64 0,.int .i64 0],some (.st .fault)⟩),
 (37,r1),
 (38,r1),
 (39,r1),
 (41,r1),
 (42,r1),
 (43,r1),
 (45,r1),
 (46,r1),
 (47,r1),
 (48,⟨.ptr 50,1,8,[.nilp],none⟩),
 (49,r49),
 (50,r49),
 (51,r1),
 (52,r1),
 (53,⟨.slice 56,1,24,[.nils],some (.lst (.st .thing))⟩),
 (54,⟨.ptr 88,1,8,[.nilp],none⟩),
 (55,⟨.strct false [(0,3),(1,2),(2,9),(3,9),(4,22),(5,53),(6,54)],7,104,[.int .i64 0,.int .i64 0,.str [],.str [],.nils,.nils,.nilp],none⟩),
 (56,⟨.strct false [(0,3),(1,2),(2,9),(3,9),(4,22),(5,53),(6,54)],7,104,[.int .i64 0,.int .i64 0,.str [],.str [],.nils,.nils,.nilp],some (.st .thing)⟩),
 (57,r1),
 (58,⟨.ptr 26,1,8,[.nilp],none⟩),
 (59,⟨.ptr 86,1,8,[.nilp],none⟩),
 (60,r1),
 (61,⟨.strct false [(0,59),(1,9)],2,24,[.nilp,.str []],none⟩),
 (62,⟨.strct false [(0,59),(1,9)],2,24,[.nilp,.str []],some (.st .plc)⟩),
 (63,r1),
 (65,r1),
 (67,r1),
 (68,⟨.slice 109,1,24,[.nils],some (.lst (.st .token))⟩),
 (70,r1),
 (72,r1),
 (73,r1),
 (75,r1),
 (76,r76),
 (77,r76),
 (80,r1),
 (81,⟨.ptr 3,1,8,[.nilp],none⟩),
 (82,r1),
 (83,r1),
 (84,r1),
 (85,⟨.strct false [(0,9),(1,9),(2,56),(9,59)],10,144,[.str [],.str [],.int .i64 0,.int .i64 0,.str [],.str [],.nils,.nils,.nilp,.nilp],none⟩),
 (86,⟨.strct false [(0,9),(1,9),(2,56),(9,59)],10,144,[.str [],.str [],.int .i64 0,.int .i64 0,.str [],.str [],.nils,.nils,.nilp,.nilp],some (.st .scope)⟩),
 (87,⟨.strct false [(0,62),(2,22),(3,58),(4,9),(5,3)],6,80,[.nilp,.str [],.nils,.nilp,.str [],.int .i64 0],none⟩),
 (88,⟨.strct false [(0,62),(2,22),(3,58),(4,9),(5,3)],6,80,[.nilp,.str [],.nils,.nilp,.str [],.int .i64 0],some (.st .func)⟩),
 (89,r1),
 (90,r1),
 (91,r1),
 (92,⟨.strct false [(0,3),(1,9),(2,9),(3,22),(4,23)],5,88,[.int .i64 0,.str [],.str [],.nils,.nils],none⟩),
 (93,⟨.strct false [(0,3),(1,9),(2,9),(3,22),(4,23)],5,88,[.int .i64 0,.str [],.str [],.nils,.nils],some (.st .shape)⟩),
 (94,r1),
 (95,r95),
 (96,r95),
 (98,r1),
 (99,⟨.ptr 103,1,8,[.nilp],none⟩),
 (100,Ff),
 (101,Ff),
 (102,Fg),
 (103,Fg),
 (104,r1),
 (105,r1),
 (106,r1),
 (107,r1),
 (108,⟨.strct true [(0,3),(1,9),(2,3)],3,32,[.int .i64 0,.str [],.int .i64 0],none⟩),
 (109,⟨.strct true [(0,3),(1,9),(2,3)],3,32,[.int .i64 0,.str [],.int .i64 0],some (.st .token)⟩),
 (110,⟨.ptr 115,1,8,[.nilp],none⟩),
 (111,r1),
 (112,⟨.strct false [(0,68),(1,3),(2,35)],4,48,[.nils,.int .i64 0,.int .i64 0,.int .i64 0],none⟩),
 (113,⟨.strct false [(0,68),(1,3),(2,35)],4,48,[.nils,.int .i64 0,.int .i64 0,.int .i64 0],some (.st .par)⟩),
 (114,⟨.strct false [(0,113)],4,48,[.nils,.int .i64 0,.int .i64 0,.int .i64 0],none⟩),
 (115,⟨.strct false [(0,113)],4,48,[.nils,.int .i64 0,.int .i64 0,.int .i64 0],some (.st .par)⟩),
 (116,r1),
 (117,r1),
 (118,r1),
 (119,r1),
 (120,r1),
 (121,r1),
 (122,r1),
 (123,r1),
 (124,r1),
 (125,r1),
 (126,⟨.ptr 101,1,8,[.nilp],none⟩),
 (127,⟨.slice 3,1,24,[.nils],some (.lst (.int .i64))⟩),
 (129,r1),
 (130,r1),
 (131,r1),
 (132,r1),
 (133,⟨.strct true [(0,3),(1,3),(2,3),(3,9)],4,40,[.int .i64 0,.int .i64 0,.int .i64 0,.str []],none⟩),
 (134,⟨.strct true [(0,3),(1,3),(2,3),(3,9)],4,40,[.int .i64 0,.int .i64 0,.int .i64 0,.str []],some (.st .version)⟩),
 (136,r1),
 (138,r1),
 (139,⟨.ptr 113,1,8,[.nilp],none⟩),
 (140,r1),
 (141,r1),
 (142,r1),
 (143,r1),
 (144,r1),
 (145,r1),
 (146,r1),
 (147,r1),
 (148,r148),
 (149,r148),
 (150,r1),
 (151,r1),
 (152,r1),
 (153,r1),
 (154,r1),
 (155,r1),
 (157,r1),
 (158,r1),
 (159,r1),
 (163,r1),
 (164,r1),
 (165,⟨.ptr 161,1,8,[.nilp],none⟩),
 (167,r1),
 (168,r1),
 (169,⟨.arr 3 3,3,24,[.int .i64 0,.int .i64 0,.int .i64 0],none⟩),
 (170,r20),
 (171,r20),
 (173,r1),
 (174,r1),
 (175,⟨.slice 5,1,24,[.nils],some (.lst (.int .u8))⟩),
 (176,r1),
 (177,r1),
 (178,r1),
 (179,r1),
 (180,r1),
 (181,r1),
 (182,r1),
 (183,r1),
 (184,r1),
 (185,r1),
 (186,r1),
 (187,r1),
 (188,r1),
 (189,r1),
 (190,r1),
 (191,r1),
 (192,r1),
 (193,r1),
 (194,r1),
 (195,r1),
 (196,r1),
 (197,r1),
 (198,r1),
 (199,r1),
 (200,r1),
 (202,r202),
 (203,r202),
 (205,r12),
 (206,r1),
 (207,r1),
 (209,r12),
 (210,r1),
 (211,r1),
 (213,r1),
 (214,r1),
 (215,r1),
 (216,r2),
 (218,r1),
 (219,⟨.ptr 239,1,8,[.nilp],none⟩),
 (220,r1),
 (221,r1),
 (222,r95),
 (224,r1),
 (225,r1),
 (226,r1),
 (227,r1),
 (228,r1),
 (229,r1),
 (230,r1),
 (232,⟨.int .u32,1,4,[.int .u32 0],some (.int .u32)⟩),
 (234,r1),
 (236,r1),
 (237,r1),
 (238,r238),
 (239,r238),
 (240,r1),
 (241,r1),
 (242,r2),
 (244,r1),
 (245,r1),
 (246,r1),
 (248,r1),
 (249,r1),
 (251,r1),
 (252,r1),
 (253,⟨.ptr 5,1,8,[.nilp],none⟩),
 (254,⟨.ptr 256,1,8,[.nilp],none⟩),
 (255,r255),
 (256,r255),
 (257,r12),
 (258,r1),
 (259,r1),
 (260,r1),
 (261,r1),
 (264,⟨.ptr 257,1,8,[.nilp],none⟩),
 (265,r1),
 (266,r1),
 (267,r267),
 (268,r267),
 (272,r1),
 (273,r5),
 (274,r5),
 (275,r1),
 (276,r21),
 (277,r21),
 (278,r278),
 (279,r278)]
theorem tk {t:Nat} {r:TR} (h1:(Tryz.prog.info? t).map (fun i=>(i.size,i.bytes,i.zero.map fun z=>z.cells.toList.map bT))=some (r.size,r.bytes,some r.zero):=by kernel_rfl)
  (h2:(Tryz.prog.underlying t).map (aI Tryz.prog r.ti)=some true:=by kernel_rfl)
  (h3:(eF r.zero r.size && (Nat.beq r.size 0 || Nat.blt 0 r.bytes) && (match r.ty with | some τ=>Nat.beq (ag τ) r.size && (EC τ ==r.isAgg) | none=>true))=true:=by kernel_rfl)
  (h8:(Tryz.prog.info? t).map (fun i=>i.zero.map fun z=>wW z ==r.isAgg)=some (some true):=by kernel_rfl)
  (h9:(match r.ti with | .strct true _=>!Tryz.prog.stoodInHeld t && !Tryz.prog.eqGuardType Tryz.prog.depth t | _=>true)=true:=by kernel_rfl):TRok Tryz.prog t r:=TRok.mk' h1 h2 h3 h8 h9
theorem vv:aU Tryz.prog tbl:=
 .cons tk (.cons tk (.cons tk (.cons tk (.cons tk (.cons tk (.cons tk (.cons tk (.cons tk (.cons tk (.cons tk (.cons tk (.cons tk (.cons tk (.cons tk (.cons tk (.cons tk (.cons tk (.cons tk (.cons tk (.cons tk (.cons tk (.cons tk (.cons tk (.cons tk (.cons tk (.cons tk (.cons tk (.cons tk (.cons tk (.cons tk (.cons tk (.cons tk (.cons tk (.cons tk (.cons tk (.cons tk (.cons tk (.cons tk (.cons tk (.cons tk (.cons tk (.cons tk (.cons tk (.cons tk (.cons tk (.cons tk (.cons tk (.cons tk (.cons tk (.cons tk (.cons tk (.cons tk (.cons tk (.cons tk (.cons tk (.cons tk (.cons tk (.cons tk (.cons tk (.cons tk (.cons tk (.cons tk (.cons tk (.cons tk (.cons tk (.cons tk (.cons tk (.cons tk (.cons tk (.cons tk (.cons tk (.cons tk (.cons tk (.cons tk (.cons tk (.cons tk (.cons tk (.cons tk (.cons tk (.cons tk (.cons tk (.cons tk (.cons tk (.cons tk (.cons tk (.cons tk (.cons tk (.cons tk (.cons tk (.cons tk (.cons tk (.cons tk (.cons tk (.cons tk (.cons tk (.cons tk (.cons tk (.cons tk (.cons tk (.cons tk (.cons tk (.cons tk (.cons tk (.cons tk (.cons tk (.cons tk (.cons tk (.cons tk (.cons tk (.cons tk (.cons tk (.cons tk (.cons tk (.cons tk (.cons tk (.cons tk (.cons tk (.cons tk (.cons tk (.cons tk (.cons tk (.cons tk (.cons tk (.cons tk (.cons tk (.cons tk (.cons tk (.cons tk (.cons tk (.cons tk (.cons tk (.cons tk (.cons tk (.cons tk (.cons tk (.cons tk (.cons tk (.cons tk (.cons tk (.cons tk (.cons tk (.cons tk (.cons tk (.cons tk (.cons tk (.cons tk (.cons tk (.cons tk (.cons tk (.cons tk (.cons tk (.cons tk (.cons tk (.cons tk (.cons tk (.cons tk (.cons tk (.cons tk (.cons tk (.cons tk (.cons tk (.cons tk (.cons tk (.cons tk (.cons tk (.cons tk (.cons tk (.cons tk (.cons tk (.cons tk (.cons tk (.cons tk (.cons tk (.cons tk (.cons tk (.cons tk (.cons tk (.cons tk (.cons tk (.cons tk (.cons tk (.cons tk (.cons tk (.cons tk (.cons tk (.cons tk (.cons tk (.cons tk (.cons tk (.cons tk (.cons tk (.cons tk (.cons tk (.cons tk (.cons tk (.cons tk (.cons tk (.cons tk (.cons tk (.cons tk (.cons tk (.cons tk (.cons tk (.cons tk (.cons tk (.cons tk (.cons tk (.cons tk (.cons tk (.cons tk (.cons tk (.cons tk (.cons tk (.cons tk (.cons tk (.cons tk (.cons tk (.cons tk (.cons tk (.cons tk (.cons tk (.cons tk (.cons tk (.cons tk (.cons tk (.cons tk (.cons tk (.cons tk (.cons tk (.cons tk (.cons tk (.cons tk (.cons tk (.cons tk (.cons tk (.cons tk (.cons tk (.cons tk (.cons tk (.cons tk (.cons tk (.nil))))))))))))))))))))))))))))))))))))))))))))))))))))))))))))))))))))))))))))))))))))))))))))))))))))))))))))))))))))))))))))))))))))))))))))))))))))))))))))))))))))))))))))))))))))))))))))))))))))))))))))))))))))))))))))))))))))))))))))))))))
theorem mixed:Tryz.prog.follows .mixedOrders=true:=by kernel_rfl
end Go.AL.Seat
end
section
namespace Go.AL
open Go.Shelf Go.Proofs Go.RowKit
variable [Tabs] {P:Program} {ρ:Ren}
theorem After.newRow {w w':World} {pub:Nat→Nat→Prop} {e:Nat→Option CObj} (hp:jM w pub) (hd:∀id,e id=none) (hb:Below w.heap.size w w') {g:Nat} (hg:w.heap.size<=g) {p:Nat→Prop} (hc:∀o,p o→∃v,w'.cell? ⟨g,o,none⟩=some v) :
  After w pub e (aq (cm [] [])) w' (fun b o=>pub b o∨(b=g/\p o)) e where
 os:=hb.os
 tape:=hb.tape
 output:=hb.output
 size:=hb.size
 block b h _:=hb.block b h
 cell b o h _:=ar (hb.block b h) o
 kind b h _:=⟨bp (hb.block b h),fun o=>aW (hb.block b h) o⟩
 ext:=⟨fun _ c h=>⟨c,h,CLe.refl c⟩,fun _ _ h=>.inl h,fun b o h=>by obtain ⟨v,hv⟩:=hp b o h;exact ar (hb.block b (b5 hv)) o⟩
 fresh b o h:=by
  rcases h with h | ⟨rfl,_⟩
  ·exact .inl h
  ·exact .inr (.inl hg)
 ok b o h:=by
  rcases h with h | ⟨rfl,h⟩
  ·obtain ⟨v,hv⟩:=hp b o h;exact ⟨v,(ar (hb.block b (b5 hv)) o).trans hv⟩
  ·exact hc o h
 slots id o h:=by simp [cm,aP,aJ] at h
 dom id _:=hd id
 inj i j c d b o h:=by rw [hd i] at h;cases h
theorem vw (L:Lays2.n16 P ρ) (l:List Str) (hb:l.length *16<=140737488355328) {ob:Option Prop}:aw P (ρ.f 16) [.lst .str l none] [] ⟨ob,none,.lst .str l none,[]⟩:=by
 intro w pub e vs hp ht hv hs hd hi
 have he:e=fun _=>none:=funext fun id=>hd id rfl
 subst he
 obtain ⟨v,rfl,hV⟩:=hv.one_inv
 cases hV with
 | lstNil _ _ tok=>
  refine (Any.slices_Clone_string_nil L 0 0 w).mono ?_
  rintro en w' ⟨rfl,rfl⟩
  exact ⟨pub,_,fun b pv u h=>(by cases h),.lstNil _ _ tok,After.below hp (fun _=>rfl) (Below.refl _ _)⟩
 | lstVoid _ a=>
  refine (Any.slices_Clone_string_zero L a 0 w).mono ?_
  rintro en w' ⟨v',rfl,⟨hl,hrow⟩,hn,hbw⟩
  refine ⟨pub,_,fun b pv u h=>(by cases h),?_,After.below hp (fun _=>rfl) hbw⟩
  rcases hrow with ⟨rfl,hz⟩ | ⟨g,cap,cur,rfl,hbase,hg,h1,h2,h3,h4⟩
  ·exact absurd rfl hn
  ·exact .lst .str [] none g 0 cap (fun _ _=>.bool false) (Nat.zero_le _) (by unfold maxLen at h2;unfold bA;omega) (fun id h=>by cases h) (fun i x hx=>by cases hx) (fun i x hx=>by cases hx)
 | lst _ _ _ b off cap vals h1 h2 tok hcell hval=>
  have at_:∀i (hi:i < l.length),w.cell? ⟨b,off+i,none⟩=some (.string ⟨l[i].toArray⟩)/\l[i].length<=bA:=fun i hi=>by
   have hx:l[i]?=some l[i]:=List.getElem?_eq_getElem hi
   obtain ⟨_,c1⟩:=hcell i l[i] hx 0 (.str l[i]) rfl
   have c2:=hval i l[i] hx 0 (.str l[i]) rfl
   obtain ⟨c3,c4⟩:=c2.str_inv
   rw [c3,show off+(i *ag .str+0)=off+i by rw [show ag .str=1 from rfl];omega] at c1
   exact ⟨c1,c4⟩
  refine (Any.slices_Clone_string L b off l.length cap (l.map fun s=>(⟨s.toArray⟩:ByteArray)) w (by simp) hb (fun j hj=>?_)).mono ?_
  ·have hj':j < l.length:=by simpa using hj
   rw [(at_ j hj').1,List.getD_eq_getElem?_getD,List.getElem?_map,List.getElem?_eq_getElem hj']
   rfl
  rintro en w' ⟨v',rfl,⟨hl,hrow⟩,hn,hbw⟩
  rcases hrow with ⟨rfl,hz⟩ | ⟨g,cap',cur,rfl,hbase,hg,k1,k2,k3,k4⟩
  ·exact absurd rfl hn
  have hcur:∀i (hi:i < l.length),cur[i]?=some (.string ⟨l[i].toArray⟩):=fun i hi=>by
   have:(cur.toList.take (l.length *1))[i]?=some (.string ⟨l[i].toArray⟩):=by
    rw [k4,List.getElem?_map,List.getElem?_take]
    simp [hi]
   rw [List.getElem?_take] at this
   split at this
   ·simpa using this
   ·cases this
  refine ⟨fun b o=>pub b o∨(b=g/\o < l.length),_,fun b pv u h=>(by cases h),?_,After.newRow hp (fun _=>rfl) hbw hbase (p:=fun o=>o < l.length) (fun o ho=>⟨_,by rw [aA hg];exact hcur o ho⟩)⟩
  refine .lst .str l none g 0 cap' (fun i _=>.string ⟨(l.getD i []).toArray⟩) k1 (by unfold maxLen at k2;unfold bA;omega) (fun id h=>by cases h) (fun i x hx j c hc=>?_) (fun i x hx j c hc=>?_)
  ·obtain ⟨hi,rfl⟩:=List.getElem?_eq_some_iff.1 hx
   have hj:j=0:=by
    cases j with
    | zero=>rfl
    | succ j=>simp [cells] at hc
   subst hj
   rw [show 0+(i *ag .str+0)=i by rw [show ag .str=1 from rfl];omega]
   refine ⟨.inr ⟨rfl,hi⟩,?_⟩
   show w'.cell? ⟨g,i,none⟩=_
   rw [aA hg,hcur i hi,List.getD_eq_getElem?_getD,List.getElem?_eq_getElem hi]
   rfl
  ·obtain ⟨hi,rfl⟩:=List.getElem?_eq_some_iff.1 hx
   have hj:j=0:=by
    cases j with
    | zero=>rfl
    | succ j=>simp [cells] at hc
   subst hj
   have e1:c=.str l[i]:=by simpa [cells] using hc.symm
   subst e1
   rw [List.getD_eq_getElem?_getD,List.getElem?_eq_getElem hi]
   exact .str _ (at_ i hi).2
def vz:Pat:=p1 (.lst .str) fun l=>⟨some (l.length *16<=140737488355328),none,.lst .str l none,[]⟩
theorem vA {f:Nat} (L:Lays2.n16 P ρ) (hf:ρ.f 16=f) (he:ax P f):aj P f vz:=by
 subst hf
 exact ba he fun l _ ho=>vw L l (ho _ rfl)
end Go.AL
end
section
namespace Go.Proofs
open Go.Shelf
def Tryz.lays2_16_ren:Go.Shelf.Ren:=⟨fun | 16=>40 | n=>n,fun | 24=>22 | 9=>9 | 4=>4 | n=>n,fun | n=>n⟩
theorem Tryz.lays2_16:Go.Proofs.Lays2.n16 Tryz.prog Tryz.lays2_16_ren:={
 mixed:=by kernel_rfl
 f16:=Xt Tryz.func40
 t4:=Tryz.underlying4
 a4:=Tryz.isAgg4
 z4:=Tryz.sizeOf4
 v4:=Tryz.zeroValue4
 t9:=Tryz.underlying9
 a9:=Tryz.isAgg9
 z9:=Tryz.sizeOf9
 v9:=Tryz.zeroValue9
 t24:=Tryz.underlying22
 a24:=Tryz.isAgg22
 z24:=Tryz.sizeOf22
 v24:=Tryz.zeroValue22
 i9:=by kernel_rfl}
end Go.Proofs
end
section
namespace Go.AL.Seat
open Go Go.AL Go.Proofs Go.Shelf Go.Pd
variable [Tabs]
theorem B3:aj Tryz.prog 40 vz:=vA Tryz.lays2_16 rfl (ax.mk' Tryz.func40 (by kernel_rfl))
end Go.AL.Seat
end
section
namespace Go.Pd
open Go Go.AL
theorem fN {p:Prop} [Decidable p] (h:(!decide p)=true):¬p:=by simpa using h
theorem fO {p:Prop} [Decidable p] (h:¬(!decide p)=true):p:=by simpa using h
def xW (n:Int):Thg:=⟨1,n,[],[],[],[],none⟩
def Fh (s:Str):Thg:=⟨2,0,[],s,[],[],none⟩
def kW (b:Bool):Thg:=⟨3,if b=true then 1 else 0,[],[],[],[],none⟩
def Dj (k:Int) (o x:Str) (ns:List Str) (l:List Thg):Thg:=⟨k,0,o,x,ns,l,none⟩
def B4 (f:Fnc):Thg:=⟨8,0,[],[],[],[],some f⟩
def jw:Thg:=⟨0,0,[],[],[],[],none⟩
def cM (s:Option Scp) (o n:Str) (w:Thg):Option Scp:=some ⟨o,n,w,s⟩
def tC:Option Scp→Nat
 | none=>0
 | some ⟨_,_,_,r⟩=>tC r+1
mutual
def findS:Scp→Str→Str→Option Scp
 | ⟨p,n,w,r⟩,o,m=>if p=o/\n=m then some ⟨p,n,w,r⟩ else findF r o m
def findF:Option Scp→Str→Str→Option Scp
 | none,_,_=>none
 | some s,o,m=>findS s o m
end
theorem rY (p n:Str) (w:Thg) (r:Option Scp):tC (some ⟨p,n,w,r⟩)=tC r+1:=by rw [tC]
theorem gJ (p n:Str) (w:Thg) (r:Option Scp) (o m:Str):findF (some ⟨p,n,w,r⟩) o m=if p=o/\n=m then some ⟨p,n,w,r⟩ else findF r o m:=by rw [findF,findS]
theorem xX (o m:Str):findF none o m=none:=by rw [findF]
def two:List Str:=[[97,100,100],[115,117,98],[109,117,108],[108,101,115,115],[115,97,109,101],[98,111,116,104],[99,97,116]]
def ie:List Str:=[[110,111,116],[115,105,122,101],[115,104,111,119]]
def dO (k:Int) (s:Option Scp) (n:Str):Option Scp:=cM s [] n (B4 ⟨none,[],[],none,n,k⟩)
def bR:Option Scp:=ie.foldl (dO 1) (two.foldl (dO 2) none)
def vB (n:Int):Int:=IntKind.i64.wrap n
structure Ev where
 f:Flt
 v:Thg
 st:Int
structure EvL where
 f:Flt
 vs:List Thg
 st:Int
def okE (v:Thg) (st:Int):Option Ev:=some ⟨⟨0,0⟩,v,st⟩
def mu (e a st:Int):Option Ev:=some ⟨⟨e,a⟩,jw,st⟩
def o9 (r:Option Ev) (k:Thg→Int→Option Ev):Option Ev:=
 match r with
 | none=>none
 | some e=>if e.f.err=0 then k e.v e.st else some ⟨e.f,jw,e.st⟩
def ki (r:Option EvL) (k:List Thg→Int→Option Ev):Option Ev:=
 match r with
 | none=>none
 | some e=>if e.f.err=0 then k e.vs e.st else some ⟨e.f,jw,e.st⟩
def GB:Ev:=⟨⟨0,0⟩,jw,0⟩
def Fi:EvL:=⟨⟨0,0⟩,[],0⟩
def ig (ev:Trm→Int→Option Ev):List Trm→List Thg→Int→Option EvL
 | [],out,st=>some ⟨⟨0,0⟩,out,st⟩
 | t ::r,out,st=>
  match ev t st with
  | none=>none
  | some e=>if e.f.err=0 then ig ev r (out++[e.v]) e.st else some ⟨e.f,[],e.st⟩
def ay (ev:Trm→Int→Option Ev) (l:List Trm) (st:Int):Option EvL:=if 1000000 < l.length then none else ig ev l [] st
def dx (k:Int) (l:List Thg):Bool:=l.all fun x=>decide (x.kind=k)
def jx (k:Int) (l:List Thg) (a:Int) (r:Option Ev):Option Ev:=if dx k l=true then r else mu 291 a 0
def nH0 (l:List Thg):Int:=(l.getD 0 default).n
def nH1 (l:List Thg):Int:=(l.getD 1 default).n
def tH0 (l:List Thg):Str:=(l.getD 0 default).text
def tH1 (l:List Thg):Str:=(l.getD 1 default).text
def GC (x y:Str) (a:Int):Option Ev:=if 1000000000000000000 < x.length∨1000000000000000000 < y.length then none else if 4096 < x.length+y.length then mu 3 a 0 else okE (Fh (x++y)) 0
def GD (nm:Str) (l:List Thg):Option Ev:=
 if nm=[115,104,111,119] then (if 1000 < (Go.Lib.itoa (nH0 l)).length then none else okE (Fh (Go.Lib.itoa (nH0 l))) 0)
 else if l.length < 2 then none
 else okE (if nm=[97,100,100] then xW (vB (nH0 l+nH1 l)) else if nm=[115,117,98] then xW (vB (nH0 l - nH1 l)) else if nm=[109,117,108] then xW (vB (nH0 l *nH1 l)) else if nm=[108,101,115,115] then kW (decide (nH0 l < nH1 l)) else kW (decide (nH0 l=nH1 l))) 0
def an (nm:Str) (l:List Thg) (a:Int):Option Ev:=
 if l=[] then none
 else if nm=[110,111,116] then jx 3 l a (okE (kW (decide (nH0 l=0))) 0)
 else if nm=[98,111,116,104] then jx 3 l a (if l.length < 2 then none else okE (kW (decide (vB (nH0 l+nH1 l)=2))) 0)
 else if nm=[99,97,116] then jx 2 l a (if l.length < 2 then none else GC (tH0 l) (tH1 l) a)
 else if nm=[115,105,122,101] then jx 2 l a (okE (xW (tH0 l).length) 0)
 else jx 1 l a (GD nm l)
theorem dW {α:Type} {r:Option α} (h:r≠none):∃v,r=some v:=by cases r with | none=>exact absurd rfl h | some v=>exact ⟨v,rfl⟩
theorem kj {k:Int} {l:List Thg} {a:Int} {r:Option Ev} {e:Ev} (h:jx k l a r=some e) (hk:(!dx k l)=true):e=⟨⟨291,a⟩,jw,0⟩:=by
 unfold jx at h
 rw [if_neg (by simpa using hk)] at h
 exact (Option.some.inj h).symm
theorem iK {k:Int} {l:List Thg} {a:Int} {r:Option Ev} {e:Ev} (h:jx k l a r=some e) (hk:¬(!dx k l)=true):r=some e:=by
 unfold jx at h
 rw [if_pos (by simpa using hk)] at h
 exact h
theorem tD {l:List Thg} {r:Option Ev} {e:Ev} (h:(if l.length < 2 then none else r)=some e):r=some e/\(1:Int) < l.length:=by
 split at h
 ·cases h
 ·exact ⟨h,by omega⟩
theorem di {v:Thg} {st:Int} {e:Ev} (h:okE v st=some e):e=⟨⟨0,0⟩,v,st⟩:=(Option.some.inj h).symm
theorem dz {x a st:Int} {e:Ev} (h:mu x a st=some e):e=⟨⟨x,a⟩,jw,st⟩:=(Option.some.inj h).symm
def tE (r:Option Ev) (st:Int):Option Ev:=match r with | none=>none | some e=>some ⟨e.f,e.v,st⟩
def dj:Option Scp→List Str→List Thg→Option (Option Scp)
 | s,[],_=>some s
 | _,_ ::_,[]=>none
 | s,n ::ns,x ::xs=>dj (cM s [] n x) ns xs
def fcn (l:List Thg):Fnc:=((l.getD 0 default).fn).getD default
def oa (l:List Thg):Bool:=(l.getD 0 default).fn.isSome
def Dk (l:List Thg):Bool:=(l.getD 0 default).fn.isNone
theorem GF {l:List Thg} (h:Dk l=true):oa l=false:=by unfold Dk at h;unfold oa;cases q:(l.getD 0 default).fn <;> simp_all
theorem GG {l:List Thg} (h:¬Dk l=true):oa l=true:=by unfold Dk at h;unfold oa;cases q:(l.getD 0 default).fn <;> simp_all
abbrev EvT:=Trm→Plc→Int→Option Ev
def qj (ev:EvT) (f:Fnc) (l:List Thg) (a st:Int):Option Ev:=
 match f.body with
 | none=>tE (an f.basic l a) st
 | some b=>
  match dj f.scp f.names l with
  | none=>none
  | some s=>ev b ⟨s,f.self⟩ st
def mv (mo st:Int):Prop:=0<=st/\st<=mo/\mo<=1000000
instance (mo st:Int):Decidable (mv mo st):=inferInstanceAs (Decidable (_/\_))
def bC (ev:EvT) (mo:Int) (a:Int) (l:List Thg) (st:Int):Option Ev:=
 if ¬mv mo st∨l.length=0∨1000000 < l.length then none
 else if oa l=true/\(fcn l).args=(l.length:Int) - 1 then (if st=mo then mu 292 a st else qj ev (fcn l) (l.drop 1) a (st+1))
 else mu 291 a st
def fR (t:Trm) (i:Nat) (r:Option Ev):Option Ev:=if t.parts.length<=i then none else r
def kl (t:Trm) (i:Nat):Trm:=t.parts.getD i default
def tF (x:Thg) (t:Trm) (st:Int):Option Ev:=
 if x.kind=5/\0<=bh x.names t.name 0 then (if x.parts.length<=(bh x.names t.name 0).toNat then none else okE (x.parts.getD (bh x.names t.name 0).toNat default) st) else mu 291 t.pos st
def ifE (ev:EvT) (x:Thg) (t:Trm) (p:Plc) (st:Int):Option Ev:=
 if x.kind=3 then (if x.n=0∨x.n=1 then fR t (2 - x.n).toNat (ev (kl t (2 - x.n).toNat) p st) else none) else mu 291 t.pos st
def tG (ev:EvT) (x:Thg) (t:Trm) (p:Plc) (i:Nat) (st:Int):Option Ev:=
 if t.vars.length<=i∨x.parts.length=0 then none else fR t (i+1) (ev (kl t (i+1)) ⟨cM p.scp [] (t.vars.getD i default) (x.parts.getD 0 default),p.self⟩ st)
def tH (ev:EvT) (x:Thg) (t:Trm) (p:Plc) (st:Int):Option Ev:=
 if x.kind=6/\0<=bh t.names x.text 0 then tG ev x t p (bh t.names x.text 0).toNat st else mu 291 t.pos st
def Fj (x:Thg) (t:Trm) (p:Plc) (st:Int):Option Ev:=
 if x.kind=7/\x.pkg=p.self/\x.text=t.name then (if x.parts.length=0 then none else okE (x.parts.getD 0 default) st) else mu 291 t.pos st
def qk (ev:EvT) (t:Trm) (p:Plc) (x:Thg) (st:Int):Option Ev:=
 if t.kind=9 then tF x t st else if t.kind=12 then ifE ev x t p st else if t.kind=13 then tH ev x t p st else Fj x t p st
def au (ev:EvT) (t:Trm) (p:Plc) (st:Int):Option Ev:=fR t 0 (o9 (ev (kl t 0) p st) (qk ev t p))
def letE (ev:EvT) (t:Trm) (p:Plc) (st:Int):Option Ev:=fR t 1 (o9 (ev (kl t 0) p st) fun v st=>ev (kl t 1) ⟨cM p.scp [] t.name v,p.self⟩ st)
def G2 (ev:EvT) (t:Trm) (p:Plc) (st:Int):Option Ev:=fR t 0 (ev (kl t 0) p st)
def Dl (x:Option Scp) (t:Trm) (st:Int):Option Ev:=if x.isSome=true then okE (x.getD default).what st else mu 110 t.pos st
def B5 (t:Trm) (p:Plc) (st:Int):Option Ev:=Dl (findF p.scp t.pkg t.name) t st
def funE (t:Trm) (p:Plc) (st:Int):Option Ev:=fR t 0 (okE (B4 ⟨p.scp,p.self,t.names,some (kl t 0),[],t.names.length⟩) st)
def ql (ev:EvT) (mo:Int) (t:Trm) (p:Plc) (st:Int):Option Ev:=
 if t.kind=1 then okE (xW t.n) st
 else if t.kind=2 then okE (Fh t.name) st
 else if t.kind=3∨t.kind=4 then okE (kW (decide (t.kind=3))) st
 else if t.kind=5 then B5 t p st
 else if t.kind=6 then funE t p st
 else if t.kind=7 then ki (ay (fun x=>ev x p) t.parts st) (bC ev mo t.pos)
 else if t.kind=8 then ki (ay (fun x=>ev x p) t.parts st) fun l st=>okE (Dj 5 [] [] t.names l) st
 else if t.kind=10 then ki (ay (fun x=>ev x p) t.parts st) fun l st=>okE (Dj 6 [] t.name [] l) st
 else if t.kind=11 then ki (ay (fun x=>ev x p) t.parts st) fun l st=>okE (Dj 4 [] [] [] l) st
 else if t.kind=15 then G2 ev t p st
 else if t.kind=16 then ki (ay (fun x=>ev x p) t.parts st) fun l st=>okE (Dj 7 p.self t.name [] l) st
 else if t.kind=14 then letE ev t p st
 else au ev t p st
def ab (mo:Int):Nat→EvT
 | 0,_,_,_=>none
 | n+1,t,p,st=>if mv mo st then ql (ab mo n) mo t p st else none
end Go.Pd
end
noncomputable section
namespace Go.AL
open Go.Pd
variable [Tabs] {P:Program}
def B6 (st mo:Int):List (Nat × SObj):=[(900,.box (.agg [.int .i64 st,.int .i64 mo]))]
def ah (r:Option Ev):Ev:=match r with | none=>GB | some e=>e
theorem cv (e:Ev):ah (some e)=e:=rfl
def ct (r:Option EvL):EvL:=match r with | none=>Fi | some e=>e
theorem iL (e:EvL):ct (some e)=e:=rfl
def lK (t:Nat) (mo:Int) (ob:Prop) (e:Ev):Ans:=
 ⟨some ob,some (!decide (e.f.err=0),.iface t (.agg [.int .i64 e.f.err,.int .i64 e.f.pos]),[(900,.box (.agg [.int .i64 e.st,.int .i64 mo]))]),.st .thing e.v,[(900,.box (.agg [.int .i64 e.st,.int .i64 mo]))]⟩
def evLA (t:Nat) (mo:Int) (ob:Prop) (e:EvL):Ans:=
 ⟨some ob,some (!decide (e.f.err=0),.iface t (.agg [.int .i64 e.f.err,.int .i64 e.f.pos]),[(900,.box (.agg [.int .i64 e.st,.int .i64 mo]))]),.lst (.st .thing) e.vs none,[(900,.box (.agg [.int .i64 e.st,.int .i64 mo]))]⟩
def bsA (t:Nat) (ob:Prop) (e:Ev):Ans:=⟨some ob,some (!decide (e.f.err=0),.iface t (.agg [.int .i64 e.f.err,.int .i64 e.f.pos]),[]),.st .thing e.v,[]⟩
def pE (τ:Ty) (F:den τ→Plc→Int→Int→Ans):Pat
 | [.ptr 900 0,a,b],[(900,.box (.agg [.int .i64 st,.int .i64 mo]))]=>(match arg τ a,arg (.st .plc) b with | some x,some p=>some (F x p st mo) | _,_=>none)
 | _,_=>none
def pEc (F:Trm→List Thg→Int→Int→Ans):Pat
 | [.ptr 900 0,a,b],[(900,.box (.agg [.int .i64 st,.int .i64 mo]))]=>(match arg (.pt .term) a,arg (.lst (.st .thing)) b with | some (some x),some l=>some (F x l st mo) | _,_=>none)
 | _,_=>none
theorem Wf.pt {n:SN} {x:SD n} (h:Wf (.pt n) (some x)):Wf (.st n) x:=by
 obtain ⟨Ω,v,hv⟩:=h
 cases hv with
 | ptSome _ _ _ hc=>
  cases hc with
  | cptr _ b off vals h1 h2=>
   refine ⟨Ω,.agg ((List.range (cells (.st n) x).length).map vals).toArray,.st n x _ (.agg _ _ (by simp) fun j c v hc hv=>?_)⟩
   have hlt:j < (cells (.st n) x).length:=by
    rcases Nat.lt_or_ge j (cells (.st n) x).length with q | q
    ·exact q
    ·rw [List.getElem?_eq_none q] at hc;cases hc
   rw [List.getElem?_map,List.getElem?_range hlt] at hv
   simp only [Option.map_some,Xs] at hv
   rw [←hv]
   exact h2 j c hc
theorem zS {f:Nat} {τ:Ty} {F:den τ→Plc→Int→Int→Ans} (he:ax P f)
  (h:∀x p st mo,Wf τ x→Wf (.st .plc) p→(∀q,(F x p st mo).ob=some q→q)→aw P f [.ptr 900 0,inj τ x,.st .plc p] (B6 st mo) (F x p st mo)):aj P f (pE τ F):=by
 intro args S A hA ho _
 unfold pE at hA
 split at hA
 ·split at hA
  ·rename_i x p hx hp
   simp only [Xs] at hA
   subst hA
   exact ⟨he,aw.args (.cons (Rd.refl _) (.cons (Rd.arg hx) (.cons (Rd.arg hp) .nil))) (aw.wf fun hw=>h _ _ _ _ (WfL.two hw) (WfL.three (τ:=.st .plc) hw) ho)⟩
  ·cases hA
 ·cases hA
theorem GH {f:Nat} {F:Trm→List Thg→Int→Int→Ans} (he:ax P f)
  (h:∀x l st mo,Wf (.st .term) x→Wf (.lst (.st .thing)) l→(∀q,(F x l st mo).ob=some q→q)→aw P f [.ptr 900 0,.pt .term (some x),.lst (.st .thing) l none] (B6 st mo) (F x l st mo)):aj P f (pEc F):=by
 intro args S A hA ho _
 unfold pEc at hA
 split at hA
 ·split at hA
  ·rename_i x l hx hl
   simp only [Xs] at hA
   subst hA
   exact ⟨he,aw.args (.cons (Rd.refl _) (.cons (Rd.arg hx) (.cons (Rd.arg hl) .nil))) (aw.wf fun hw=>h _ _ _ _ (Wf.pt (WfL.two (τ:=.pt .term) hw)) (WfL.three (τ:=.lst (.st .thing)) hw) ho)⟩
  ·cases hA
 ·cases hA
end Go.AL
end
section
namespace Go.Pd
open Go.AL
def p0 (A:Ans):Pat
 | [],[]=>some A
 | _,_=>none
theorem G3 [Tabs] {P:Program} {f:Nat} {A:Ans} (he:ax P f) (h:aw P f [] [] A):aj P f (p0 A):=by
 intro args S A' hA _ _
 unfold p0 at hA
 split at hA
 ·simp only [Xs] at hA
  subst hA
  exact ⟨he,h⟩
 ·cases hA
end Go.Pd
end
