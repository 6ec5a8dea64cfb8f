/- Plain facts. The layer: Go code as conditions, and that they are sound. What the functions' conditions say, proved. No condition. -/
import Derived.Test.YtdmbjejhifjhbaaGreatDoorT04
import Derived.Recover
import Derived.Test.YtdmbjejhifjhbaaGreatDoorProg
set_option linter.all false
set_option maxRecDepth 100000
section
namespace Go.Proofs.YtdmbjejhifjhbaaGreatDoor.Join
open Go.AL Go.AL.Seat Go.ChangeShapes Go.WideShapes Go.RowKit Go.Lib Go.Shelf
set_option maxRecDepth 1000000
theorem Ke:(Rows.laid_internal_strconv_uint64pow10:DataW Unit)=tabData .u64 pow10Tab:=by simp only[tabData,pow10Tab];rfl
theorem Mz{W:World}(h:laidMet Tryz.prog laid W):TabIs Tryz.prog W "internal/strconv.uint64pow10" .u64 pow10Tab:=by obtain ⟨g,t,cs,fuel,p,hg,hty,hvar,hd⟩:=laidMet.reads h (n:= "internal/strconv.uint64pow10") (d:=Rows.laid_internal_strconv_uint64pow10) (by simp [laid,Rows.parseTypesRow]);obtain rfl:=O1 ((show Tryz.prog.globalNamed "internal/strconv.uint64pow10"=some 3 by kernel_rfl).symm.trans hg);obtain rfl:=O1 ((show (Tryz.prog.globals[3]?).map (·.type)=some 238 by kernel_rfl).symm.trans hty);rw [Ke] at hd;have hcs:=cells_of_tab (P:=Tryz.prog) (n:=20) (show Tryz.prog.underlying 238=some (.array 20 211) by kernel_rfl) (show Tryz.prog.underlying 211=some (.int .u64) by kernel_rfl) (by kernel_rfl) (by kernel_rfl) hd;unfold TabIs;rw [hvar,<-hcs]
theorem Kf{W:World}(h:laidMet Tryz.prog laid W):@SeatPow (mc W):=by
 letI:Tabs:=mc W
 have hp:=Mz h;unfold TabIs World.var? at hp;rw [show Tryz.prog.globalNamed "internal/strconv.uint64pow10"=some 3 by kernel_rfl] at hp;simp only [Option.bind_some] at hp;refine ⟨?_⟩;unfold xe
 cases hw:W.heap[3]? with
 |none=>rw[hw]at hp;cases hp
 |some o=>
  rw[hw]at hp
  cases o with
  |cells cs t fz=>obtain rfl:=O1 hp;exact⟨t,fz,rfl,hw⟩
  |_=>cases hp
end Go.Proofs.YtdmbjejhifjhbaaGreatDoor.Join
end
section
open Go Go.AL Go.Proofs
namespace Go.AL.Seat
variable [Tabs]
def r1:TR:=⟨.other,1,8,[.undef],none⟩
def r2:TR:=⟨.int .i64,1,8,[.int .i64 0],some (.int .i64)⟩
def r5:TR:=⟨.int .u8,1,1,[.int .u8 0],some (.int .u8)⟩
def r7:TR:=⟨.strct true [(0,2),(1,3),(2,4),(3,6)],4,24,[.int .i64 0,.int .i64 0,.bool false,.int .u8 0],none⟩
def r9:TR:=⟨.str,1,16,[.str []],some .str⟩
def r12:TR:=⟨.int .u64,1,8,[.int .u64 0],some (.int .u64)⟩
def r13:TR:=⟨.strct false [(0,9),(1,12)],2,24,[.str [],.int .u64 0],none⟩
def r18:TR:=⟨.strct false [(0,17)],1,8,[.nilp],none⟩
def r20:TR:=⟨.iface,1,16,[.nilif],none⟩
def r21:TR:=⟨.int .i32,1,4,[.int .i32 0],some (.int .i32)⟩
def r100:TR:=⟨.strct true [(0,9),(1,3)],2,24,[.str [],.int .i64 0],none⟩
def r102:TR:=⟨.strct false [(0,101),(2,22),(3,31)],5,64,[.str [],.int .i64 0,.nils,.int .i64 0,.int .i64 0],none⟩
def r145:TR:=⟨.strct false [],0,0,[],none⟩
def r151:TR:=⟨.strct false [(0,149),(1,150)],2,32,[.nilp,.nils],none⟩
def r163:TR:=⟨.strct true [(0,3),(1,3),(2,3),(3,3)],4,32,[.int .i64 0,.int .i64 0,.int .i64 0,.int .i64 0],none⟩
def r225:TR:=⟨.strct true [(0,5),(1,5)],2,2,[.int .u8 0,.int .u8 0],none⟩
def r243:TR:=⟨.strct false [(0,9),(1,9),(2,155)],3,48,[.str [],.str [],.nilif],none⟩
def r258:TR:=⟨.strct true [(0,9)],1,16,[.str []],none⟩
def r272:TR:=⟨.strct false [(0,17),(1,17),(2,17),(3,9)],4,40,[.nilp,.nilp,.nilp,.str []],none⟩
def r283:TR:=⟨.strct false [(0,12),(1,12),(2,239),(3,278),(4,5),(5,5),(6,279),(7,280),(8,198),(9,281),(10,282)],11,48,[.int .u64 0,.int .u64 0,.int .u32 0,.int .u8 0,.int .u8 0,.int .u8 0,.int .u8 0,.undef,.nilp,.int .i32 0,.int .i32 0],none⟩
def tbl:List (Nat×TR):=[(1,r1),
 (2,r2),
 (3,r2),
 (4,⟨.bool,1,1,[.bool false],some .bool⟩),
 (5,r5),
 (6,r5),
 (7,r7),
 (8,r7),
 (9,r9),
 (10,r9),
 (11,r9),
 (12,r12),
 (13,r13),
 (14,r13),
 (15,⟨.ptr 273,1,8,[.nilp],none⟩),
 (16,⟨.ptr 276,1,8,[.nilp],none⟩),
 (17,⟨.ptr 284,1,8,[.nilp],none⟩),
 (18,r18),
 (19,r18),
 (20,r20),
 (21,r21),
 (22,⟨.slice 56,1,24,[.nils],some (.lst (.st .token))⟩),
 (23,r1),
 (24,r1),
 (25,⟨.slice 9,1,24,[.nils],some (.lst .str)⟩),
 (26,⟨.slice 28,1,24,[.nils],some (.lst (.st .shape))⟩),
 (27,⟨.strct false [(0,3),(1,9),(2,9),(3,25),(4,26)],5,88,[.int .i64 0,.str [],.str [],.nils,.nils],none⟩),
 (28,⟨.strct false [(0,3),(1,9),(2,9),(3,25),(4,26)],5,88,[.int .i64 0,.str [],.str [],.nils,.nils],some (.st .shape)⟩),
 (29,r2),
 (30,⟨.strct true [(0,29),(1,3)],2,16,[.int .i64 0,.int .i64 0],none⟩),
 (31,⟨.strct true [(0,29),(1,3)],2,16,[.int .i64 0,.int .i64 0],some (.st .fault)⟩),
 (33,r1),
 (34,r1),
 (35,r1),
 (36,⟨.slice 38,1,24,[.nils],some (.lst (.st .term))⟩),
 (37,⟨.strct false [(0,3),(1,9),(2,9),(3,3),(4,25),(5,25),(6,26),(7,36),(8,3)],9,152,[.int .i64 0,.str [],.str [],.int .i64 0,.nils,.nils,.nils,.nils,.int .i64 0],none⟩),
 (38,⟨.strct false [(0,3),(1,9),(2,9),(3,3),(4,25),(5,25),(6,26),(7,36),(8,3)],9,152,[.int .i64 0,.str [],.str [],.int .i64 0,.nils,.nils,.nils,.nils,.int .i64 0],some (.st .term)⟩),
 (40,r1),
 (41,r1),
 (43,r1),
 (45,r1),
 (46,r1),
 (48,r1),
 (49,r1),
 (50,r1),
 (52,r1),
 (53,r1),
 (54,r1),
 (55,⟨.strct true [(0,3),(1,9),(2,3)],3,32,[.int .i64 0,.str [],.int .i64 0],none⟩),
 (56,⟨.strct true [(0,3),(1,9),(2,3)],3,32,[.int .i64 0,.str [],.int .i64 0],some (.st .token)⟩),
 (57,⟨.ptr 62,1,8,[.nilp],none⟩),
 (58,r1),
 (59,⟨.strct false [(0,22),(1,3),(2,31)],4,48,[.nils,.int .i64 0,.int .i64 0,.int .i64 0],none⟩),
 (60,⟨.strct false [(0,22),(1,3),(2,31)],4,48,[.nils,.int .i64 0,.int .i64 0,.int .i64 0],some (.st .par)⟩),
 (61,⟨.strct false [(0,60)],4,48,[.nils,.int .i64 0,.int .i64 0,.int .i64 0],none⟩),
 (62,⟨.strct false [(0,60)],4,48,[.nils,.int .i64 0,.int .i64 0,.int .i64 0],some (.st .par)⟩),
 (63,r1),
 (65,r1),
 (66,r1),
 (67,r1),
 (68,r1),
 (69,r1),
 (70,r1),
 (71,r1),
 (72,r1),
 (74,r1),
 (75,r1),
 (76,r1),
 (77,r1),
 (78,r1),
 (79,r1),
 (80,r1),
 (81,r1),
 (82,⟨.ptr 60,1,8,[.nilp],none⟩),
 (83,r1),
 (84,r1),
 (85,r1),
 (86,r1),
 (87,r1),
 (89,r1),
 (90,r1),
 (91,r1),
 (93,r1),
 (94,r1),
 (95,r1),
 (96,r1),
 (97,r1),
 (98,r1),
 (99,⟨.ptr 103,1,8,[.nilp],none⟩),
 (100,r100),
 (101,r100),
 (102,r102),
 (103,r102),
 (104,r1),
 (105,r1),
 (106,r1),
 (107,r1),
 (108,r1),
 (110,r1),
 (111,r1),
 (112,r1),
 (114,r1),
 (115,r1),
 (116,r1),
 (117,r1),
 (118,r1),
 (119,r1),
 (120,r1),
 (121,r1),
 (122,r1),
 (123,r1),
 (124,r1),
 (125,r1),
 (126,r1),
 (127,r1),
 (128,⟨.ptr 101,1,8,[.nilp],none⟩),
 (129,⟨.slice 3,1,24,[.nils],some (.lst (.int .i64))⟩),
 (131,r1),
 (132,r1),
 (133,r1),
 (134,r1),
 (135,⟨.strct true [(0,3),(1,3),(2,3),(3,9)],4,40,[.int .i64 0,.int .i64 0,.int .i64 0,.str []],none⟩),
 (136,⟨.strct true [(0,3),(1,3),(2,3),(3,9)],4,40,[.int .i64 0,.int .i64 0,.int .i64 0,.str []],some (.st .version)⟩),
 (138,r1),
 (140,r1),
 (141,r1),
 (142,r1),
 (144,r1),
 (145,r145),
 (146,r145),
 (148,r1),
 (149,⟨.ptr 152,1,8,[.nilp],none⟩),
 (150,⟨.slice 5,1,24,[.nils],some (.lst (.int .u8))⟩),
 (151,r151),
 (152,r151),
 (153,r1),
 (154,r20),
 (155,r20),
 (157,r1),
 (158,r1),
 (159,r1),
 (160,r1),
 (161,r1),
 (162,r1),
 (163,r163),
 (164,r163),
 (165,r1),
 (166,r1),
 (167,r1),
 (168,r1),
 (169,r1),
 (170,r1),
 (171,r1),
 (172,r1),
 (174,r1),
 (175,r1),
 (176,r1),
 (180,r1),
 (181,r1),
 (182,⟨.ptr 178,1,8,[.nilp],none⟩),
 (184,r1),
 (185,r1),
 (186,⟨.arr 3 3,3,24,[.int .i64 0,.int .i64 0,.int .i64 0],none⟩),
 (187,r1),
 (188,r1),
 (189,r1),
 (190,r1),
 (191,r1),
 (193,r1),
 (194,r1),
 (195,r1),
 (196,r1),
 (197,r1),
 (198,⟨.ptr 5,1,8,[.nilp],none⟩),
 (199,r1),
 (200,r1),
 (201,r1),
 (202,r1),
 (203,r1),
 (204,r1),
 (205,r1),
 (206,r1),
 (208,r1),
 (209,r1),
 (211,r12),
 (212,r1),
 (213,r1),
 (215,r1),
 (216,r2),
 (218,r1),
 (219,⟨.ptr 244,1,8,[.nilp],none⟩),
 (220,r1),
 (221,r1),
 (222,r1),
 (223,r1),
 (225,r225),
 (226,r225),
 (228,r12),
 (229,r1),
 (230,r1),
 (231,r1),
 (232,r1),
 (233,r1),
 (234,r1),
 (235,r1),
 (236,r1),
 (237,r1),
 (239,⟨.int .u32,1,4,[.int .u32 0],some (.int .u32)⟩),
 (242,r1),
 (243,r243),
 (244,r243),
 (245,r1),
 (246,r1),
 (247,r1),
 (248,r2),
 (250,r1),
 (251,r1),
 (252,r1),
 (254,r1),
 (255,r1),
 (256,r1),
 (257,⟨.ptr 259,1,8,[.nilp],none⟩),
 (258,r258),
 (259,r258),
 (261,r1),
 (262,r12),
 (263,r1),
 (264,r1),
 (265,r1),
 (266,⟨.ptr 3,1,8,[.nilp],none⟩),
 (267,r1),
 (270,⟨.ptr 262,1,8,[.nilp],none⟩),
 (271,r1),
 (272,r272),
 (273,r272),
 (277,r1),
 (278,r5),
 (279,r5),
 (280,r1),
 (281,r21),
 (282,r21),
 (283,r283),
 (284,r283)]
theorem tk{t:Nat}{r:TR}(h1:(Tryz.prog.info? t).map (fun i=>(i.size,i.bytes,i.zero.map fun z=>z.cells.toList.map cQ))=some (r.size,r.bytes,some r.zero):=by kernel_rfl)
 (h2:(Tryz.prog.underlying t).map (bS Tryz.prog r.ti)=some true:=by kernel_rfl)
 (h3:(ib r.zero r.size&&(Nat.beq r.size 0||Nat.blt 0 r.bytes)&&(match r.ty with | some τ=>Nat.beq (ag τ) r.size&&(JE τ ==r.isAgg) | none=>true))=true:=by kernel_rfl)
 (h8:(Tryz.prog.info? t).map (fun i=>i.zero.map fun z=>AZ z ==r.isAgg)=some (some true):=by kernel_rfl)
 (h9:(match r.ti with|.strct true _=>!Tryz.prog.stoodInHeld t&&!Tryz.prog.eqGuardType Tryz.prog.depth t|_=>true)=true:=by kernel_rfl):TRok Tryz.prog t r:=TRok.mk' h1 h2 h3 h8 h9
theorem I1:cq Tryz.prog tbl:=
 .cons tk (.cons tk (.cons tk (.cons tk (.cons tk (.cons tk (.cons tk (.cons tk (.cons tk (.cons tk (.cons tk (.cons tk (.cons tk (.cons tk (.cons tk (.cons tk (.cons tk (.cons tk (.cons tk (.cons tk (.cons tk (.cons tk (.cons tk (.cons tk (.cons tk (.cons tk (.cons tk (.cons tk (.cons tk (.cons tk (.cons tk (.cons tk (.cons tk (.cons tk (.cons tk (.cons tk (.cons tk (.cons tk (.cons tk (.cons tk (.cons tk (.cons tk (.cons tk (.cons tk (.cons tk (.cons tk (.cons tk (.cons tk (.cons tk (.cons tk (.cons tk (.cons tk (.cons tk (.cons tk (.cons tk (.cons tk (.cons tk (.cons tk (.cons tk (.cons tk (.cons tk (.cons tk (.cons tk (.cons tk (.cons tk (.cons tk (.cons tk (.cons tk (.cons tk (.cons tk (.cons tk (.cons tk (.cons tk (.cons tk (.cons tk (.cons tk (.cons tk (.cons tk (.cons tk (.cons tk (.cons tk (.cons tk (.cons tk (.cons tk (.cons tk (.cons tk (.cons tk (.cons tk (.cons tk (.cons tk (.cons tk (.cons tk (.cons tk (.cons tk (.cons tk (.cons tk (.cons tk (.cons tk (.cons tk (.cons tk (.cons tk (.cons tk (.cons tk (.cons tk (.cons tk (.cons tk (.cons tk (.cons tk (.cons tk (.cons tk (.cons tk (.cons tk (.cons tk (.cons tk (.cons tk (.cons tk (.cons tk (.cons tk (.cons tk (.cons tk (.cons tk (.cons tk (.cons tk (.cons tk (.cons tk (.cons tk (.cons tk (.cons tk (.cons tk (.cons tk (.cons tk (.cons tk (.cons tk (.cons tk (.cons tk (.cons tk (.cons tk (.cons tk (.cons tk (.cons tk (.cons tk (.cons tk (.cons tk (.cons tk (.cons tk (.cons tk (.cons tk (.cons tk (.cons tk (.cons tk (.cons tk (.cons tk (.cons tk (.cons tk (.cons tk (.cons tk (.cons tk (.cons tk (.cons tk (.cons tk (.cons tk (.cons tk (.cons tk (.cons tk (.cons tk (.cons tk (.cons tk (.cons tk (.cons tk (.cons tk (.cons tk (.cons tk (.cons tk (.cons tk (.cons tk (.cons tk (.cons tk (.cons tk (.cons tk (.cons tk (.cons tk (.cons tk (.cons tk (.cons tk (.cons tk (.cons tk (.cons tk (.cons tk (.cons tk (.cons tk (.cons tk (.cons tk (.cons tk (.cons tk (.cons tk (.cons tk (.cons tk (.cons tk (.cons tk (.cons tk (.cons tk (.cons tk (.cons tk (.cons tk (.cons tk (.cons tk (.cons tk (.cons tk (.cons tk (.cons tk (.cons tk (.cons tk (.cons tk (.cons tk (.cons tk (.cons tk (.cons tk (.cons tk (.cons tk (.cons tk (.cons tk (.cons tk (.cons tk (.cons tk (.cons tk (.cons tk (.cons tk (.cons tk (.cons tk (.cons tk (.cons tk (.cons tk (.cons tk (.cons tk (.cons tk (.cons tk (.cons tk (.cons tk (.cons tk (.cons tk (.cons tk (.cons tk (.cons tk (.nil)))))))))))))))))))))))))))))))))))))))))))))))))))))))))))))))))))))))))))))))))))))))))))))))))))))))))))))))))))))))))))))))))))))))))))))))))))))))))))))))))))))))))))))))))))))))))))))))))))))))))))))))))))))))))))))))))))))))))))))))))))
theorem mixed:Tryz.prog.follows .mixedOrders=true:=by kernel_rfl
end Go.AL.Seat
end
section
namespace Go.AL
variable [Tabs]
def LM:AV->Bool
 |.ptr k 0=>cU k
 |_=>false
def ptrIn(ks:List Nat):AV->Bool
 |.ptr k _=>ks.contains k
 |_=>false
def Kg(ks:List Nat)(t:List (Nat×AV)):List (Nat×AV):=t.map fun x=>(x.1,if ptrIn ks x.2 then x.2 else .undef)
structure RC where
 r0:Code
 rest:Code
 crest:Code
 t5:Nat
 caps:List Operand
 t6:Nat
 t3:Nat
def LN(g:Nat)(c cc:Code):Option RC:=
 match c,cc with
 |.seq r0 (.seq (.region _ o1 false) rest),.seq (.region _ o2 false) crest=>
  match o1.toList,o2.toList with
  |[⟨some t5,.makeFunc (.func g') fst caps,_,_,_,none⟩,⟨none,.defer ⟨.value (.tmp t5'),asx,_⟩,_,_,_,none⟩],
   [⟨some t6,.call ⟨.builtin .recover,as2,_⟩,_,_,_,none⟩,⟨some t3,.assign (.tmp t6'),_,_,_,none⟩]=>
   if Nat.beq g' g&&Nat.beq t5' t5&&Nat.beq t6' t6&&fst.isEmpty&&asx.isEmpty&&as2.isEmpty then some ⟨r0,rest,crest,t5,caps.toList,t6,t3⟩else none
  |_,_=>none
 |_,_=>none
def I2(C:Cfg)(rs:List ResultVar)(L:List dS)(s1:St)(S1:List (Nat×SObj))(S:List (Nat×SObj))(A:Ans)(t2:List (Nat×AV))(s3:St):Prop:=
 match cR (au s3.b)&&(au S1).all (fun k=>(au s3.b).contains k)with
 |true=>
  match oy C.tbl ⟨Kg (au S1) t2,s3.b⟩ rs with
  |some l=>
   (match lD (aE s1.b) L 998 (iD S1 s3.b),mapVs (qv L 998) (iC L 998) (iC L 998) l with
   |some u',some l'=>j8 ⟨[],putB s1.b u'⟩ fun s4=>uU (some l') s4 A.val (putB S A.upd)
   |_,_=>False)
  |none=>False
 |false=>False
def zq(C:Cfg)(annC:An)(clo:Func)(R:RC)(caps:List AV)(v:AV)(s2:St)(fin:St->Prop):Prop:=
 jF (List.range clo.ntmps) fun keep=>j8 ⟨rH (fm 0 caps) R.t3 v,s2.b⟩ fun s=>swp C keep annC R.crest s fun
  |.exit _,_=>False
  |.pan _,_=>False
  |_,s3=>fin s3
def fwpR(C:Cfg)(ann annC:An)(fn:Func)(g:Nat)(clo:Func)(args:List AV)(S:List (Nat×SObj))(A:Ans):Prop:=
 match fn.body,clo.body,A.pan with
 |some c,some cc,none=>
  match LN g c cc with
  |none=>False
  |some R=>
   match dF fn.ntmps c&&dF clo.ntmps cc&&Nat.blt R.t5 fn.ntmps&&ou args fn.ntmps&&(au S).all cU&&clo.results.isEmpty&&ou R.caps clo.ntmps&&ou R.caps R.t6 with
   |false=>False
   |true=>jF ((List.range fn.ntmps)) fun keep=>j8 ⟨fm 0 args,S⟩ fun i=>swp C keep ann R.r0 i fun
    |.normal,s1=>
     (match(au s1.b).map (fun i=>(i,(none:Option (Nat×Nat))))with
     |L=>
      (match cR (L.map (·.1))&&Nat.ble L.length 100,mapVs (toP L) (toI L) (toI L) ((List.range fn.ntmps).map (cx s1.t)),mapVs (toP L) (toI L) (toI L) (R.caps.map (opd (cx s1.t))),ow (aE s1.b) L L 900 with
      |true,some as1,some caps,some S1=>
       (match caps.all LM with
       |true=>j8 ⟨rH (fm 0 as1) R.t5 .undef,S1⟩ fun i=>swp C keep ann R.rest i fun
        |.exit _,_=>False
        |.pan v,s2=>zq C annC clo R caps v s2 (I2 C fn.results.toList L s1 S1 S A s2.t)
        |_,s2=>zq C annC clo R caps .nilif s2 (I2 C fn.results.toList L s1 S1 S A s2.t)
       |false=>False)
      |_,_,_,_=>False))
    |_,_=>False
 |_,_,_=>False
theorem vv:∀(u S:List (Nat×SObj))(i:Nat),cR (u.map (·.1))=true->aE (putB S u) i=(aE u i).or (aE S i)
 |[],S,i,_=>by simp[putB,aE]
 |(j,o)::r,S,i,h=>by
  simp only[Nj,cR,N4,Np]at h;simp only[putB];rw[vv r _ i h.2,km];simp only[aE];by_cases e:j=i
  ·subst e
   have:aE r j=none:=by
    cases hb:aE r j with|none=>rfl|some o'=>have:=dT r j o' hb;have h1:=h.1;simp only[Ou,Ns,O5,not_exists,not_and]at h1;exact absurd rfl (h1 _ this)
   simp[this]
  ·simp[e]
section
variable {P:Program} {C:Cfg}
theorem V.pinned{e0 e:Nat->Option CObj}{w0 w:World}{p0 p:Nat->Nat->Prop}(hk:∀id c,e0 id=some c->∃c',e id=some c'/\CLe c c'){a:AV}{v:Value}(ha:LM a=true)(h:V ⟨e0,w0,p0⟩ a v):V ⟨e,w,p⟩ a v:=by
 cases h with
 |ptr i o b q len he=>obtain⟨c',h1,h2⟩:=hk i _ he;have:=h2.box;subst this;exact .ptr i o b q len h1
 |_=>simp[LM]at ha
theorem Holds.retmp'{F:Fr}{s:AS}{a a':Act}{Ω:Om}(h:Holds F s a Ω){n:Nat}{ds:List Deferred}{T:Nat->AV}(hT:∀i,V Ω (T i) (a'.tmps.getD i undef))(hs:a'.tmps.size=n)(hd:a'.defers=ds) :
  Holds ⟨F.w0,F.pub0,n,F.e0,F.dom0,ds,F.tab0⟩ ⟨T,s.B⟩ a' Ω:=
 ⟨hT,hs,hd,h.slots,h.dom,h.inj,h.pubok,h.keep,⟨h.frame.os,h.frame.tape,h.frame.output,h.frame.size,h.frame.block,h.frame.cell,h.frame.kind,h.frame.pub,h.frame.old,h.frame.pcell⟩⟩
inductive Rcv:FrameMode->AV->Om->Value->FrameMode->Prop
 |ret (Ω:Om):Rcv .returning .nilif Ω .nilIface .returning
 |pan (Ω:Om) (a:AV) (v:Value):V Ω a v->Rcv (.panicking [{v,recovered:=false}]) a Ω v (.panicking [{v,recovered:=true}])
structure RCcode(g:Nat)(R:RC)(c cc:Code):Prop where
 code:∃i1 i2 ty1 ps1 af1 ty2 ps2 af2 ts2 ty3 ps3 af3 ts3 ty4 ps4 af4,
  c=.seq R.r0 (.seq (.region i1 #[⟨some R.t5,.makeFunc (.func g) #[] R.caps.toArray,ty1,ps1,af1,none⟩,⟨none,.defer ⟨.value (.tmp R.t5),#[],ts2⟩,ty2,ps2,af2,none⟩] false) R.rest)/\
  cc=.seq (.region i2 #[⟨some R.t6,.call ⟨.builtin .recover,#[],ts3⟩,ty3,ps3,af3,none⟩,⟨some R.t3,.assign (.tmp R.t6),ty4,ps4,af4,none⟩] false) R.crest
theorem I3{g:Nat}{c cc:Code}{R:RC}(h:LN g c cc=some R):RCcode g R c cc:=by
 unfold LN at h;split at h
 ·rename_i r0 i1 o1 rest i2 o2 crest;split at h
  ·rename_i h1 h2;split at h
   ·rename_i hc;simp only[N4,Nat.beq_eq,Array.isEmpty_iff]at hc;obtain⟨⟨⟨⟨⟨rfl,rfl⟩,rfl⟩,rfl⟩,rfl⟩,rfl⟩:=hc;simp only[Xs]at h;subst h;have e1:=OH List.toArray h1;have e2:=OH List.toArray h2;simp only[P8]at e1 e2;subst e1 e2;exact⟨_,_,_,_,_,_,_,_,_,_,_,_,_,_,_,_,rfl,rfl⟩
   ·cases h
  ·cases h
 ·cases h
theorem qR{ts:Array Nat}{d:Option Nat}{ty:Nat}{ps:String}{af:Array Edge}{ρ:Operand->Value}{w:World} :
  (execOp ρ ⟨d,.call ⟨.builtin .recover,#[],ts⟩,ty,ps,af,none⟩).run P w=.ok .recover w:=by
 simp[execOp,resolve,invoke,builtin]
theorem BW(hm:P.follows .mixedOrders=true)(hT:cq P C.tbl)(hS:dM P C.spec){g:Nat}{clo:Func}{c cc:Code}{R:RC}(hR:RCcode g R c cc)(hg:P.funcs[g]?=some clo)(hb:clo.body=some cc)
 (hd:dF clo.ntmps cc=true)(hres:clo.results=#[]){caps:List AV}(hcl:caps.length<=clo.ntmps)(hc6:caps.length<=R.t6){F:Fr}{s2:St}{a2:Act}{Ω2:Om}(h:Holds F s2.abs a2 Ω2){vs:List Value}(hv:VL Ω2 caps vs)
 {u u':FrameMode}{av:AV}{v:Value}(hrc:Rcv u av Ω2 v u'){annC:An}{fin:St->Prop}(hc:zq C annC clo R caps av s2 fin) :
  CallsD P g vs.toArray u Ω2.w fun en u2 w'=>u2=u'/\en=.returned (.tuple #[])/\∃s3 Ω3 a3 T,Ω3.w=w'/\fin s3/\Holds ⟨F.w0,F.pub0,clo.ntmps,F.e0,F.dom0,[],F.tab0⟩ ⟨T,aE s3.b⟩ a3 Ω3:=by
 obtain⟨i1,i2,ty1,ps1,af1,ty2,ps2,af2,ts2,ty3,ps3,af3,ts3,ty4,ps4,af4,_,rfl⟩:=hR;refine callsD_of_wpS hg hb (fun c₀ cs hu=>?_);apply wpS_seq;apply wpS_region;simp only[dF,N4,NI,Ql,Oa,PR]at hd;obtain⟨⟨hd6,hd3⟩,hdc⟩:=hd;have hvs:vs.length<=clo.ntmps:=by rw[<-hv.1];exact hcl
 have hbase:Holds ⟨F.w0,F.pub0,clo.ntmps,F.e0,F.dom0,[],F.tab0⟩ ⟨cx (fm 0 caps),aE s2.b⟩ {tmps:=vs.toArray++Array.replicate (clo.ntmps-vs.toArray.size) undef,defers:=[]} Ω2:=
  h.retmp' (fun i=>kr _ hv i) (by simp;omega) rfl
 have key:∃cs',(∃c1,cs'=c1::cs/\c1={c₀ with mode:=u'})/\∀Q':Exit->Act->List Frame->World->Prop,Q' .normal (({tmps:=vs.toArray++Array.replicate (clo.ntmps-vs.toArray.size) undef,defers:=[]}:Act).put (some R.t6) v|>.put (some R.t3) v) cs' Ω2.w->
   wpOpsS P #[⟨some R.t6,.call ⟨.builtin .recover,#[],ts3⟩,ty3,ps3,af3,none⟩,⟨some R.t3,.assign (.tmp R.t6),ty4,ps4,af4,none⟩] Q' [0,1] {tmps:=vs.toArray++Array.replicate (clo.ntmps-vs.toArray.size) undef,defers:=[]} (c₀::cs) Ω2.w:=by
  have two:∀(cs':List Frame)(Q':Exit->Act->List Frame->World->Prop),Q' .normal (({tmps:=vs.toArray++Array.replicate (clo.ntmps-vs.toArray.size) undef,defers:=[]}:Act).put (some R.t6) v|>.put (some R.t3) v) cs' Ω2.w->
    wpOpsS P #[⟨some R.t6,.call ⟨.builtin .recover,#[],ts3⟩,ty3,ps3,af3,none⟩,⟨some R.t3,.assign (.tmp R.t6),ty4,ps4,af4,none⟩] Q' [1] (({tmps:=vs.toArray++Array.replicate (clo.ntmps-vs.toArray.size) undef,defers:=[]}:Act).put (some R.t6) v) cs' Ω2.w:=by
   intro cs' Q' hq;have he:(({tmps:=vs.toArray++Array.replicate (clo.ntmps-vs.toArray.size) undef,defers:=[]}:Act).put (some R.t6) v).eval (.tmp R.t6)=v:=by show(Act.put _ (some R.t6) v).tmps.getD R.t6 undef=v;rw[Dp hbase.size hd6,N6 rfl]
   unfold wpOpsS;simp only[Oi,PG,OU,Region.wanted,NS];have hr:(execOp (({tmps:=vs.toArray++Array.replicate (clo.ntmps-vs.toArray.size) undef,defers:=[]}:Act).put (some R.t6) v).eval ⟨some R.t3,.assign (.tmp R.t6),ty4,ps4,af4,none⟩).run P Ω2.w=.ok (.value v) Ω2.w:=by show(pure (Next.value (Act.eval _ (.tmp R.t6))):Sem Next).run P Ω2.w=_;rw[he];rfl
   rw[hr];simp only[Oper.upon];exact hq
  cases hrc with|ret=>refine⟨_,⟨c₀,rfl,by cases c₀;simp only at hu;subst hu;rfl⟩,fun Q' hq=>?_⟩;unfold wpOpsS;simp only[Oi,OU,Region.wanted,NS];rw[qR];simp only[recoverD,hu];exact two _ Q' hq|pan _ _ hv'=>refine⟨_,⟨_,rfl,rfl⟩,fun Q' hq=>?_⟩;unfold wpOpsS;simp only[Oi,OU,Region.wanted,NS];rw[qR];simp only[recoverD,hu];exact two _ Q' hq
 obtain⟨cs',⟨c1,rfl,hc1⟩,key⟩:=key;refine key _ ?_;refine wpS_of_wp ?_;unfold zq at hc;rw[jf,fA]at hc
 have hav:V Ω2 av v:=by
  cases hrc<;>first|exact .nilif|assumption
 have h1:=(hbase.pure (dst:=some R.t6) (val:=.undef) (v:=v) (.undef v) (fun d e=>by cases e;exact hd6)).pure (dst:=some R.t3) (val:=av) (v:=v) hav (fun d e=>by cases e;exact hd3)
 have h2:Holds ⟨F.w0,F.pub0,clo.ntmps,F.e0,F.dom0,[],F.tab0⟩ (St.abs ⟨rH (fm 0 caps) R.t3 av,s2.b⟩) _ Ω2:=h1.weak (s':=St.abs ⟨rH (fm 0 caps) R.t3 av,s2.b⟩) (fun i=>by
  simp only[St.abs,kj,dY];by_cases e3:R.t3=i
  ·right;simp[e3]
  ·by_cases e6:R.t6=i
   ·left;subst e6;rw[N3 e3,kq,N6 (Nt _),PL];simp[Nb,Nd hc6]
   ·right;simp[e3,e6]) rfl
 refine Q6 (mS hm hT hS _ annC R.crest _ _ _ Ω2 hc hdc h2) ?_;intro e a' w' hq;obtain⟨z,s3,Ω3,q1,q2,q3,q4⟩:=hq;have fin3:fin s3->bodyPostS P clo c₀ cs (fun en u2 w'=>u2=u'/\en=.returned (.tuple #[])/\∃s3 Ω3 a3 T,Ω3.w=w'/\fin s3/\Holds ⟨F.w0,F.pub0,clo.ntmps,F.e0,F.dom0,[],F.tab0⟩ ⟨T,aE s3.b⟩ a3 Ω3) .ret a' (c1::cs) w':=by intro hf;refine⟨q3.defers,u',by rw[hc1],.tuple #[],by simp[results,hres],rfl,rfl,s3,Ω3,a',_,q2,hf,q3⟩
 cases z with
 |normal=>cases q1;exact fin3 q4
 |ret=>cases q1;exact fin3 q4
 |exit id=>exact q4.elim
 |pan v=>exact q4.elim
theorem EO{w:World}{pub:Nat->Nat->Prop}{e:Nat->Option CObj}{n:Nat}{hl:∀id c,e id=some c->cU id=true}{ds:List Deferred}{ht:ja w pub e}{T:Nat->AV}{t:List (Nat×AV)}{b b':List (Nat×SObj)}{a:Act}{Ω:Om}{l:List AV}{us:List Value}{val:AV}
 (hh:Holds ⟨w,pub,n,e,hl,ds,ht⟩ ⟨T,aE b⟩ a Ω)(k2:VL Ω l us)(hend:uU (some l) ⟨t,b⟩ val b') :
  ∃pub' e',V ⟨e',Ω.w,pub'⟩ val (if h:us.toArray.size=1 then us.toArray[0]else .tuple us.toArray)/\After w pub e (aE b') Ω.w pub' e':=by
 unfold uU at hend;split at hend
 ·rename_i x hres;cases hres;obtain⟨u,rfl⟩:=oM (by rw[<-k2.1];rfl);have h1:=hh.retmp' (T:=cx (fm 0 [x])) (a':={tmps:=[u].toArray++Array.replicate 0 undef,defers:=[]}) (n:=1) (ds:=[]) (fun i=>kr 0 k2 i) (by simp) rfl;obtain⟨Ω2,e2,hh2⟩:=fc (s:=⟨[(0,x)],b⟩) h1 (iF hend);refine⟨Ω2.pub,Ω2.e,?_,?_⟩
  ·have:=hh2.tmps 0;rw[<-e2];exact this
  ·rw[<-e2];exact ku hh2
 ·rename_i l' hne hres;cases hres;split at hend
  ·rename_i rs;split at hend
   ·rename_i hln;have hl2:=cD _ _ hln;have h1:=hh.retmp' (T:=cx (fm 0 l)) (a':={tmps:=us.toArray++Array.replicate 0 undef,defers:=[]}) (n:=us.length) (ds:=[]) (fun i=>kr 0 k2 i) (by simp) rfl;obtain⟨Ω2,e2,hh2⟩:=fc (s:=⟨fm 0 l,b⟩) h1 (iF hend);have hsz:¬us.toArray.size=1:=by intro h1;obtain⟨x,hx⟩:=oM (l:=l) (by rw[k2.1];simpa using h1);exact hne x hx
    rw[dif_neg hsz];refine⟨Ω2.pub,Ω2.e,?_,?_⟩
    ·refine .tup rs us (by rw[<-k2.1,<-hl2]) (fun j c v hc hv=>?_);have:=hh2.tmps j;simp only[St.abs,kq,Nt,NS,PL,Nb,hc,Ol]at this;have e3:(us.toArray++Array.replicate 0 undef).getD j undef=v:=by simp[Nz,hv]
     rw[e3]at this;rw[<-e2];exact this
    ·rw[<-e2];exact ku hh2
   ·exact hend.elim
  ·exact hend.elim
 ·rename_i h;cases h
theorem CLe.to_box{c:CObj}{b o l:Nat}(h:CLe c (.box b o l)):c=.box b o l:=by cases c<;>simp[CLe]at h;obtain⟨rfl,rfl,rfl⟩:=h;rfl
theorem V.ptrIn{F:Fr}{Ω2 Ω3:Om}{ks:List Nat}(h2:∀id c,F.e0 id=some c->∃c',Ω2.e id=some c'/\CLe c c')(h3:∀id c,F.e0 id=some c->∃c',Ω3.e id=some c'/\CLe c c')
 (hk:∀k∈ks,∃c,F.e0 k=some c){a:AV}{v:Value}(h:V Ω2 a v):V Ω3 (if AL.ptrIn ks a=true then a else .undef) v:=by
 split
 ·rename_i hp
  cases h with
  |ptr i o b q len he=>simp only[AL.ptrIn,Ou,N8]at hp;obtain⟨c,hc⟩:=hk i hp;obtain⟨c2,e2,l2⟩:=h2 i c hc;rw[he]at e2;cases e2;have:=l2.to_box;subst this;obtain⟨c3,e3,l3⟩:=h3 i _ hc;have:=l3.box;subst this;exact .ptr i o b q len e3
  |_=>simp[AL.ptrIn]at hp
 ·exact .undef v
theorem EP(hT:cq P C.tbl){w:World}{pub:Nat->Nat->Prop}{e:Nat->Option CObj}{n n1:Nat}{hl:∀id c,e id=some c->cU id=true}{ht:ja w pub e}{s1:St}{a1:Act}{Ω1:Om}{L:List dS}{ht1:ja Ω1.w Ω1.pub (dG L Ω1.e)}(h3:Holds ⟨w,pub,n,e,hl,[],ht⟩ s1.abs a1 Ω1)
 (hdist:cR (L.map (·.1))=true){S1:List (Nat×SObj)}(hS1:ow (aE s1.b) L L 900=some S1){hl1:∀id c,dG L Ω1.e id=some c->cU id=true}(hk1:∀k∈au S1,∃c,dG L Ω1.e k=some c)
 {ds:List Deferred}{s2:St}{a2:Act}{Ω2:Om}(q3:Holds ⟨Ω1.w,Ω1.pub,n,dG L Ω1.e,hl1,ds,ht1⟩ s2.abs a2 Ω2){s3:St}{a3:Act}{Ω3:Om}{T:Nat->AV}(h5:Holds ⟨Ω1.w,Ω1.pub,n1,dG L Ω1.e,hl1,[],ht1⟩ ⟨T,aE s3.b⟩ a3 Ω3)
 {fn:Func}{S:List (Nat×SObj)}{A:Ans}(hpan:A.pan=none)(hf:I2 C fn.results.toList L s1 S1 S A s2.t s3) :
  ∃v,(results fn a2.tmps).run P Ω3.w=.ok v Ω3.w/\∃pub' e',(∀b pv u,A.pan=some (b,pv,u)->b=false)/\V ⟨e',Ω3.w,pub'⟩ A.val v/\After w pub e (aE (putB S A.upd)) Ω3.w pub' e':=by
 unfold I2 at hf;split at hf
 ·rename_i hck;simp only[N4,Ng]at hck;obtain⟨hd3,hin⟩:=hck;split at hf
  ·rename_i l hres;split at hf
   ·rename_i u' l' hu' hl';rw[fA]at hf
    have hR:Holds ⟨Ω1.w,Ω1.pub,n,dG L Ω1.e,hl1,ds,ht1⟩ (St.abs ⟨Kg (au S1) s2.t,s3.b⟩) a2 Ω3:=by
     have:=h5.retmp' (T:=cx (Kg (au S1) s2.t)) (a':=a2) (n:=n) (ds:=ds) (fun i=>by
      rw[show cx (Kg (au S1) s2.t) i=if ptrIn (au S1) (cx s2.t i)=true then cx s2.t i else .undef from oK (fun x=>if ptrIn (au S1) x=true then x else .undef) (by simp[ptrIn]) s2.t i];exact V.ptrIn (F:=⟨Ω1.w,Ω1.pub,n,dG L Ω1.e,hl1,ds,ht1⟩) q3.keep h5.keep hk1 (q3.tmps i)) q3.size q3.defers
     exact this
    obtain⟨us,k1,k2⟩:=il hT hR _ _ hres;have hmap:(results fn a2.tmps).run P Ω3.w=.ok (if h:us.toArray.size=1 then us.toArray[0]else .tuple us.toArray) Ω3.w:=by rw[su,<-P8 (xs:=fn.results),Qd];simp only[NA,Sem.run_map,k1,Nh,NN]
    have hB:aE (putB S1 s3.b)=aE s3.b:=by
     funext i;rw[vv _ _ _ hd3]
     cases h:aE s3.b i with
     |some o=>rfl
     |none=>
      cases h':aE S1 i with|none=>rfl|some o=>have:=hin i (O5.2 ⟨(i,o),dT _ _ _ h',rfl⟩);simp only[Ou,N8]at this;exact absurd this (mR _ _ h)
    have hA:After Ω1.w Ω1.pub (dG L Ω1.e) (aE (putB S1 s3.b)) Ω3.w Ω3.pub Ω3.e:=by rw[hB];exact ku (h5.retmp' (T:=T) (a':=a3) (n:=n1) (ds:=[]) h5.tmps h5.size h5.defers)
    obtain⟨Ω',w1,w2,w3⟩:=pQ h3 (d:=998) (by omega) hdist hS1 hd3 hu' (val:=.tup l) (val':=.tup l') (by simp only[mapV,hl']) (v:=.tuple us.toArray) (V.of_tup k2) hA;obtain⟨us',e1,k3⟩:=w2.tup_inv;have e2:us=us':=by have:=OH Array.toList (Value.tuple.inj e1);simpa using this
    subst e2;rw[show s1.abs.B=aE s1.b from rfl,<-je]at w3;obtain⟨pub',e',p1,p2⟩:=EO (T:=s1.abs.T) (b:=putB s1.b u') (t:=[]) w3 k3 hf;rw[w1]at p1 p2;exact⟨_,hmap,pub',e',(fun b pv u h=>by rw[hpan]at h;cases h),p1,p2⟩
   ·exact hf.elim
  ·exact hf.elim
 ·exact hf.elim
theorem fwpR_sound(hm:P.follows .mixedOrders=true)(hT:cq P C.tbl)(hS:dM P C.spec){ann annC:An}{f g:Nat}{fn clo:Func}(hf:P.funcs[f]?=some fn)(hg:P.funcs[g]?=some clo)
 (eg:∀args w,(callFunc g args).run P w=.ok (.enter g args) w){args:List AV}{S:List (Nat×SObj)}{A:Ans}(h:fwpR C ann annC fn g clo args S A):ax P f args S A:=by
 intro w pub e vs hp ht hv hs hdom hinj;unfold fwpR at h;split at h
 ·rename_i c cc hb hcb hpan;split at h
  ·exact h.elim
  ·rename_i R hR;split at h
   ·exact h.elim
   ·rename_i hck;simp only[N4,Ng,Array.isEmpty_iff,PR]at hck;obtain⟨⟨⟨⟨⟨⟨⟨hk1,hk2⟩,hk5⟩,hk3⟩,hk4⟩,hres⟩,hcl⟩,hc6⟩:=hck;have hlen:=fP _ _ hk3;have hcl:=fP _ _ hcl;have hc6:=fP _ _ hc6;rw[jf,fA]at h
    have hlent:∀id c,e id=some c->cU id=true:=by
     intro id c hc
     cases hg:aE S id with
     |none=>rw[hdom id hg]at hc;cases hc
     |some o=>exact hk4 id (O5.2 ⟨(id,o),dT _ _ _ hg,rfl⟩)
    have hRc:=I3 hR;obtain⟨i1,i2,ty1,ps1,af1,ty2,ps2,af2,ts2,ty3,ps3,af3,ts3,ty4,ps4,af4,rfl,_⟩:=id hRc;refine calls_of_wp_defers hf hb ?_;have hh:=nP (n:=fn.ntmps) hp ht hv hlen hs hdom hinj hlent;have hdr:dF fn.ntmps R.r0=true/\dF fn.ntmps R.rest=true:=by simp only[dF,N4]at hk1;exact⟨hk1.1,hk1.2.2⟩
    refine wp_seq (Q6 (mS (F:=⟨w,pub,fn.ntmps,e,hlent,[],ht⟩) hm hT hS _ ann R.r0 _ _ _ _ h hdr.1 hh) ?_);intro en a1 w1 hq;obtain⟨z,s1,Ω1,q1,rfl,h3,h4⟩:=hq
    cases z with
    |exit id=>exact h4.elim
    |ret=>exact h4.elim
    |pan pv=>exact h4.elim
    |normal=>
     cases q1;simp only at h4;generalize hLL:(au s1.b).map (fun i=>(i,(none:Option (Nat×Nat))))=L at h4;split at h4
     ·rename_i as1 caps S1 hdl has hcaps hS1;simp only[N4,Q7]at hdl;obtain⟨hdist,hL100⟩:=hdl;split at h4
      ·rename_i hcp;rw[fA]at h4;obtain⟨k1,k2,k3⟩:=iT L 900 S1 hS1;refine wp_seq (wp_region ?_);show wpOps P _ _ [0,1] a1 Ω1.w;refine yt (o:=⟨some R.t5,.makeFunc (.func g) #[] R.caps.toArray,ty1,ps1,af1,none⟩) rfl rfl (bx (v:=.func (.func g) #[] (R.caps.toArray.map a1.eval)) (w':=Ω1.w) (by simp[execOp,Instr.makeFunc]) ?_);have he5:(a1.put (some R.t5) (.func (.func g) #[] (R.caps.toArray.map a1.eval))).eval (.tmp R.t5)=.func (.func g) #[] (R.caps.toArray.map a1.eval):=by show(Act.put a1 (some R.t5) _).tmps.getD R.t5 undef=_;rw[Dp h3.size hk5,N6 rfl]
       refine yt (o:=⟨none,.defer ⟨.value (.tmp R.t5),#[],ts2⟩,ty2,ps2,af2,none⟩) rfl rfl ?_;have hrun:(execOp (a1.put (some R.t5) (.func (.func g) #[] (R.caps.toArray.map a1.eval))).eval ⟨none,.defer ⟨.value (.tmp R.t5),#[],ts2⟩,ty2,ps2,af2,none⟩).run P Ω1.w=.ok (.defer {target:=.fn (.func g) (R.caps.toArray.map a1.eval),args:=#[]}) Ω1.w:=by have he5':=he5;simp only[List.map_toArray]at he5';simp[execOp,resolve,he5',Deferred.ofValue]
       unfold Oper.wp;rw[hrun];have hcv:R.caps.toArray.map a1.eval=(R.caps.map a1.eval).toArray:=by simp
       have hdef0:a1.defers=[]:=h3.defers
       have hvl1:VL Ω1 ((List.range fn.ntmps).map (cx s1.t)) a1.tmps.toList:=by
        have hz:a1.tmps.size=fn.ntmps:=h3.size;refine⟨by simp;omega,fun j c v hc hv=>?_⟩;simp only[NM,NB]at hc;obtain⟨q,hq,rfl⟩:=hc;have hqj:q=j:=by have:=List.getElem?_eq_some_iff.1 hq;obtain⟨_,e⟩:=this;simpa using e.symm
        subst hqj;have:=h3.tmps q;rw[NH]at hv;simp only[Nz,hv,Ol]at this;exact this
       have hvc1:VL Ω1 (R.caps.map (opd (cx s1.t))) (R.caps.map a1.eval):=by refine⟨by simp,fun j c v hc hv=>?_⟩;simp only[NM,NB]at hc hv;obtain⟨x,hx,rfl⟩:=hc;obtain⟨y,hy,rfl⟩:=hv;rw[hx]at hy;cases hy;exact ct h3 x
       have hvl:=hvl1.mapVs (lU L Ω1.e) has;have hvc:=hvc1.mapVs (lU L Ω1.e) hcaps;have hlent1:∀k i r,bF L k=some (i,r)->∃o o',s1.abs.B i=some o/\iy L r o=some o'/\aE S1 k=some o':=by intro k i r hk;obtain⟨h1,h2⟩:=fS hk;obtain⟨o,o',q1,q2,q3⟩:=k2 _ i r h2;rw[show 900+(k-900)=k by omega]at q3;exact⟨o,o',q1,q2,q3⟩
       have hLs:∀q i r,nth L q=some (i,r)->∃o o',s1.abs.B i=some o/\iy L r o=some o':=fun q i r hq=>let ⟨o,o',q1,q2,_⟩:=k2 q i r hq;⟨o,o',q1,q2⟩
       have hslots:∀id o,aE S1 id=some o->bH ⟨dG L Ω1.e,Ω1.w,Ω1.pub⟩ (fun _ _=>True) id o:=fun id o' ho'=>by obtain⟨q,i,r,o2,e1,e2,e3,e4⟩:=k1 id o' ho';subst e1;exact yj (dr (mP L i 900 q r hdist e2)) (h3.slots i o2 e3) e4
       have hdom1:∀id,aE S1 id=none->dG L Ω1.e id=none:=fun id hid=>by
        unfold dG
        cases hl:bF L id with
        |none=>rfl
        |some x=>obtain⟨o1,o2,_,_,q3⟩:=hlent1 id x.1 x.2 hl;rw[hid]at q3;cases q3
       have hinj1:Inj (dG L Ω1.e):=fun i j c c' b oo hi hj ho1 ho2=>by obtain⟨i1,r1,c1,p1,p2,p3⟩:=ki h3.slots hLs hi;obtain⟨i2,r2,c2,p4,p5,p6⟩:=ki h3.slots hLs hj;have:=h3.inj i1 i2 c1 c2 b oo p2 p5 (p3 b oo ho1) (p6 b oo ho2);subst this;have a1:=dN hdist p1;have a2:=dN hdist p4;rw[a1]at a2;simp at a2;exact a2.1
       have hpin:∀id c,dG L Ω1.e id=some c->cU id=true:=by
        intro id c hc
        cases hg:aE S1 id with
        |none=>rw[hdom1 id hg]at hc;cases hc
        |some o=>have:=k3 (id,o) (dT _ _ _ hg);simp only[cU,N4,Q7,PR];simp only at this;omega
       have hkS:∀k∈au S1,∃c,dG L Ω1.e k=some c:=by
        intro k hk;obtain⟨x,hx,rfl⟩:=O5.1 hk
        cases hg:aE S1 x.1 with
        |none=>exact absurd (O5.2 ⟨x,hx,rfl⟩) (mR _ _ hg)
        |some o=>
         have hso:=hslots x.1 o hg
         cases o with
         |box c=>obtain⟨_,_,e1,_⟩:=hso;exact⟨_,e1⟩
         |tail τ n=>obtain⟨_,_,e1,_⟩:=hso;exact⟨_,e1⟩
         |bld t u l=>obtain⟨_,_,e1,_⟩:=hso;exact⟨_,e1⟩
         |tailp τ n x=>obtain⟨_,_,e1,_⟩:=hso;exact⟨_,e1⟩
       have hlen1:as1.length<=fn.ntmps:=by have:=hvl.1;rw[this,Pb,h3.size];exact Nf _
       have hi1:=nP (n:=fn.ntmps) h3.pubok (h3.tabsC hLs) hvl hlen1 hslots hdom1 hinj1 hpin
       have hi2:=hi1.retmp' (T:=cx (fm 0 as1)) (a':={tmps:=a1.tmps,defers:=[{target:=.fn (.func g) (R.caps.toArray.map a1.eval),args:=#[]}]}) (n:=fn.ntmps) (ds:=[{target:=.fn (.func g) (R.caps.toArray.map a1.eval),args:=#[]}])
        (fun i=>by
         have:=hi1.tmps i;have e0:(a1.tmps.toList.toArray++Array.replicate (fn.ntmps-a1.tmps.toList.toArray.size) undef)=a1.tmps:=by have hz:a1.tmps.size=fn.ntmps:=h3.size;apply Ob;simp[hz]
         rw[e0]at this;exact this) h3.size rfl
       have hi3:=hi2.pure (dst:=some R.t5) (val:=.undef) (v:=.func (.func g) #[] (R.caps.toArray.map a1.eval)) (.undef _) (fun d e=>by cases e;exact hk5)
       have hi4:=hi3.weak (s':=St.abs ⟨rH (fm 0 as1) R.t5 .undef,S1⟩) (fun i=>by
        simp only[St.abs,kj,dY];by_cases e5:R.t5=i
        ·left;simp[e5]
        ·right;simp[e5]) rfl
       have hact:(({tmps:=a1.tmps,defers:=[{target:=.fn (.func g) (R.caps.toArray.map a1.eval),args:=#[]}]}:Act).put (some R.t5) (.func (.func g) #[] (R.caps.toArray.map a1.eval)))=
         ({(a1.put (some R.t5) (.func (.func g) #[] (R.caps.toArray.map a1.eval)))with defers:={target:=.fn (.func g) (R.caps.toArray.map a1.eval),args:=#[]}::(a1.put (some R.t5) (.func (.func g) #[] (R.caps.toArray.map a1.eval))).defers}:Act).put none undef:=by
        simp[Act.put,hdef0]
       show Code.wp P R.rest _ (({(a1.put (some R.t5) (.func (.func g) #[] (R.caps.toArray.map a1.eval)))with defers:={target:=.fn (.func g) (R.caps.toArray.map a1.eval),args:=#[]}::(a1.put (some R.t5) (.func (.func g) #[] (R.caps.toArray.map a1.eval))).defers}:Act).put none undef) Ω1.w;rw[<-hact];refine Q6 (mS hm hT hS _ ann R.rest _ _ _ ⟨dG L Ω1.e,Ω1.w,Ω1.pub⟩ h4 hdr.2 hi4) ?_;intro en a2 w2 hq;obtain⟨z,s2,Ω2,g1,rfl,g3,g4⟩:=hq;have hcv2:VL Ω2 caps (R.caps.map a1.eval):=by refine⟨hvc.1,fun j c v hc hv=>?_⟩;exact V.pinned g3.keep (Ng.1 hcp c (NQ hc)) (hvc.2 j c v hc hv)
       have hcl':caps.length<=clo.ntmps:=by rw[hvc.1,Oc];exact hcl
       have hc6':caps.length<=R.t6:=by rw[hvc.1,Oc];exact hc6
       have close:∀(u u':FrameMode)(av:AV)(v:Value),u≠.run->settle u'=.returning->Rcv u av Ω2 v u'->zq C annC clo R caps av s2 (I2 C fn.results.toList L s1 S1 S A s2.t)->
         Leaves P fn a2.tmps (fun en w'=>∃pub' e',match en with
          |.returned v=>(∀b pv u,A.pan=some (b,pv,u)->b=false)/\V ⟨e',w',pub'⟩ A.val v/\After w pub e (aE (putB S A.upd)) w' pub' e'
          |.panicked ch=>∃pv u v,A.pan=some (true,pv,u)/\ch=[{v,recovered:=false}]/\V ⟨e',w',pub'⟩ pv v/\After w pub e (aE (putB S u)) w' pub' e'
          |.outgrown=>False) [{target:=.fn (.func g) (R.caps.toArray.map a1.eval),args:=#[]}] u Ω2.w:=by
        intro u u' av v hu hse hrc hcr;refine leaves_cons (f:=g) (args:=(R.caps.map a1.eval).toArray) hu (by simp[invoke,eg]) ?_;refine(BW hm hT hS hRc hg hcb hk2 hres hcl' hc6' g3 hcv2 hrc hcr).mono ?_;rintro en u2 w3 ⟨rfl,rfl,s3,Ω3,a3,T3,rfl,hfin,h5⟩;simp only[hse,Leaves];obtain⟨v,r1,pub',e',r2,r3,r4⟩:=EP hT h3 hdist hS1 hkS g3 h5 hpan hfin;exact⟨v,r1,pub',e',r2,r3,r4⟩
       have hds:a2.defers=[{target:=.fn (.func g) (R.caps.toArray.map a1.eval),args:=#[]}]:=g3.defers
       cases z with
       |normal=>cases g1;show Leaves P fn a2.tmps _ a2.defers .returning Ω2.w;rw[hds];exact close .returning .returning .nilif .nilIface (by simp) rfl (.ret Ω2) g4
       |ret=>cases g1;show Leaves P fn a2.tmps _ a2.defers .returning Ω2.w;rw[hds];exact close .returning .returning .nilif .nilIface (by simp) rfl (.ret Ω2) g4
       |exit id=>exact g4.elim
       |pan pv=>obtain⟨v,rfl,hv⟩:=g1;show Leaves P fn a2.tmps _ a2.defers (.panicking [{v,recovered:=false}]) Ω2.w;rw[hds];exact close _ (.panicking [{v,recovered:=true}]) pv v (by simp) (by simp[settle]) (.pan Ω2 pv v hv) g4
      ·exact h4.elim
     ·exact h4.elim
 ·exact h.elim
end
end Go.AL
end
section
open Go Go.AL Go.Pd
namespace Go.AL.Seat
theorem I4(c:Int)  :
  if decide ((97:Int)<=c)=true then True/\decide (c<=(122:Int))=bL c/\True else True/\false=bL c/\True:=by
 unfold bL;simp only[mb];split<;>simp[*]
theorem I5(c:Int)  :
  if decide ((65:Int)<=c)=true then True/\decide (c<=(90:Int))=bM c/\True else True/\false=bM c/\True:=by
 unfold bM;simp only[mb];split<;>simp[*]
theorem I6(c:Int)  :
  if decide ((48:Int)<=c)=true then True/\decide (c<=(57:Int))=cv c/\True else True/\false=cv c/\True:=by
 unfold cv;simp only[mb];split<;>simp[*]
theorem Kh(c:Int)  :
  let A:=True/\true=bB c/\True;if bL c=true then A else if bM c=true then A else if cv c=true then A else True/\decide (c=(95:Int))=bB c/\True:=by
 conv=>zeta
 unfold bB;cases bL c<;>cases bM c<;>cases cv c<;>simp
theorem ER(s:Str)(hs:Wf .str s) :
  let A:=True/\false=de bL s/\True;let B:=(↑(List.length s):Int);let C:=(0:Int);let D:=s=s/\false=false/\B=B/\True;if decide (s=[])=true then A else if decide ((24:Int)<B)=true then A else(C<=C/\C<B)/\if(!bL (↑(UInt8.toNat (List.getD s (Int.toNat C) (0:UInt8))):Int))=true then A else(∃(x:Nat),(x<=List.length s/\de bL s=List.all (List.drop x s) fun(c:UInt8)=>bB (bI c))/\C=(↑x:Int)/\D)/\∀(x:Nat),let E:=(↑x:Int);(x<=List.length s/\de bL s=List.all (List.drop x s) fun(c:UInt8)=>bB (bI c))->if decide (E<B)=true then(C<=E/\E<B)/\if(!bB (↑(UInt8.toNat (List.getD s (Int.toNat E) (0:UInt8))):Int))=true then A else inR IntKind.i64 (E+(1:Int))/\∃(y:Nat),(y<=List.length s/\de bL s=List.all (List.drop y s) fun(c:UInt8)=>bB (bI c))/\List.length s-y<List.length s-x/\E+(1:Int)=(↑y:Int)/\D else True/\true=de bL s/\True:=by
 conv=>zeta
 have hlen:=hs.str;have eb:∀b:UInt8,(b.toNat:Int)=bI b:=fun _=>rfl;simp only[mb,Nu,Int.toNat_zero,NZ,NX,eb,de];generalize bL (bI (s.getD 0 0))=f0;by_cases h0:s=[]
 ·simp[h0]
 have hpos:0<s.length:=O2.2 h0;by_cases h1:s.length<=24
 ·rw[N3 h0,N3 (by omega)];refine⟨by omega,?_⟩
  cases f0 with
  |false=>simp
  |true=>
   simp only[Oy,NC,ND,h0,h1,OA,OY,PM,O3];refine⟨⟨0,⟨by omega,rfl⟩,rfl⟩,?_⟩;rintro k ⟨h3,h4⟩;split
   ·have hk:k<s.length:=by omega
    rw[b8 s k 0 hk,NI]at h4;generalize bB (bI (s.getD k 0))=r at h4⊢;refine⟨by omega,?_⟩
    cases r with|false=>simpa using h4.symm|true=>simp only[Oy,NC,ND];exact⟨cO hk hlen,k+1,⟨by omega,by simpa using h4⟩,by omega,by omega⟩
   ·have hk:k=s.length:=by omega
    subst hk;simpa using h4.symm
 ·rw[N3 h0,N6 (by omega)];simp[h1]
theorem ES(s:Str)(hs:Wf .str s) :
  let A:=True/\false=de bM s/\True;let B:=(↑(List.length s):Int);let C:=(0:Int);let D:=s=s/\false=false/\B=B/\True;if decide (s=[])=true then A else if decide ((24:Int)<B)=true then A else(C<=C/\C<B)/\if(!bM (↑(UInt8.toNat (List.getD s (Int.toNat C) (0:UInt8))):Int))=true then A else(∃(x:Nat),(x<=List.length s/\de bM s=List.all (List.drop x s) fun(c:UInt8)=>bB (bI c))/\C=(↑x:Int)/\D)/\∀(x:Nat),let E:=(↑x:Int);(x<=List.length s/\de bM s=List.all (List.drop x s) fun(c:UInt8)=>bB (bI c))->if decide (E<B)=true then(C<=E/\E<B)/\if(!bB (↑(UInt8.toNat (List.getD s (Int.toNat E) (0:UInt8))):Int))=true then A else inR IntKind.i64 (E+(1:Int))/\∃(y:Nat),(y<=List.length s/\de bM s=List.all (List.drop y s) fun(c:UInt8)=>bB (bI c))/\List.length s-y<List.length s-x/\E+(1:Int)=(↑y:Int)/\D else True/\true=de bM s/\True:=by
 conv=>zeta
 have hlen:=hs.str;have eb:∀b:UInt8,(b.toNat:Int)=bI b:=fun _=>rfl;simp only[mb,Nu,Int.toNat_zero,NZ,NX,eb,de];generalize bM (bI (s.getD 0 0))=f0;by_cases h0:s=[]
 ·simp[h0]
 have hpos:0<s.length:=O2.2 h0;by_cases h1:s.length<=24
 ·rw[N3 h0,N3 (by omega)];refine⟨by omega,?_⟩
  cases f0 with
  |false=>simp
  |true=>
   simp only[Oy,NC,ND,h0,h1,OA,OY,PM,O3];refine⟨⟨0,⟨by omega,rfl⟩,rfl⟩,?_⟩;rintro k ⟨h3,h4⟩;split
   ·have hk:k<s.length:=by omega
    rw[b8 s k 0 hk,NI]at h4;generalize bB (bI (s.getD k 0))=r at h4⊢;refine⟨by omega,?_⟩
    cases r with|false=>simpa using h4.symm|true=>simp only[Oy,NC,ND];exact⟨cO hk hlen,k+1,⟨by omega,by simpa using h4⟩,by omega,by omega⟩
   ·have hk:k=s.length:=by omega
    subst hk;simpa using h4.symm
 ·rw[N3 h0,N6 (by omega)];simp[h1]
theorem Ki(s:Str)  :
  let A:=101;let B:=True/\true=lE s/\True;if decide (s=([109,111,100,117,108,A]:Str))=true then B else if decide (s=([105,109,112,111,114,116]:Str))=true then B else if decide (s=([112,105,110]:Str))=true then B else if decide (s=([114,97,110,103,A]:Str))=true then B else if decide (s=([116,121,112,A]:Str))=true then B else if decide (s=([111,112,97,113,117,A]:Str))=true then B else if decide (s=([108,A,116]:Str))=true then B else if decide (s=([105,110]:Str))=true then B else if decide (s=([A,120,112,111,114,116]:Str))=true then B else if decide (s=([102,117,110]:Str))=true then B else if decide (s=([105,102]:Str))=true then B else if decide (s=([116,104,A,110]:Str))=true then B else if decide (s=([A,108,115,A]:Str))=true then B else if decide (s=([99,97,115,A]:Str))=true then B else if decide (s=([111,102]:Str))=true then B else if decide (s=([97,115]:Str))=true then B else if decide (s=([110,A,119]:Str))=true then B else if decide (s=([114,97,119]:Str))=true then B else if decide (s=([116,114,117,A]:Str))=true then B else if decide (s=([102,97,108,115,A]:Str))=true then B else True/\false=lE s/\True:=by
 conv=>zeta
 refine a6 (fun h=>?_) (fun h0=>?_)
 ·rw[Xo h];exact Xr
 refine a6 (fun h=>?_) (fun h1=>?_)
 ·rw[Xo h];exact Xr
 refine a6 (fun h=>?_) (fun h2=>?_)
 ·rw[Xo h];exact Xr
 refine a6 (fun h=>?_) (fun h3=>?_)
 ·rw[Xo h];exact Xr
 refine a6 (fun h=>?_) (fun h4=>?_)
 ·rw[Xo h];exact Xr
 refine a6 (fun h=>?_) (fun h5=>?_)
 ·rw[Xo h];exact Xr
 refine a6 (fun h=>?_) (fun h6=>?_)
 ·rw[Xo h];exact Xr
 refine a6 (fun h=>?_) (fun h7=>?_)
 ·rw[Xo h];exact Xr
 refine a6 (fun h=>?_) (fun h8=>?_)
 ·rw[Xo h];exact Xr
 refine a6 (fun h=>?_) (fun h9=>?_)
 ·rw[Xo h];exact Xr
 refine a6 (fun h=>?_) (fun h10=>?_)
 ·rw[Xo h];exact Xr
 refine a6 (fun h=>?_) (fun h11=>?_)
 ·rw[Xo h];exact Xr
 refine a6 (fun h=>?_) (fun h12=>?_)
 ·rw[Xo h];exact Xr
 refine a6 (fun h=>?_) (fun h13=>?_)
 ·rw[Xo h];exact Xr
 refine a6 (fun h=>?_) (fun h14=>?_)
 ·rw[Xo h];exact Xr
 refine a6 (fun h=>?_) (fun h15=>?_)
 ·rw[Xo h];exact Xr
 refine a6 (fun h=>?_) (fun h16=>?_)
 ·rw[Xo h];exact Xr
 refine a6 (fun h=>?_) (fun h17=>?_)
 ·rw[Xo h];exact Xr
 refine a6 (fun h=>?_) (fun h18=>?_)
 ·rw[Xo h];exact Xr
 refine a6 (fun h=>?_) (fun h19=>?_)
 ·rw[Xo h];exact Xr
 refine⟨trivial,?_,trivial⟩;symm;refine Xf fun hm=>?_;unfold nB at hm;rcases Nw.1 hm with e|hm
 ·exact h0 (Xd e)
 rcases Nw.1 hm with e|hm
 ·exact h1 (Xd e)
 rcases Nw.1 hm with e|hm
 ·exact h2 (Xd e)
 rcases Nw.1 hm with e|hm
 ·exact h3 (Xd e)
 rcases Nw.1 hm with e|hm
 ·exact h4 (Xd e)
 rcases Nw.1 hm with e|hm
 ·exact h5 (Xd e)
 rcases Nw.1 hm with e|hm
 ·exact h6 (Xd e)
 rcases Nw.1 hm with e|hm
 ·exact h7 (Xd e)
 rcases Nw.1 hm with e|hm
 ·exact h8 (Xd e)
 rcases Nw.1 hm with e|hm
 ·exact h9 (Xd e)
 rcases Nw.1 hm with e|hm
 ·exact h10 (Xd e)
 rcases Nw.1 hm with e|hm
 ·exact h11 (Xd e)
 rcases Nw.1 hm with e|hm
 ·exact h12 (Xd e)
 rcases Nw.1 hm with e|hm
 ·exact h13 (Xd e)
 rcases Nw.1 hm with e|hm
 ·exact h14 (Xd e)
 rcases Nw.1 hm with e|hm
 ·exact h15 (Xd e)
 rcases Nw.1 hm with e|hm
 ·exact h16 (Xd e)
 rcases Nw.1 hm with e|hm
 ·exact h17 (Xd e)
 rcases Nw.1 hm with e|hm
 ·exact h18 (Xd e)
 rcases Nw.1 hm with e|hm
 ·exact h19 (Xd e)
 exact absurd hm Ph
theorem Kj(s:Str)  :
  if de bL s=true then True/\(!lE s)=aG s/\True else True/\false=aG s/\True:=by
 unfold aG;cases de bL s<;>simp
theorem I7(s:Str)  :
  True/\de bM s=cW s/\True:=by
 simp[cW]
theorem ET(a b:List Str)(ha:Wf (.lst .str) a)(hb:Wf (.lst .str) b) :
  let A:=(↑(List.length a):Int);let B:=(↑(List.length b):Int);let C:=True/\false=decide (a=b)/\True;let D:=List.length a=List.length b;let E:=(0:Int);let F:=a=a/\b=b/\false=false/\A=A/\True;if(!decide (A=B))=true then C else(∃(x:Nat),(x<=List.length a/\D/\decide (a=b)=decide (List.drop x a=List.drop x b))/\E=(↑x:Int)/\F)/\∀(x:Nat),let G:=(↑x:Int);x<=List.length a/\D/\decide (a=b)=decide (List.drop x a=List.drop x b)->if decide (G<A)=true then(E<=G/\G<A)/\(E<=G/\G<B)/\if(!decide (List.getD a (Int.toNat G) (dfl Ty.str)=List.getD b (Int.toNat G) (dfl Ty.str)))=true then C else inR IntKind.i64 (G+(1:Int))/\∃(y:Nat),(y<=List.length a/\D/\decide (a=b)=decide (List.drop y a=List.drop y b))/\List.length a-y<List.length a-x/\G+(1:Int)=(↑y:Int)/\F else True/\true=decide (a=b)/\True:=by
 conv=>zeta
 have la:=ha.len;simp only[Nu,OG,NZ,NX];apply a6<;>intro h
 ·simp at h;symm;rw[Ns];intro e;subst e;exact h rfl
 have hl:a.length=b.length:=by simp at h;omega
 refine⟨⟨0,⟨by omega,hl,by simp⟩,by simp⟩,?_⟩;rintro k ⟨h1,_,h3⟩;apply a6<;>intro h
 ·replace h:=Xo h;have hk:k<a.length:=by omega
  have hk':k<b.length:=by omega
  rw[b8 a k (dfl .str) hk,b8 b k (dfl .str) hk']at h3;refine⟨by omega,by omega,?_⟩;by_cases e:a.getD k (dfl .str)=b.getD k (dfl .str)
  ·rw[N3 (by simpa using e)];rw[e]at h3;exact⟨cO hk la,k+1,⟨by omega,hl,by simpa using h3⟩,by omega,by omega⟩
  ·rw[N6 (by simpa using e),h3];symm;rw[Ns];intro hh;exact e (List.cons.inj hh).1
 ·replace h:¬((k:Int)<(a.length:Int)):=fun e=>h (Xd e);have e:k=a.length:=by omega
  subst e;rw[h3];simp[hl]
theorem EU(a:List Str)(v:Str)(ha:Wf (.lst .str) a) :
  let A:=(0:Int);let B:=(↑(List.length a):Int);let C:=a=a/\v=v/\B=B/\True;(∃(x:Nat),(x<=List.length a/\gh a v A=gh (List.drop x a) v (↑x:Int))/\A=(↑x:Int)/\C)/\∀(x:Nat),let D:=(↑x:Int);x<=List.length a/\gh a v A=gh (List.drop x a) v D->if decide (D<B)=true then(A<=D/\D<B)/\if decide (v=List.getD a (Int.toNat D) (dfl Ty.str))=true then True/\D=gh a v A/\True else inR IntKind.i64 (D+(1:Int))/\∃(y:Nat),(y<=List.length a/\gh a v A=gh (List.drop y a) v (↑y:Int))/\List.length a-y<List.length a-x/\D+(1:Int)=(↑y:Int)/\C else True/\(-1:Int)=gh a v A/\True:=by
 conv=>zeta
 have la:=ha.len;simp only[Nu,OG,NZ,NX];refine⟨⟨0,⟨by omega,by simp⟩,by simp⟩,?_⟩;rintro k ⟨h1,h3⟩;apply a6<;>intro h
 ·replace h:=Xo h;have hk:k<a.length:=by omega
  rw[b8 a k (dfl .str) hk]at h3;refine⟨by omega,?_⟩;by_cases e:a.getD k (dfl .str)=v
  ·rw[N6 (by simpa using e.symm),h3,gh,N6 e]
  ·rw[N3 (by simpa using fun h=>e h.symm)];exact⟨cO hk la,k+1,⟨by omega,by rw[h3,gh,N3 e];rfl⟩,by omega,by omega⟩
 ·replace h:¬((k:Int)<(a.length:Int)):=fun e=>h (Xd e);have e:k=a.length:=by omega
  subst e;rw[h3];simp[gh]
theorem xg(a:List Str)(v:Str)  :
  True/\decide ((0:Int)<=gh a v (0:Int))=decide (v∈a)/\True:=by
 simp only[OG,NZ,NX];rw[Bool.eq_iff_iff];simp[ve a v 0 (by omega)]
theorem I8(s:Str)  :
  let A:=True/\true=l6 s/\True;if decide (s=([73,110,116]:Str))=true then A else if decide (s=([66,111,111,108]:Str))=true then A else if decide (s=([84,101,120,116]:Str))=true then A else True/\decide (s=([65,110,121]:Str))=l6 s/\True:=by
 conv=>zeta
 simp only[OG,NZ,NX,l6];by_cases a:s=[73,110,116]<;>by_cases b:s=[66,111,111,108]<;>by_cases c:s=[84,101,120,116]<;>by_cases d:s=[65,110,121]<;>simp[a,b,c,d]
theorem EV(a:List Str)  :
  True/\a=a/\True:=by
 trivial
theorem I9(s:Shape)(hs:Wf (.st .shape) s)(ho:s.parts.length *16<=140737488355328) :
  let A:=(↑(List.length s.names):Int);let B:=True/\false=dm s/\True;let C:=List.length s.names=List.length s.parts;let D:=s=s/\false=false/\s.names=s.names/\A=A/\s=s/\True;let E:=(List.mergeSort s.names fun(x y:Str)=>decide (x<=y));if(!decide (A=(↑(List.length s.parts):Int)))=true then B else(∃(x:Nat),(x<=List.length s.names/\C/\dm s=(List.all (List.drop x s.names) aG&&decide (List.Nodup s.names)))/\(0:Int)=(↑x:Int)/\D)/\∀(x:Nat),let F:=(↑x:Int);x<=List.length s.names/\C/\dm s=(List.all (List.drop x s.names) aG&&decide (List.Nodup s.names))->if decide (F<A)=true then((0:Int)<=F/\F<A)/\if(!aG (List.getD s.names (Int.toNat F) (dfl Ty.str)))=true then B else inR IntKind.i64 (F+(1:Int))/\∃(y:Nat),(y<=List.length s.names/\C/\dm s=(List.all (List.drop y s.names) aG&&decide (List.Nodup s.names)))/\List.length s.names-y<List.length s.names-x/\F+(1:Int)=(↑y:Int)/\D else List.length s.names*(16:Nat)<=(140737488355328:Nat)/\List.length E=List.length E/\True/\decide ((↑(List.length (Lib.compact E)):Int)=A)=dm s/\True:=by
 conv=>zeta
 have ln:=hs.names.len;simp only[Nu,OG,NZ,NX];apply a6<;>intro h
 ·have:s.names.length≠s.parts.length:=by simp at h;omega
  simp[dm,this]
 have hl:s.names.length=s.parts.length:=by simp at h;omega
 refine⟨⟨0,⟨by omega,hl,by simp[dm,hl]⟩,rfl⟩,?_⟩;rintro k ⟨h1,_,h3⟩;apply a6<;>intro h
 ·replace h:=Xo h;have hk:k<s.names.length:=by omega
  rw[b8 s.names k (dfl .str) hk]at h3;refine⟨by omega,?_⟩;simp only[NI]at h3;cases e:aG (s.names.getD k (dfl .str))
  ·rw[e]at h3;rw[h3];simp
  ·simp only[e,O3]at h3;exact⟨cO hk ln,k+1,⟨by omega,hl,h3⟩,by omega,by omega⟩
 ·replace h:¬((k:Int)<(s.names.length:Int)):=fun e=>h (Xd e);have e:k=s.names.length:=by omega
  subst e;have hc:=mf s.names;unfold jg at hc;refine⟨by omega,?_⟩;rw[h3,NJ];simp only[Ql,O3];rw[On,<-hc];omega
theorem Kk(s:Shape)(hs:Wf (.st .shape) s)(ho:s.parts.length *16<=140737488355328) :
  let A:=(0:Int);let B:=True;let C:=(↑(List.length s.parts):Int);let D:=B/\false=bc s/\B;let E:=if decide ((↑(List.length s.names):Int)=A)=true then B/\decide (C=A)=bc s/\B else D;let F:=if decide (s.name=[])=true then E else D;let G:=if decide (s.name=[])=true then List.length s.parts*(16:Nat)<=(140737488355328:Nat)/\B/\dm s=bc s/\B else D;let H:=if aG s.pkg=true then E else D;let I:=if decide (s.kind=(9:Int))=true then if cW s.name=true then if decide (s.pkg=[])=true then if(!l6 s.name)=true then E else H else H else D else if decide (s.kind=(10:Int))=true then if cW s.name=true then H else D else D;if decide (s.pkg=[])=true then if decide (s.kind=(1:Int))=true then F else if decide (s.kind=(2:Int))=true then F else if decide (s.kind=(3:Int))=true then F else if decide (s.kind=(4:Int))=true then F else if decide (s.kind=(5:Int))=true then if decide (s.name=[])=true then if decide ((↑(List.length s.names):Int)=A)=true then B/\decide (C=(1:Int))=bc s/\B else D else D else if decide (s.kind=(6:Int))=true then G else if decide (s.kind=(7:Int))=true then G else if decide (s.kind=(8:Int))=true then if decide (s.name=[])=true then if decide ((↑(List.length s.names):Int)=A)=true then B/\decide (A<C)=bc s/\B else D else D else I else if decide (s.kind=(1:Int))=true then D else if decide (s.kind=(2:Int))=true then D else if decide (s.kind=(3:Int))=true then D else if decide (s.kind=(4:Int))=true then D else if decide (s.kind=(5:Int))=true then D else if decide (s.kind=(6:Int))=true then D else if decide (s.kind=(7:Int))=true then D else if decide (s.kind=(8:Int))=true then D else I:=by
 conv=>zeta
 have n0:((s.names.length:Int)=0)↔s.names=[]:=by rw[<-OT];omega
 have p0:((s.parts.length:Int)=0)↔s.parts=[]:=by rw[<-OT];omega
 have p1:((s.parts.length:Int)=1)↔s.parts.length=1:=by omega
 have p2:(0<(s.parts.length:Int))↔¬s.parts=[]:=by rw[<-OT];omega
 simp only[n0,p0,p1,p2,N8,NZ,NX,ho];have hf:bc s=bc s:=rfl;conv at hf=>rhs;unfold bc
 revert hf;generalize bc s=F;generalize dm s=A;generalize cW s.name=B;generalize aG s.pkg=C;generalize l6 s.name=D;generalize s.kind=K;intro hf
 repeat' (apply a6<;>intro _)
 all_goals (subst hf;simp_all)
theorem BX(n:Nat)(s:Shape)(hs:Wf (.st .shape) s)(hn:sz s<=n+1)(hb:n<=1000000) :
  let A:=True/\false=allS bc s/\True;let B:=(↑(List.length s.parts):Int);let C:=s=s/\false=false/\s.parts=s.parts/\B=B/\s=s/\True;let D:=dfl (Ty.st SN.shape);List.length s.parts*(16:Nat)<=(140737488355328:Nat)/\if(!bc s)=true then A else(∃(x:Nat),(x<=List.length s.parts/\allS bc s=allL bc (List.drop x s.parts))/\(0:Int)=(↑x:Int)/\C)/\∀(x:Nat),let E:=(↑x:Int);let F:=List.getD s.parts (Int.toNat E) D;x<=List.length s.parts/\allS bc s=allL bc (List.drop x s.parts)->if decide (E<B)=true then((0:Int)<=E/\E<B)/\sz F<=n/\if(!allS bc F)=true then A else inR IntKind.i64 (E+(1:Int))/\∃(y:Nat),(y<=List.length s.parts/\allS bc s=allL bc (List.drop y s.parts))/\List.length s.parts-y<List.length s.parts-x/\E+(1:Int)=(↑y:Int)/\C else True/\true=allS bc s/\True:=by
 conv=>zeta
 have ln:=hs.parts.len;have hz:=ky s;have hl:=oR s.parts;simp only[Nu,OG,NZ,NX];refine⟨by omega,a6 (fun h=>?_) (fun h=>?_)⟩
 ·rw[fH];simp at h;simp[h]
 refine⟨⟨0,⟨by omega,by rw[fH];simp at h;simp[h]⟩,rfl⟩,?_⟩;rintro k ⟨h1,h3⟩;apply a6<;>intro h
 ·replace h:=Xo h;have hk:k<s.parts.length:=by omega
  have hm:=gi (bT s.parts k (dfl (.st .shape)) hk);rw[b8 s.parts k (dfl (.st .shape)) hk]at h3;simp only[allL]at h3;refine⟨by omega,by omega,?_⟩;cases e:allS bc (s.parts.getD k (dfl (.st .shape)))
  ·rw[e]at h3;rw[h3];simp
  ·simp only[e,O3]at h3;exact⟨cO hk ln,k+1,⟨by omega,h3⟩,by omega,by omega⟩
 ·replace h:¬((k:Int)<(s.parts.length:Int)):=fun e=>h (Xd e);have e:k=s.parts.length:=by omega
  subst e;rw[h3,NJ];rfl
theorem Kl(c:Int)(hc:0<=c/\c<=400) :
  let A:=(1:Int);let B:=c+A=c+A/\True;inR IntKind.i64 (c+A)/\if decide ((400:Int)<c+A)=true then decide ((400:Int)<c+A)=true/\B else decide ((400:Int)<c+A)=false/\B:=by
 conv=>zeta
 refine⟨aK (by omega) (by omega),a6 (fun h=>?_) (fun h=>?_)⟩
 ·exact⟨h,rfl,trivial⟩
 ·exact⟨by simpa using h,rfl,trivial⟩
theorem Km(n:Nat)(s:Shape)(l c:Int)(hs:Wf (.st .shape) s)(hn:sz s<=n+1)(hc:0<=c/\c<=400/\1<=l/\l<=c+1) :
  let A:=(0:Int);let B:=(400:Int);let C:=(1:Int);let D:=(↑(sz s):Int);let E:=decide (B<c+D)=true;let F:=(401:Int);let G:=l+C;let H:=s.parts=s.parts;let I:=(↑(List.length s.parts):Int);let J:=s=s/\True;let K:=dfl (Ty.st SN.shape);(A<=c/\c<=B)/\if decide (B<c+C)=true then E/\c+C=F/\True else(∃(x:Nat×Int),let L:=(↑(szL (List.take x.1 s.parts)):Int);(x.1<=List.length s.parts/\c+C+L<=B/\deepL (List.drop x.1 s.parts) G x.2=deepS s l)/\l=x.2/\A=(↑x.1:Int)/\s=s/\l=l/\A=A/\H/\I=I/\c+C=c+C+L/\J)/\∀(x:Nat×Int),let L:=(↑(szL (List.take x.1 s.parts)):Int);let M:=c+C+L<=B;let N:=(↑x.1:Int);let O:=List.getD s.parts (Int.toNat N) K;let P:=(↑(sz O):Int);x.1<=List.length s.parts/\M/\deepL (List.drop x.1 s.parts) G x.2=deepS s l->if decide (N<I)=true then(A<=N/\N<I)/\inR IntKind.i64 G/\(sz O<=n/\A<=c+C+L/\M/\C<=l+C/\l+C<=c+C+L+C)/\if decide (B<c+C+L+P)=true then E/\F=F/\True else inR IntKind.i64 (N+C)/\∃(y:Nat×Int),let Q:=(↑(szL (List.take y.1 s.parts)):Int);(y.1<=List.length s.parts/\c+C+Q<=B/\deepL (List.drop y.1 s.parts) G y.2=deepS s l)/\List.length s.parts-y.1<List.length s.parts-x.1/\max x.2 (deepS O G)=y.2/\N+C=(↑y.1:Int)/\s=s/\l=l/\A=A/\H/\I=I/\c+C+L+P=c+C+Q/\J else decide (B<c+D)=false/\x.2=deepS s l/\c+C+L=c+D/\True:=by
 conv=>zeta
 have ln:=hs.parts.len;have hz:=ky s;refine⟨⟨hc.1,hc.2.1⟩,a6 (fun h=>?_) (fun h=>?_)⟩
 ·replace h:=Xo h;have:=gj s;exact⟨Xd (by omega),by omega,trivial⟩
 replace h:¬(400:Int)<c+1:=fun e=>h (Xd e);have hd0:deepL s.parts (l+1) l=deepS s l:=by cases s;rfl
 refine⟨⟨(0,l),⟨Nt _,by simp[szL];omega,by simpa using hd0⟩,rfl,rfl,rfl,rfl,rfl,rfl,rfl,by simp[szL],rfl,trivial⟩,?_⟩;rintro⟨k,d⟩ ⟨h1,h2,h3⟩;simp only[Nu]at h1 h2 h3⊢;have hc0:(0:Int)<=(szL (s.parts.take k):Int):=by omega
 apply a6<;>intro hk
 ·replace hk:=Xo hk;have hk:k<s.parts.length:=by omega
  have hs1:=nC s.parts k (dfl (.st .shape)) hk;have hm:=gi (bT s.parts k (dfl (.st .shape)) hk);rw[b8 s.parts k (dfl (.st .shape)) hk]at h3;simp only[deepL]at h3;have ht:=yB s.parts (k+1);refine⟨by omega,aK (by omega) (by omega),⟨by omega,by omega,h2,by omega,by omega⟩,a6 (fun h=>?_) (fun h=>?_)⟩
  ·replace h:=Xo h;exact⟨Xd (by omega),by trivial,by trivial⟩
  ·replace h:=fun e=>h (Xd e);replace h:¬(400:Int)<c+1+(szL (s.parts.take k):Int)+(sz (s.parts.getD k (dfl (.st .shape))):Int):=h;exact⟨cO hk ln,(k+1,_),⟨by omega,by simp only;omega,h3⟩,by simp only;omega,rfl,by simp only;omega,by trivial,by trivial,by trivial,by trivial,by trivial,by simp only;omega,by trivial,by trivial⟩
 ·replace hk:¬((k:Int)<(s.parts.length:Int)):=fun e=>hk (Xd e);have e:k=s.parts.length:=by omega
  subst e;rw[O4]at h2⊢;rw[NJ]at h3;exact⟨Xf (by omega),h3,by omega,trivial⟩
theorem Ia(s:Shape)(hs:Wf (.st .shape) s) :
  let A:=(0:Int);let B:=(1:Int);let C:=(↑(sz s):Int);let D:=if sz s<=(400:Nat)then C else(401:Int);let E:=if sz s<=(400:Nat)then deepS s B else A;(sz s<=sz s/\A<=A/\A<=(400:Int)/\B<=B/\B<=A+B)/\if decide ((400:Int)<A+C)=true then((401:Int)=D)/\(A=E)/\false=decide (sz s<=(400:Nat))/\True else(A+C=D)/\(deepS s B=E)/\true=decide (sz s<=(400:Nat))/\True:=by
 conv=>zeta
 refine⟨by simp,a6 (fun h=>?_) (fun h=>?_)⟩
 ·replace h:=Xo h;have h':¬sz s<=400:=by omega
  rw[N3 h',N3 h'];exact⟨rfl,rfl,by simp[h'],trivial⟩
 ·replace h:¬(400:Int)<0+(sz s:Int):=fun e=>h (Xd e);have h':sz s<=400:=by omega
  rw[N6 h',N6 h'];exact⟨by omega,by trivial,by simp[h'],trivial⟩
theorem Ib(s:Shape)  :
  let A:=True;if(!decide (sz s<=(400:Nat)))=true then A/\(3:Int)=bz s/\A else if decide ((40:Int)<if sz s<=(400:Nat)then deepS s (1:Int)else(0:Int))=true then A/\(91:Int)=bz s/\A else sz s<=(400:Nat)/\if(!allS bc s)=true then A/\(70:Int)=bz s/\A else A/\(0:Int)=bz s/\A:=by
 conv=>zeta
 unfold bz;by_cases h1:sz s<=400
 ·rw[N3 (by simp[h1]),N6 h1,N3 (show ¬400<sz s by omega)];by_cases h2:(40:Int)<deepS s 1
  ·rw[N6 (by simp[h2]),N6 h2];exact Xr
  ·rw[N3 (by simp[h2]),N3 h2];refine⟨h1,?_⟩;cases allS bc s<;>simp
 ·rw[N6 (by simp[h1]),N6 (show 400<sz s by omega)];exact Xr
theorem LO(s:Par)  :
  True/\(!decide (s.err=(0:Int)))=aY s/\s=s/\True:=by
 simp only[aY];trivial
theorem Kn(s:Par) (ho:a8 s) :
  let A:=(↑(List.length s.toks):Int);let B:=(0:Int);let C:=dfl (Ty.st SN.token);let D:=s=s/\True;let E:=an s;let F:=(1:Int);if decide (s.pos<A)=true then(B<=s.pos/\s.pos<A)/\True/\List.getD s.toks (Int.toNat s.pos) C=an s/\D else if decide (A=B)=true then True/\B=E.kind/\[]=E.text/\B=E.pos/\D else inR IntKind.i64 (A-F)/\(B<=A-F/\A-F<A)/\True/\B=E.kind/\[]=E.text/\(List.getD s.toks (Int.toNat (A-F)) C).pos=E.pos/\D:=by
 conv=>zeta
 obtain⟨g1,g2,g3⟩:=ho;unfold an dP;apply a6<;>intro h
 ·replace h:=Xo h;rw[N6 h];exact⟨⟨g1,h⟩,trivial,rfl,rfl,trivial⟩
 ·replace h:¬s.pos<(s.toks.length:Int):=fun e=>h (Xd e);rw[N3 h];apply a6<;>intro k
  ·replace k:=Xo k;rw[N6 (by omega)];exact Xr
  ·replace k:¬(s.toks.length:Int)=0:=fun e=>k (Xd e);rw[N3 (by omega)];exact⟨aK (by omega) (by omega),⟨by omega,by omega⟩,trivial,rfl,rfl,rfl,rfl,trivial⟩
theorem Ko(s:Par)(e:Int)(a:Int)  :
  let A:=cC e a s;if(!aY s)=true then True/\s.toks=A.toks/\s.pos=A.pos/\e=A.err/\a=A.fat/\True else True/\s=cC e a s/\True:=by
 conv=>zeta
 unfold cC aY;by_cases h:s.err=0
 ·simp[h]
 ·simp[h]
theorem MA(s:Par)(t:Str) (ho:a8 s) :
  let A:=an s;let B:=s=s/\True;let C:=True/\false=isF t s/\B;let D:=if decide (A.text=t)=true then True/\(!aY s)=isF t s/\B else C;a8 s/\if decide (A.kind=(6:Int))=true then D else if decide (A.kind=(5:Int))=true then D else C:=by
 conv=>zeta
 refine⟨ho,?_⟩;have e:isF t s=((decide ((an s).kind=6)||decide ((an s).kind=5))&&decide ((an s).text=t)&&!aY s):=rfl;rw[e];by_cases a:(an s).kind=6<;>by_cases b:(an s).kind=5<;>by_cases c:(an s).text=t<;>simp[a,b,c]
theorem LP(s:Par)(t:Str) (ho:a8 s) :
  let A:=cA t s;a8 s/\if(!isF t s)=true then True/\false=isF t s/\s=cA t s/\True else inR IntKind.i64 (s.pos+(1:Int))/\True/\true=isF t s/\s.toks=A.toks/\s.pos+(1:Int)=A.pos/\s.err=A.err/\s.fat=A.fat/\True:=by
 conv=>zeta
 refine⟨ho,a6 (fun h=>?_) (fun h=>?_)⟩
 ·have h:isF t s=false:=by simpa using h
  rw[aR h,h];simp
 ·have h:isF t s=true:=by simpa using h
  have:=dV h;have g:=ho;unfold a8 at g;rw[aL h,h];exact⟨aK (by omega) (by omega),trivial,rfl,rfl,rfl,rfl,rfl,trivial⟩
theorem Kp(s:Par)(t:Str) (ho:a8 s) :
  let A:=cA t s;a8 s/\if(!isF t s)=true then a8 A/\True/\cC (90:Int) (an A).pos A=aj t s/\True else True/\cA t s=aj t s/\True:=by
 conv=>zeta
 refine⟨ho,a6 (fun h=>?_) (fun h=>?_)⟩
 ·have h:isF t s=false:=by simpa using h
  rw[aR h];refine⟨ho,trivial,?_,trivial⟩;unfold aj;rw[h];rfl
 ·have h:isF t s=true:=by simpa using h
  rw[aL h];refine⟨trivial,?_,trivial⟩;unfold aj;rw[h];rfl
theorem Kq(s:Par)(k:Int) (ho:a8 s/\¬k=0) :
  let A:=aM k s;let B:=True/\(0:Int)=A.1.kind/\[]=A.1.text/\(0:Int)=A.1.pos/\cC (90:Int) (an s).pos s=A.2/\True;a8 s/\if(!decide ((an s).kind=k))=true then B else if aY s=true then B else inR IntKind.i64 (s.pos+(1:Int))/\True/\an s=A.1/\s.toks=A.2.toks/\s.pos+(1:Int)=A.2.pos/\s.err=A.2.err/\s.fat=A.2.fat/\True:=by
 conv=>zeta
 obtain⟨ho,hk⟩:=ho;refine⟨ho,a6 (fun h=>?_) (fun h=>?_)⟩
 ·have h:¬(an s).kind=k:=by simpa using h
  unfold aM;rw[N3 (fun e=>h e.1)];exact Xr
 ·have h:(an s).kind=k:=by simpa using h
  apply a6<;>intro b
  ·unfold aM;rw[N3 (fun e=>by rw[e.2]at b;cases b)];exact Xr
  ·have b:aY s=false:=by simpa using b
   have:=gV (l:=s.toks) (a:=s.pos) (by have:=h;unfold an at this;rw[this];exact hk);have g:=ho;unfold a8 at g;unfold aM;rw[N6 ⟨h,b⟩];exact⟨aK (by omega) (by omega),trivial,rfl,rfl,rfl,rfl,rfl,trivial⟩
theorem Ic(s:Par)(ns:List Str) (ho:a8 s)(wns:Wf (.lst .str) ns) :
  let A:=(aM (1:Int) s);let B:=bN ns s;let C:=A.1.text=B.1;let D:=True/\C/\A.2=B.2/\True;(a8 s/\¬(1:Int)=(0:Int))/\if(!aY A.2)=true then if decide (A.1.text∈ns)=true then True/\C/\cC (111:Int) A.1.pos A.2=B.2/\True else D else D:=by
 conv=>zeta
 refine⟨⟨ho,by decide⟩,?_⟩;have e1:(bN ns s).1=(aM 1 s).1.text:=rfl;have e2:(bN ns s).2=(if aY (aM 1 s).2=false/\(aM 1 s).1.text∈ns then cC 111 (aM 1 s).1.pos (aM 1 s).2 else(aM 1 s).2):=rfl;rw[e1,e2];apply a6<;>intro h
 ·have h:aY (aM 1 s).2=false:=by simpa using h
  apply a6<;>intro m
  ·rw[N6 ⟨h,Xo m⟩];exact Xr
  ·rw[N3 (fun e=>m (Xd e.2))];exact Xr
 ·rw[N3 (fun e=>h (by rw[e.1];rfl))];exact Xr
theorem Ie(p n:Str)  :
  let A:=True;let B:=gL p n;let C:=B.names=[]/\B.parts=[]/\A;let D:=[]=B.pkg/\[]=B.name/\C;let E:=A/\(9:Int)=B.kind/\p=B.pkg/\n=B.name/\C;if decide (p=[])=true then if decide (n=([73,110,116]:Str))=true then A/\(1:Int)=B.kind/\D else if decide (n=([66,111,111,108]:Str))=true then A/\(2:Int)=B.kind/\D else if decide (n=([84,101,120,116]:Str))=true then A/\(3:Int)=B.kind/\D else if decide (n=([65,110,121]:Str))=true then A/\(4:Int)=B.kind/\D else E else E:=by
 conv=>zeta
 unfold gL;by_cases h:p=[]
 ·by_cases a:n=[73,110,116]
  ·simp[h,a]
  by_cases b:n=[66,111,111,108]
  ·simp[h,b]
  by_cases c:n=[84,101,120,116]
  ·simp[h,c]
  by_cases d:n=[65,110,121]
  ·simp[h,d]
  simp[h,a,b,c,d]
 ·simp[h]
theorem Ig(n:Nat)(s:Par) (ho:a8 s/\rem (aj [58] s)<n) :
  let A:=(aj ([58]:Str) s);let B:=ah n A;a8 s/\(a8 A/\rem A<n)/\True/\B.1=B.1/\B.2=B.2/\True:=by
 conv=>zeta
 exact⟨ho.1,⟨(cb ho.1).good,ho.2⟩,trivial,rfl,rfl,trivial⟩
theorem EW(n:Nat)(x:Shape)(s:Par)(hi:a8 s)(h0:s.err=0)(hn:rem s<=n)(hl:x.names.length+x.parts.length<=100000) :
  let A:=bN x.names s;let B:=(140737488355328:Nat);let C:=(aj ([58]:Str) A.2);let D:=List.length x.parts=List.length x.parts;let E:=(↑(List.length x.parts):Int);let F:=az (ah n) x s;a8 s/\(List.length x.names=List.length x.names/\(List.length x.names+List.length [A.1])*(16:Nat)<=B)/\(a8 A.2/\rem C<n)/\(D/\(List.length x.parts+(1:Nat))*(88:Nat)<=B)/\E=E/\D/\D/\D/\True/\x.kind=F.1.kind/\x.pkg=F.1.pkg/\x.name=F.1.name/\x.names++[A.1]=F.1.names/\x.parts++[(ah n C).1]=F.1.parts/\(ah n C).2=F.2/\List.length (x.names++[A.1])=List.length F.1.names/\List.length x.parts+(1:Nat)=List.length F.1.parts/\True:=by
 conv=>zeta
 obtain⟨g1,e1⟩:=l8 (ns:=x.names) hi;have g2:=cb (t:=[58]) g1.good;have e2:=(e1.then g2).lt hn h0;refine⟨hi,⟨rfl,by simp only[Nc];omega⟩,⟨g1.good,e2⟩,⟨rfl,by omega⟩,rfl,rfl,rfl,rfl,trivial,rfl,rfl,rfl,rfl,rfl,rfl,rfl,?_,trivial⟩;show _=(x.parts++[_]).length;simp
theorem Ih(n:Nat)(x:Shape)(s:Par)(hi:a8 s)(hn:rem s<n)(hl:x.parts.length<=100000) :
  let A:=List.length x.parts=List.length x.parts;let B:=(↑(List.length x.parts):Int);let C:=aB (ah n) x s;(a8 s/\rem s<n)/\(A/\(List.length x.parts+(1:Nat))*(88:Nat)<=(140737488355328:Nat))/\B=B/\A/\A/\A/\True/\x.kind=C.1.kind/\x.pkg=C.1.pkg/\x.name=C.1.name/\x.parts++[(ah n s).1]=C.1.parts/\List.length x.parts+(1:Nat)=List.length C.1.parts/\(ah n s).2=C.2/\True:=by
 conv=>zeta
 refine⟨⟨hi,hn⟩,⟨rfl,by omega⟩,rfl,rfl,rfl,rfl,trivial,rfl,rfl,rfl,rfl,?_,rfl,trivial⟩;show _=(x.parts++[_]).length;simp
theorem Ii(n:Nat)(b e:Str)(k:Int)(s:Par)(hi:a8 s)(hn:rem s<=n) :
  let A:=True;let B:=ah n;let C:=az B;let D:=(ab b e C {kind:=k,pkg:=[],name:=[],names:=[],parts:=[]:Shape} s);let E:=(0:Nat);let F:=(5000:Nat);a8 s/\if isF e s=true then A/\cA e s=D.2/\k=D.1.kind/\[]=D.1.pkg/\[]=D.1.name/\D.1.names=[]/\D.1.parts=[]/\List.length D.1.names=E/\List.length D.1.parts=E/\A else(∃(x:Nat×Shape×Par),(a8 x.2.2/\rem x.2.2<x.1/\rem x.2.2<=n/\List.length x.2.1.names+x.1<=F/\List.length x.2.1.parts+x.1<=F/\aV b e C x.1 x.2.1 x.2.2=ab b e C {kind:=k,pkg:=[],name:=[],names:=[],parts:=[]:Shape} s)/\b=b/\e=e/\false=false/\cA e s=x.2.2/\k=x.2.1.kind/\[]=x.2.1.pkg/\[]=x.2.1.name/\x.2.1.names=[]/\x.2.1.parts=[]/\List.length x.2.1.names=E/\List.length x.2.1.parts=E/\A)/\∀(x:Nat×Shape×Par),let G:=a8 x.2.2;let H:=rem x.2.2<=n;let I:=(az B {kind:=x.2.1.kind,pkg:=x.2.1.pkg,name:=x.2.1.name,names:=x.2.1.names,parts:=x.2.1.parts:Shape} x.2.2);let J:=cA e I.2;G/\rem x.2.2<x.1/\H/\List.length x.2.1.names+x.1<=F/\List.length x.2.1.parts+x.1<=F/\aV b e C x.1 x.2.1 x.2.2=ab b e C {kind:=k,pkg:=[],name:=[],names:=[],parts:=[]:Shape} s->if(!aY x.2.2)=true then(G/\x.2.2.err=(0:Int)/\H/\List.length x.2.1.names=List.length x.2.1.names/\List.length x.2.1.parts=List.length x.2.1.parts/\List.length x.2.1.names+List.length x.2.1.parts<=(100000:Nat))/\a8 I.2/\if isF e I.2=true then A/\cA e I.2=D.2/\I.1.kind=D.1.kind/\I.1.pkg=D.1.pkg/\I.1.name=D.1.name/\I.1.names=D.1.names/\I.1.parts=D.1.parts/\List.length I.1.names=List.length D.1.names/\List.length I.1.parts=List.length D.1.parts/\A else a8 J/\∃(y:Nat×Shape×Par),(a8 y.2.2/\rem y.2.2<y.1/\rem y.2.2<=n/\List.length y.2.1.names+y.1<=F/\List.length y.2.1.parts+y.1<=F/\aV b e C y.1 y.2.1 y.2.2=ab b e C {kind:=k,pkg:=[],name:=[],names:=[],parts:=[]:Shape} s)/\y.1<x.1/\b=b/\e=e/\false=false/\aj b J=y.2.2/\I.1.kind=y.2.1.kind/\I.1.pkg=y.2.1.pkg/\I.1.name=y.2.1.name/\I.1.names=y.2.1.names/\I.1.parts=y.2.1.parts/\List.length I.1.names=List.length y.2.1.names/\List.length I.1.parts=List.length y.2.1.parts/\A else A/\x.2.2=D.2/\x.2.1.kind=D.1.kind/\x.2.1.pkg=D.1.pkg/\x.2.1.name=D.1.name/\x.2.1.names=D.1.names/\x.2.1.parts=D.1.parts/\List.length x.2.1.names=List.length D.1.names/\List.length x.2.1.parts=List.length D.1.parts/\A:=by
 conv=>zeta
 have hl:=hi.2.2.1;have hF:ab b e (az (ah n)) ⟨k,[],[],[],[]⟩ s=if isF e s=true then(⟨k,[],[],[],[]⟩,aD s)else aV b e (az (ah n)) (s.toks.length+2) ⟨k,[],[],[],[]⟩ s:=rfl
 have hrd:ec (az (ah n)) n:=dh (bj n);generalize ab b e (az (ah n)) ⟨k,[],[],[],[]⟩ s=fin at hF⊢;refine⟨hi,a6 (fun h=>?_) (fun h=>?_)⟩
 ·rw[N6 h]at hF;subst hF;refine⟨trivial,aL h,?_⟩;exact Xr
 ·rw[N3 h]at hF;have h:isF e s=false:=by simpa using h
  rw[aR h];refine⟨⟨(s.toks.length+2,⟨k,[],[],[],[]⟩,s),⟨hi,by show rem s<_;have h1:=hi.1;have h2:=hi.2.1;unfold rem;split<;>omega,hn,by show 0+_<=_;omega,by show 0+_<=_;omega,hF.symm⟩,by trivial,by trivial,by trivial,by trivial,?_⟩,?_⟩
  ·exact Xr
  rintro⟨j,x,s1⟩ ⟨i1,i2,i3,l0,l1,i6⟩;simp only at i1 i2 i3 l0 l1 i6⊢;apply a6<;>intro hb
  ·have h0:s1.err=0:=bK.1 (by simpa using hb);obtain⟨j,rfl⟩:∃m,j=m+1:=⟨j-1,by omega⟩;have hp:=da h0;obtain⟨g,ea⟩:=hrd x s1 i1 h0 (by omega);have hbf:¬aY s1=true:=by simp[aY,h0]
   simp only[aV,N3 hbf]at i6;refine⟨⟨i1,h0,i3,by trivial,by trivial,by omega⟩,g.good,a6 (fun c=>?_) (fun c=>?_)⟩
   ·rw[N6 c]at i6;subst i6;refine⟨trivial,aL c,?_⟩;exact Xr
   ·have c:isF e (az (ah n) x s1).2=false:=by simpa using c
    rw[N3 (by simp[c])]at i6;rw[aR c];obtain⟨n1,n2,n3,n4⟩:=fL hrd (btw:=b) (en:=e) (x:=x) i1 h0 (by omega) i2;refine⟨g.good,(j,(az (ah n) x s1).1,aj b (az (ah n) x s1).2),⟨n1,n4,n3,by show(x.names++[_]).length+j<=5000;simp only[N5,Nc];omega,by show(x.parts++[_]).length+j<=5000;simp only[N5,Nc];omega,i6⟩,by show j<j+1;omega,by trivial,by trivial,by trivial,by trivial,?_⟩;exact Xr
  ·have h0:¬s1.err=0:=bY.1 (by simpa using hb);have hbf:aY s1=true:=bY.2 h0
   have:(x,s1)=fin:=by
    rw[<-i6]
    cases j with|zero=>rfl|succ j=>simp only[aV,N6 hbf]
   subst this;refine⟨trivial,rfl,?_⟩;exact Xr
theorem Ij(n:Nat)(b e:Str)(k:Int)(s:Par)(hi:a8 s)(hn:rem s<n) :
  let A:=True;let B:=ah n;let C:=aB B;let D:=(ab b e C {kind:=k,pkg:=[],name:=[],names:=[],parts:=[]:Shape} s);let E:=(5000:Nat);a8 s/\if isF e s=true then A/\cA e s=D.2/\k=D.1.kind/\[]=D.1.pkg/\[]=D.1.name/\D.1.parts=[]/\List.length D.1.parts=(0:Nat)/\A else(∃(x:Nat×Shape×Par),(a8 x.2.2/\rem x.2.2<x.1/\rem x.2.2<n/\List.length x.2.1.parts+x.1<=E/\x.2.1.names=[]/\aV b e C x.1 x.2.1 x.2.2=ab b e C {kind:=k,pkg:=[],name:=[],names:=[],parts:=[]:Shape} s)/\b=b/\e=e/\false=false/\cA e s=x.2.2/\k=x.2.1.kind/\[]=x.2.1.pkg/\[]=x.2.1.name/\x.2.1.parts=[]/\List.length x.2.1.parts=(0:Nat)/\A)/\∀(x:Nat×Shape×Par),let F:=a8 x.2.2;let G:=rem x.2.2<n;let H:=(aB B {kind:=x.2.1.kind,pkg:=x.2.1.pkg,name:=x.2.1.name,names:=[],parts:=x.2.1.parts:Shape} x.2.2);let I:=cA e H.2;F/\rem x.2.2<x.1/\G/\List.length x.2.1.parts+x.1<=E/\x.2.1.names=[]/\aV b e C x.1 x.2.1 x.2.2=ab b e C {kind:=k,pkg:=[],name:=[],names:=[],parts:=[]:Shape} s->if(!aY x.2.2)=true then(F/\G/\List.length x.2.1.parts=List.length x.2.1.parts/\List.length x.2.1.parts<=(100000:Nat))/\a8 H.2/\if isF e H.2=true then A/\cA e H.2=D.2/\H.1.kind=D.1.kind/\H.1.pkg=D.1.pkg/\H.1.name=D.1.name/\H.1.parts=D.1.parts/\List.length H.1.parts=List.length D.1.parts/\A else a8 I/\∃(y:Nat×Shape×Par),(a8 y.2.2/\rem y.2.2<y.1/\rem y.2.2<n/\List.length y.2.1.parts+y.1<=E/\y.2.1.names=[]/\aV b e C y.1 y.2.1 y.2.2=ab b e C {kind:=k,pkg:=[],name:=[],names:=[],parts:=[]:Shape} s)/\y.1<x.1/\b=b/\e=e/\false=false/\aj b I=y.2.2/\H.1.kind=y.2.1.kind/\H.1.pkg=y.2.1.pkg/\H.1.name=y.2.1.name/\H.1.parts=y.2.1.parts/\List.length H.1.parts=List.length y.2.1.parts/\A else A/\x.2.2=D.2/\x.2.1.kind=D.1.kind/\x.2.1.pkg=D.1.pkg/\x.2.1.name=D.1.name/\x.2.1.parts=D.1.parts/\List.length x.2.1.parts=List.length D.1.parts/\A:=by
 conv=>zeta
 have hl:=hi.2.2.1;have hF:ab b e (aB (ah n)) ⟨k,[],[],[],[]⟩ s=if isF e s=true then(⟨k,[],[],[],[]⟩,aD s)else aV b e (aB (ah n)) (s.toks.length+2) ⟨k,[],[],[],[]⟩ s:=rfl
 have hrd:ec (aB (ah n)) (n-1):=gM (by rw[Ow (by omega)];exact bj n);generalize ab b e (aB (ah n)) ⟨k,[],[],[],[]⟩ s=fin at hF⊢;refine⟨hi,a6 (fun h=>?_) (fun h=>?_)⟩
 ·rw[N6 h]at hF;subst hF;refine⟨trivial,aL h,?_⟩;exact Xr
 ·rw[N3 h]at hF;have h:isF e s=false:=by simpa using h
  rw[aR h];refine⟨⟨(s.toks.length+2,⟨k,[],[],[],[]⟩,s),⟨hi,by show rem s<_;have h1:=hi.1;have h2:=hi.2.1;unfold rem;split<;>omega,hn,by show 0+_<=_;omega,rfl,hF.symm⟩,by trivial,by trivial,by trivial,by trivial,?_⟩,?_⟩
  ·exact Xr
  rintro⟨j,x,s1⟩ ⟨i1,i2,i3,l0,ik,i6⟩;simp only at i1 i2 i3 l0 ik i6⊢;have ex:(⟨x.kind,x.pkg,x.name,[],x.parts⟩:Shape)=x:=by cases x;simp_all
  try rw[ex]
  apply a6<;>intro hb
  ·have h0:s1.err=0:=bK.1 (by simpa using hb);obtain⟨j,rfl⟩:∃m,j=m+1:=⟨j-1,by omega⟩;have hp:=da h0;obtain⟨g,ea⟩:=hrd x s1 i1 h0 (by omega);have hbf:¬aY s1=true:=by simp[aY,h0]
   simp only[aV,N3 hbf]at i6;refine⟨⟨i1,i3,by trivial,by omega⟩,g.good,a6 (fun c=>?_) (fun c=>?_)⟩
   ·rw[N6 c]at i6;subst i6;refine⟨trivial,aL c,?_⟩;exact Xr
   ·have c:isF e (aB (ah n) x s1).2=false:=by simpa using c
    rw[N3 (by simp[c])]at i6;rw[aR c];obtain⟨n1,n2,n3,n4⟩:=fL hrd (btw:=b) (en:=e) (x:=x) i1 h0 (by omega) i2;refine⟨g.good,(j,(aB (ah n) x s1).1,aj b (aB (ah n) x s1).2),⟨n1,n4,by show rem (aj b _)<n;omega,by show(x.parts++[_]).length+j<=5000;simp only[N5,Nc];omega,ik,i6⟩,by show j<j+1;omega,by trivial,by trivial,by trivial,by trivial,?_⟩;exact Xr
  ·have h0:¬s1.err=0:=bY.1 (by simpa using hb);have hbf:aY s1=true:=bY.2 h0
   have:(x,s1)=fin:=by
    rw[<-i6]
    cases j with|zero=>rfl|succ j=>simp only[aV,N6 hbf]
   subst this;refine⟨trivial,rfl,?_⟩;exact Xr
theorem Ik(n:Nat)(s:Par)(hi:a8 s)(hn:rem s<n+1) :
  let A:=an s;let B:=(2:Int);let C:=(1:Int);let D:=inR IntKind.i64 (s.pos+C);let E:=True;let F:=(ah (n+(1:Nat)) s);let G:=(aj ([47]:Str) {toks:=s.toks,pos:=s.pos+C,err:=s.err,fat:=s.fat:Par});let H:=(cA ([91]:Str) s);let I:=ah n H;let J:=[]=F.1.pkg;let K:=[]=F.1.name;let L:=F.1.names=[];let M:=(cA ([123]:Str) H);let N:=az (ah n);let O:=(ab ([44]:Str) ([125]:Str) N {kind:=(6:Int),pkg:=[],name:=[],names:=[],parts:=[]:Shape} M);let P:=(cA ([60]:Str) M);let Q:=(ab ([124]:Str) ([62]:Str) N {kind:=(7:Int),pkg:=[],name:=[],names:=[],parts:=[]:Shape} P);let R:=(cA ([40]:Str) P);let S:=(ab ([44]:Str) ([41]:Str) (aB (ah n)) {kind:=(8:Int),pkg:=[],name:=[],names:=[],parts:=[]:Shape} R);let T:=(aj ([45,62]:Str) S.2);let U:=List.length S.1.parts=List.length S.1.parts;let V:=(↑(List.length S.1.parts):Int);let W:=a8 s/\if isF ([91]:Str) s=true then(a8 H/\rem H<n)/\a8 I.2/\E/\(5:Int)=F.1.kind/\J/\K/\L/\[I.1]=F.1.parts/\aj ([93]:Str) I.2=F.2/\E else a8 H/\if isF ([123]:Str) H=true then(a8 M/\rem M<=n)/\E/\O.1.kind=F.1.kind/\O.1.pkg=F.1.pkg/\O.1.name=F.1.name/\O.1.names=F.1.names/\O.1.parts=F.1.parts/\O.2=F.2/\E else a8 M/\if isF ([60]:Str) M=true then(a8 P/\rem P<=n)/\E/\Q.1.kind=F.1.kind/\Q.1.pkg=F.1.pkg/\Q.1.name=F.1.name/\Q.1.names=F.1.names/\Q.1.parts=F.1.parts/\Q.2=F.2/\E else a8 P/\if isF ([40]:Str) P=true then(a8 R/\rem R<n)/\a8 S.2/\(a8 T/\rem T<n)/\(U/\(List.length S.1.parts+(1:Nat))*(88:Nat)<=(140737488355328:Nat))/\V=V/\U/\U/\U/\E/\S.1.kind=F.1.kind/\S.1.pkg=F.1.pkg/\S.1.name=F.1.name/\L/\S.1.parts++[(ah n T).1]=F.1.parts/\(ah n T).2=F.2/\E else E/\(0:Int)=F.1.kind/\J/\K/\L/\F.1.parts=[]/\cC (90:Int) A.pos R=F.2/\E;let X:=if decide (A.kind=C)=true then if(!aY s)=true then D/\a8 {toks:=s.toks,pos:=s.pos+C,err:=s.err,fat:=s.fat:Par}/\(a8 G/\¬B=(0:Int))/\E/\gL A.text (aM B G).1.text=F.1/\(aM B G).2=F.2/\E else W else W;a8 s/\if decide (A.kind=B)=true then if(!aY s)=true then D/\E/\gL [] A.text=F.1/\s.toks=F.2.toks/\s.pos+C=F.2.pos/\s.err=F.2.err/\s.fat=F.2.fat/\E else X else X:=by
 conv=>zeta
 have hG:ah (n+1) s=eV (ah n) s:=rfl;unfold eV at hG;dsimp only at hG;generalize ah (n+1) s=G at hG⊢;refine⟨hi,a6 (fun k2=>a6 (fun b=>?a) (fun b=>a6 (fun k1=>a6 (fun b1=>?x) (fun b1=>?t1)) (fun k1=>?t2))) (fun k2=>a6 (fun k1=>a6 (fun b=>?c) (fun b=>?t3)) (fun k1=>?t4))⟩
 case a=>
  have k2:(an s).kind=2:=by simpa using k2
  have b:aY s=false:=by simpa using b
  rw[N6 ⟨k2,b⟩]at hG;subst hG;have hl:=gV (l:=s.toks) (a:=s.pos) (by unfold an at k2;omega);have h1:=hi.1;have h2:=hi.2.2.1;refine⟨aK (by omega) (by omega),?_⟩;exact Xr
 case x=>exact absurd b1 b
 case c=>
  have k2:¬(an s).kind=2:=by simpa using k2
  have k1:(an s).kind=1:=by simpa using k1
  have b:aY s=false:=by simpa using b
  rw[N3 (fun h=>k2 h.1),N6 ⟨k1,b⟩]at hG;subst hG;have hl:=gV (l:=s.toks) (a:=s.pos) (by unfold an at k1;omega);have h1:=hi.1;have h2:=hi.2.2.1;have ga:=yC hi hl;have gm:=cb (t:=[47]) ga;refine⟨aK (by omega) (by omega),ga,⟨gm.good,by omega⟩,?_⟩;exact Xr
 case t1=>
  rw[N3 (fun h=>by simp[h.2]at b),N3 (fun h=>by simp[h.2]at b)]at hG;refine⟨hi,a6 (fun c=>?_) (fun c=>?_)⟩;rotate_left
  ·rw[N3 c]at hG;have c:isF [91] s=false:=by simpa using c
   rw[aR c];refine⟨hi,a6 (fun c=>?_) (fun c=>?_)⟩;rotate_left
   ·rw[N3 c]at hG;have c:isF [123] s=false:=by simpa using c
    rw[aR c];refine⟨hi,a6 (fun c=>?_) (fun c=>?_)⟩;rotate_left
    ·rw[N3 c]at hG;have c:isF [60] s=false:=by simpa using c
     rw[aR c];refine⟨hi,a6 (fun c=>?_) (fun c=>?_)⟩;rotate_left
     ·rw[N3 c]at hG;have c:isF [40] s=false:=by simpa using c
      rw[aR c];subst hG;exact Xr
     rw[N6 c]at hG;subst hG;have g:=cZ hi c;have r:=aW hi c;rw[aL c];have hP:ec (aB (ah n)) (n-1):=gM (by rw[Ow (by omega)];exact bj n);have gl:=bf hP [44] [41] ⟨8,[],[],[],[]⟩ g.good (by omega);have ll:=dK (fun x:Shape=>x.parts.length) (one:=aB (ah n)) (fun x s=>by simp[aB]) [44] [41] ⟨8,[],[],[],[]⟩ (aD s);have lk:=cw (fun x:Shape=>x.names=[]) (one:=aB (ah n)) (fun x s h=>h) [44] [41] (x:=⟨8,[],[],[],[]⟩) (aD s) rfl;have ht:(aD s).toks=s.toks:=rfl;have hl:=hi.2.2.1;generalize ab [44] [41] (aB (ah n)) ⟨8,[],[],[],[]⟩ (aD s)=L at gl ll lk⊢;have gm:=cb (t:=[45,62]) gl.good;simp only[ht,Na]at ll;have hlt:rem (aj [45,62] L.2)<n:=by have:=gm.le;have:=gl.le;omega
     refine⟨⟨g.good,by omega⟩,gl.good,⟨gm.good,hlt⟩,⟨by trivial,by omega⟩,?_⟩;exact Xr
    rw[N6 c]at hG;subst hG;have g:=cZ hi c;have r:=aW hi c;rw[aL c];have gl:=bf (dh (bj n)) [124] [62] ⟨7,[],[],[],[]⟩ g.good (by omega);refine⟨⟨g.good,by omega⟩,?_⟩;exact Xr
   rw[N6 c]at hG;subst hG;have g:=cZ hi c;have r:=aW hi c;rw[aL c];have gl:=bf (dh (bj n)) [44] [125] ⟨6,[],[],[],[]⟩ g.good (by omega);refine⟨⟨g.good,by omega⟩,?_⟩;exact Xr
  rw[N6 c]at hG;subst hG;have g:=cZ hi c;have r:=aW hi c;rw[aL c];obtain⟨gb,eb⟩:=bj n _ g.good (by omega);refine⟨⟨g.good,by omega⟩,gb.good,?_⟩;exact Xr
 case t2=>
  rw[N3 (fun h=>by simp[h.2]at b),N3 (fun h=>by simp[h.1]at k1)]at hG;refine⟨hi,a6 (fun c=>?_) (fun c=>?_)⟩;rotate_left
  ·rw[N3 c]at hG;have c:isF [91] s=false:=by simpa using c
   rw[aR c];refine⟨hi,a6 (fun c=>?_) (fun c=>?_)⟩;rotate_left
   ·rw[N3 c]at hG;have c:isF [123] s=false:=by simpa using c
    rw[aR c];refine⟨hi,a6 (fun c=>?_) (fun c=>?_)⟩;rotate_left
    ·rw[N3 c]at hG;have c:isF [60] s=false:=by simpa using c
     rw[aR c];refine⟨hi,a6 (fun c=>?_) (fun c=>?_)⟩;rotate_left
     ·rw[N3 c]at hG;have c:isF [40] s=false:=by simpa using c
      rw[aR c];subst hG;exact Xr
     rw[N6 c]at hG;subst hG;have g:=cZ hi c;have r:=aW hi c;rw[aL c];have hP:ec (aB (ah n)) (n-1):=gM (by rw[Ow (by omega)];exact bj n);have gl:=bf hP [44] [41] ⟨8,[],[],[],[]⟩ g.good (by omega);have ll:=dK (fun x:Shape=>x.parts.length) (one:=aB (ah n)) (fun x s=>by simp[aB]) [44] [41] ⟨8,[],[],[],[]⟩ (aD s);have lk:=cw (fun x:Shape=>x.names=[]) (one:=aB (ah n)) (fun x s h=>h) [44] [41] (x:=⟨8,[],[],[],[]⟩) (aD s) rfl;have ht:(aD s).toks=s.toks:=rfl;have hl:=hi.2.2.1;generalize ab [44] [41] (aB (ah n)) ⟨8,[],[],[],[]⟩ (aD s)=L at gl ll lk⊢;have gm:=cb (t:=[45,62]) gl.good;simp only[ht,Na]at ll;have hlt:rem (aj [45,62] L.2)<n:=by have:=gm.le;have:=gl.le;omega
     refine⟨⟨g.good,by omega⟩,gl.good,⟨gm.good,hlt⟩,⟨by trivial,by omega⟩,?_⟩;exact Xr
    rw[N6 c]at hG;subst hG;have g:=cZ hi c;have r:=aW hi c;rw[aL c];have gl:=bf (dh (bj n)) [124] [62] ⟨7,[],[],[],[]⟩ g.good (by omega);refine⟨⟨g.good,by omega⟩,?_⟩;exact Xr
   rw[N6 c]at hG;subst hG;have g:=cZ hi c;have r:=aW hi c;rw[aL c];have gl:=bf (dh (bj n)) [44] [125] ⟨6,[],[],[],[]⟩ g.good (by omega);refine⟨⟨g.good,by omega⟩,?_⟩;exact Xr
  rw[N6 c]at hG;subst hG;have g:=cZ hi c;have r:=aW hi c;rw[aL c];obtain⟨gb,eb⟩:=bj n _ g.good (by omega);refine⟨⟨g.good,by omega⟩,gb.good,?_⟩;exact Xr
 case t3=>
  rw[N3 (fun h=>by simp[h.1]at k2),N3 (fun h=>by simp[h.2]at b)]at hG;refine⟨hi,a6 (fun c=>?_) (fun c=>?_)⟩;rotate_left
  ·rw[N3 c]at hG;have c:isF [91] s=false:=by simpa using c
   rw[aR c];refine⟨hi,a6 (fun c=>?_) (fun c=>?_)⟩;rotate_left
   ·rw[N3 c]at hG;have c:isF [123] s=false:=by simpa using c
    rw[aR c];refine⟨hi,a6 (fun c=>?_) (fun c=>?_)⟩;rotate_left
    ·rw[N3 c]at hG;have c:isF [60] s=false:=by simpa using c
     rw[aR c];refine⟨hi,a6 (fun c=>?_) (fun c=>?_)⟩;rotate_left
     ·rw[N3 c]at hG;have c:isF [40] s=false:=by simpa using c
      rw[aR c];subst hG;exact Xr
     rw[N6 c]at hG;subst hG;have g:=cZ hi c;have r:=aW hi c;rw[aL c];have hP:ec (aB (ah n)) (n-1):=gM (by rw[Ow (by omega)];exact bj n);have gl:=bf hP [44] [41] ⟨8,[],[],[],[]⟩ g.good (by omega);have ll:=dK (fun x:Shape=>x.parts.length) (one:=aB (ah n)) (fun x s=>by simp[aB]) [44] [41] ⟨8,[],[],[],[]⟩ (aD s);have lk:=cw (fun x:Shape=>x.names=[]) (one:=aB (ah n)) (fun x s h=>h) [44] [41] (x:=⟨8,[],[],[],[]⟩) (aD s) rfl;have ht:(aD s).toks=s.toks:=rfl;have hl:=hi.2.2.1;generalize ab [44] [41] (aB (ah n)) ⟨8,[],[],[],[]⟩ (aD s)=L at gl ll lk⊢;have gm:=cb (t:=[45,62]) gl.good;simp only[ht,Na]at ll;have hlt:rem (aj [45,62] L.2)<n:=by have:=gm.le;have:=gl.le;omega
     refine⟨⟨g.good,by omega⟩,gl.good,⟨gm.good,hlt⟩,⟨by trivial,by omega⟩,?_⟩;exact Xr
    rw[N6 c]at hG;subst hG;have g:=cZ hi c;have r:=aW hi c;rw[aL c];have gl:=bf (dh (bj n)) [124] [62] ⟨7,[],[],[],[]⟩ g.good (by omega);refine⟨⟨g.good,by omega⟩,?_⟩;exact Xr
   rw[N6 c]at hG;subst hG;have g:=cZ hi c;have r:=aW hi c;rw[aL c];have gl:=bf (dh (bj n)) [44] [125] ⟨6,[],[],[],[]⟩ g.good (by omega);refine⟨⟨g.good,by omega⟩,?_⟩;exact Xr
  rw[N6 c]at hG;subst hG;have g:=cZ hi c;have r:=aW hi c;rw[aL c];obtain⟨gb,eb⟩:=bj n _ g.good (by omega);refine⟨⟨g.good,by omega⟩,gb.good,?_⟩;exact Xr
 case t4=>
  rw[N3 (fun h=>by simp[h.1]at k2),N3 (fun h=>by simp[h.1]at k1)]at hG;refine⟨hi,a6 (fun c=>?_) (fun c=>?_)⟩;rotate_left
  ·rw[N3 c]at hG;have c:isF [91] s=false:=by simpa using c
   rw[aR c];refine⟨hi,a6 (fun c=>?_) (fun c=>?_)⟩;rotate_left
   ·rw[N3 c]at hG;have c:isF [123] s=false:=by simpa using c
    rw[aR c];refine⟨hi,a6 (fun c=>?_) (fun c=>?_)⟩;rotate_left
    ·rw[N3 c]at hG;have c:isF [60] s=false:=by simpa using c
     rw[aR c];refine⟨hi,a6 (fun c=>?_) (fun c=>?_)⟩;rotate_left
     ·rw[N3 c]at hG;have c:isF [40] s=false:=by simpa using c
      rw[aR c];subst hG;exact Xr
     rw[N6 c]at hG;subst hG;have g:=cZ hi c;have r:=aW hi c;rw[aL c];have hP:ec (aB (ah n)) (n-1):=gM (by rw[Ow (by omega)];exact bj n);have gl:=bf hP [44] [41] ⟨8,[],[],[],[]⟩ g.good (by omega);have ll:=dK (fun x:Shape=>x.parts.length) (one:=aB (ah n)) (fun x s=>by simp[aB]) [44] [41] ⟨8,[],[],[],[]⟩ (aD s);have lk:=cw (fun x:Shape=>x.names=[]) (one:=aB (ah n)) (fun x s h=>h) [44] [41] (x:=⟨8,[],[],[],[]⟩) (aD s) rfl;have ht:(aD s).toks=s.toks:=rfl;have hl:=hi.2.2.1;generalize ab [44] [41] (aB (ah n)) ⟨8,[],[],[],[]⟩ (aD s)=L at gl ll lk⊢;have gm:=cb (t:=[45,62]) gl.good;simp only[ht,Na]at ll;have hlt:rem (aj [45,62] L.2)<n:=by have:=gm.le;have:=gl.le;omega
     refine⟨⟨g.good,by omega⟩,gl.good,⟨gm.good,hlt⟩,⟨by trivial,by omega⟩,?_⟩;exact Xr
    rw[N6 c]at hG;subst hG;have g:=cZ hi c;have r:=aW hi c;rw[aL c];have gl:=bf (dh (bj n)) [124] [62] ⟨7,[],[],[],[]⟩ g.good (by omega);refine⟨⟨g.good,by omega⟩,?_⟩;exact Xr
   rw[N6 c]at hG;subst hG;have g:=cZ hi c;have r:=aW hi c;rw[aL c];have gl:=bf (dh (bj n)) [44] [125] ⟨6,[],[],[],[]⟩ g.good (by omega);refine⟨⟨g.good,by omega⟩,?_⟩;exact Xr
  rw[N6 c]at hG;subst hG;have g:=cZ hi c;have r:=aW hi c;rw[aL c];obtain⟨gb,eb⟩:=bj n _ g.good (by omega);refine⟨⟨g.good,by omega⟩,gb.good,?_⟩;exact Xr
theorem Il(s:Par) (ho:a8 s) :
  let A:=ah big s;let B:=bw s;let C:=True/\A.1=B.1/\A.2=B.2/\True;a8 s/\(a8 s/\rem s<big)/\if(!aY A.2)=true then if(!decide (bz A.1=(0:Int)))=true then True/\A.1=B.1/\cC (bz A.1) (an s).pos A.2=B.2/\True else C else C:=by
 conv=>zeta
 have hb:rem s<big:=by have:=nT ho;unfold big;omega
 have g:=(bj big s ho hb).1.good;unfold bw;dsimp only;generalize ah big s=y at g⊢;refine⟨ho,⟨ho,hb⟩,a6 (fun c=>?_) (fun c=>?_)⟩
 ·have c:¬aY y.2=true:=by simpa using c
  rw[N3 c];apply a6<;>intro d
  ·have d:¬bz y.1=0:=by simpa using d
   rw[N3 d];exact Xr
  ·have d:bz y.1=0:=by simpa using d
   rw[N6 d];exact Xr
 ·have c:aY y.2=true:=by simpa using c
  rw[N6 c];exact Xr
theorem EX(n:Nat)(x:Trm)(s:Par)(hi:a8 s)(hn:rem s<n)(zn:x.names=[])(zv:x.vars=[])(zs:x.shapes=[])(zp:x.parts=[]) :
  let A:=([]:List Nat);let B:=List.length A=(0:Nat);let C:=a7 n s;(a8 s/\rem s<n)/\(1:Nat)*(152:Nat)<=(140737488355328:Nat)/\(0:Int)=(↑(List.length A):Int)/\B/\B/\B/\True/\x.kind=x.kind/\x.pkg=x.pkg/\x.name=x.name/\x.n=x.n/\[]++[C.1]=x.parts++[C.1]/\x.pos=x.pos/\C.2=C.2/\(0:Nat)+(1:Nat)=List.length (x.parts++[C.1])/\True:=by
 conv=>zeta
 refine⟨⟨hi,hn⟩,?_⟩
 repeat (first|exact trivial|refine⟨by first|rfl|trivial|omega|(simp only[aA,ca,eQ,bd,aC,bR,ak,df,ai,N5,Nc];done)|(simp only[zn];done)|(simp only[zv,Nk];done)|(simp only[zs,Nk];done)|(simp only[zp,Nk];done)|(simp[zs];done)|(simp[zp];done),?_⟩)
theorem EY(n:Nat)(x:Trm)(s:Par)(hi:a8 s)(hn:rem s<n)(zn:x.names=[])(zv:x.vars=[])(zs:x.shapes=[])(hl:x.parts.length<=100000) :
  let A:=List.length x.parts=List.length x.parts;let B:=(↑(List.length x.parts):Int);let C:=a7 n s;(a8 s/\rem s<n)/\(A/\(List.length x.parts+(1:Nat))*(152:Nat)<=(140737488355328:Nat))/\B=B/\A/\A/\A/\True/\x.kind=x.kind/\x.pkg=x.pkg/\x.name=x.name/\x.n=x.n/\x.parts++[C.1]=x.parts++[C.1]/\x.pos=x.pos/\List.length x.parts+(1:Nat)=List.length (x.parts++[C.1])/\C.2=C.2/\True:=by
 conv=>zeta
 refine⟨⟨hi,hn⟩,⟨by trivial,by omega⟩,?_⟩
 repeat (first|exact trivial|refine⟨by first|rfl|trivial|omega|(simp only[aA,ca,eQ,bd,aC,bR,ak,df,ai,N5,Nc];done)|(simp only[zn];done)|(simp only[zv,Nk];done)|(simp only[zs,Nk];done)|(simp only[zp,Nk];done)|(simp[zs];done)|(simp[zp];done),?_⟩)
theorem BY(n:Nat)(x:Trm)(s:Par)(hi:a8 s)(hn:rem s<n)(zv:x.vars=[])(zp:x.parts=[])(hl:x.names.length+x.shapes.length<=100000) :
  let A:=([]:List Nat);let B:=List.length A=(0:Nat);let C:=a7 n s;(a8 s/\rem s<n)/\(1:Nat)*(152:Nat)<=(140737488355328:Nat)/\(0:Int)=(↑(List.length A):Int)/\B/\B/\B/\True/\x.kind=x.kind/\x.pkg=x.pkg/\x.name=x.name/\x.n=x.n/\x.names=x.names/\x.shapes=x.shapes/\[]++[C.1]=x.parts++[C.1]/\x.pos=x.pos/\List.length x.names=List.length x.names/\List.length x.shapes=List.length x.shapes/\C.2=C.2/\(0:Nat)+(1:Nat)=List.length (x.parts++[C.1])/\True:=by
 conv=>zeta
 refine⟨⟨hi,hn⟩,?_⟩
 repeat (first|exact trivial|refine⟨by first|rfl|trivial|omega|(simp only[aA,ca,eQ,bd,aC,bR,ak,df,ai,N5,Nc];done)|(simp only[zn];done)|(simp only[zv,Nk];done)|(simp only[zs,Nk];done)|(simp only[zp,Nk];done)|(simp[zs];done)|(simp[zp];done),?_⟩)
theorem xh(n:Nat)(x:Trm)(s:Par)(hi:a8 s)(hn:rem s<n)(hl:x.names.length+x.vars.length+x.shapes.length+x.parts.length<=100000) :
  let A:=List.length x.parts=List.length x.parts;let B:=(↑(List.length x.parts):Int);let C:=a7 n s;(a8 s/\rem s<n)/\(A/\(List.length x.parts+(1:Nat))*(152:Nat)<=(140737488355328:Nat))/\B=B/\A/\A/\A/\True/\x.kind=x.kind/\x.pkg=x.pkg/\x.name=x.name/\x.n=x.n/\x.names=x.names/\x.vars=x.vars/\x.shapes=x.shapes/\x.parts++[C.1]=x.parts++[C.1]/\x.pos=x.pos/\List.length x.names=List.length x.names/\List.length x.vars=List.length x.vars/\List.length x.shapes=List.length x.shapes/\List.length x.parts+(1:Nat)=List.length (x.parts++[C.1])/\C.2=C.2/\True:=by
 conv=>zeta
 refine⟨⟨hi,hn⟩,⟨by trivial,by omega⟩,?_⟩
 repeat (first|exact trivial|refine⟨by first|rfl|trivial|omega|(simp only[aA,ca,eQ,bd,aC,bR,ak,df,ai,N5,Nc];done)|(simp only[zn];done)|(simp only[zv,Nk];done)|(simp only[zs,Nk];done)|(simp only[zp,Nk];done)|(simp[zs];done)|(simp[zp];done),?_⟩)
theorem EZ(n:Nat)(x:Trm)(s:Par)(hi:a8 s)(hn:rem s<n)(zn:x.names=[])(zv:x.vars=[])(zs:x.shapes=[])(hl:x.parts.length<=100000) :
  let A:=List.length x.parts=List.length x.parts;let B:=(↑(List.length x.parts):Int);let C:=a7 n s;(a8 s/\rem s<n)/\(A/\(List.length x.parts+(1:Nat))*(152:Nat)<=(140737488355328:Nat))/\B=B/\A/\A/\A/\True/\x.kind=x.kind/\x.pkg=x.pkg/\x.name=x.name/\x.n=x.n/\x.parts++[C.1]=x.parts++[C.1]/\x.pos=x.pos/\List.length x.parts+(1:Nat)=List.length (x.parts++[C.1])/\C.2=C.2/\True:=by
 conv=>zeta
 refine⟨⟨hi,hn⟩,⟨by trivial,by omega⟩,?_⟩
 repeat (first|exact trivial|refine⟨by first|rfl|trivial|omega|(simp only[aA,ca,eQ,bd,aC,bR,ak,df,ai,N5,Nc];done)|(simp only[zn];done)|(simp only[zv,Nk];done)|(simp only[zs,Nk];done)|(simp only[zp,Nk];done)|(simp[zs];done)|(simp[zp];done),?_⟩)
theorem F0(x:Trm)(a:Str)(s:Par)(hi:a8 s)(zv:x.vars=[])(zp:x.parts=[])(hl:x.names.length+x.shapes.length<=100000) :
  let A:=List.length x.shapes=List.length x.shapes;let B:=(↑(List.length x.shapes):Int);let C:=bw (aj a s);a8 s/\a8 (aj a s)/\(A/\(List.length x.shapes+(1:Nat))*(88:Nat)<=(140737488355328:Nat))/\B=B/\A/\A/\A/\True/\x.kind=x.kind/\x.pkg=x.pkg/\x.name=x.name/\x.n=x.n/\x.names=x.names/\x.shapes++[C.1]=x.shapes++[C.1]/\x.pos=x.pos/\C.2=C.2/\List.length x.names=List.length x.names/\List.length x.shapes+(1:Nat)=List.length (x.shapes++[C.1])/\True:=by
 conv=>zeta
 refine⟨hi,(cb hi).good,?_⟩
 repeat (first|exact trivial|refine⟨by first|rfl|trivial|omega|(simp only[aA,ca,eQ,bd,aC,bR,ak,df,ai,N5,Nc];done)|(simp only[zn];done)|(simp only[zv,Nk];done)|(simp only[zs,Nk];done)|(simp only[zp,Nk];done)|(simp[zs];done)|(simp[zp];done),?_⟩)
theorem Im(x:Trm)(a:Str)(s:Par)(hi:a8 s)(zn:x.names=[])(zv:x.vars=[])(zs:x.shapes=[])(hl:x.parts.length<=100000) :
  let A:=([]:List Nat);let B:=List.length A=(0:Nat);let C:=bw (aj a s);a8 s/\a8 (aj a s)/\(1:Nat)*(88:Nat)<=(140737488355328:Nat)/\(0:Int)=(↑(List.length A):Int)/\B/\B/\B/\True/\x.kind=x.kind/\x.pkg=x.pkg/\x.name=x.name/\x.n=x.n/\[]++[C.1]=x.shapes++[C.1]/\x.parts=x.parts/\x.pos=x.pos/\C.2=C.2/\List.length x.parts=List.length x.parts/\(0:Nat)+(1:Nat)=List.length (x.shapes++[C.1])/\True:=by
 conv=>zeta
 refine⟨hi,(cb hi).good,?_⟩
 repeat (first|exact trivial|refine⟨by first|rfl|trivial|omega|(simp only[aA,ca,eQ,bd,aC,bR,ak,df,ai,N5,Nc];done)|(simp only[zn];done)|(simp only[zv,Nk];done)|(simp only[zs,Nk];done)|(simp only[zp,Nk];done)|(simp[zs];done)|(simp[zp];done),?_⟩)
theorem zr(x:Trm)(a:Str)(s:Par)(hi:a8 s)(hl:x.names.length+x.vars.length+x.shapes.length+x.parts.length<=100000) :
  let A:=List.length x.shapes=List.length x.shapes;let B:=(↑(List.length x.shapes):Int);let C:=bw (aj a s);a8 s/\a8 (aj a s)/\(A/\(List.length x.shapes+(1:Nat))*(88:Nat)<=(140737488355328:Nat))/\B=B/\A/\A/\A/\True/\x.kind=x.kind/\x.pkg=x.pkg/\x.name=x.name/\x.n=x.n/\x.names=x.names/\x.vars=x.vars/\x.shapes++[C.1]=x.shapes++[C.1]/\x.parts=x.parts/\x.pos=x.pos/\C.2=C.2/\List.length x.names=List.length x.names/\List.length x.vars=List.length x.vars/\List.length x.shapes+(1:Nat)=List.length (x.shapes++[C.1])/\List.length x.parts=List.length x.parts/\True:=by
 conv=>zeta
 refine⟨hi,(cb hi).good,?_⟩
 repeat (first|exact trivial|refine⟨by first|rfl|trivial|omega|(simp only[aA,ca,eQ,bd,aC,bR,ak,df,ai,N5,Nc];done)|(simp only[zn];done)|(simp only[zv,Nk];done)|(simp only[zs,Nk];done)|(simp only[zp,Nk];done)|(simp[zs];done)|(simp[zp];done),?_⟩)
theorem Io(n:Nat)(x:Trm)(s:Par)(hi:a8 s)(h0:s.err=0)(hn:rem s<=n)(zv:x.vars=[])(zs:x.shapes=[])(hl:x.names.length+x.parts.length<=100000) :
  let A:=bN x.names s;let B:=(140737488355328:Nat);let C:=(aj ([61]:Str) A.2);let D:=List.length x.parts=List.length x.parts;let E:=(↑(List.length x.parts):Int);let F:=ai (a7 n) x s;let G:=[(a7 n C).1];let H:=bR x A.1;a8 s/\(List.length x.names=List.length x.names/\(List.length x.names+List.length [A.1])*(16:Nat)<=B)/\a8 A.2/\(a8 C/\rem C<n)/\(D/\(List.length x.parts+(1:Nat))*(152:Nat)<=B)/\E=E/\D/\D/\D/\True/\x.kind=F.1.kind/\x.pkg=F.1.pkg/\x.name=F.1.name/\x.n=F.1.n/\x.names++[A.1]=F.1.names/\x.parts++G=H.parts++G/\x.pos=F.1.pos/\List.length (x.names++[A.1])=List.length F.1.names/\List.length x.parts+(1:Nat)=List.length (H.parts++G)/\(a7 n C).2=F.2/\True:=by
 conv=>zeta
 have m1:=dx (ns:=x.names) hi;have m2:=m1.then (ay (t:=[61]) m1.good);have hlt:=m2.lt hn h0;refine⟨hi,⟨by trivial,by simp only[Nc];omega⟩,m1.good,⟨m2.good,hlt⟩,⟨by trivial,by omega⟩,?_⟩
 repeat (first|exact trivial|refine⟨by first|rfl|trivial|omega|(simp only[aA,ca,eQ,bd,aC,bR,ak,df,ai,N5,Nc];done)|(simp only[zn];done)|(simp only[zv,Nk];done)|(simp only[zs,Nk];done)|(simp only[zp,Nk];done)|(simp[zs];done)|(simp[zp];done),?_⟩)
theorem LQ(x:Trm)(s:Par)(hi:a8 s)(zv:x.vars=[])(zp:x.parts=[])(hl:x.names.length+x.shapes.length<=90000) :
  let A:=bN x.names s;let B:=x.names++[A.1];let C:=aC x s;let D:=(bw (aj ([58]:Str) A.2));let E:=[D.1];let F:=bR x A.1;a8 s/\(List.length x.names=List.length x.names/\(List.length x.names+List.length [A.1])*(16:Nat)<=(140737488355328:Nat))/\(a8 A.2/\List.length B=List.length B/\List.length x.shapes=List.length x.shapes/\List.length B+List.length x.shapes<=(100000:Nat))/\True/\x.kind=C.1.kind/\x.pkg=C.1.pkg/\x.name=C.1.name/\x.n=C.1.n/\x.names++[A.1]=C.1.names/\x.shapes++E=F.shapes++E/\x.pos=C.1.pos/\List.length B=List.length C.1.names/\List.length (x.shapes++E)=List.length (F.shapes++E)/\D.2=C.2/\True:=by
 conv=>zeta
 have m1:=dx (ns:=x.names) hi;have m2:=ay (t:=[58]) m1.good;refine⟨hi,⟨by trivial,by simp only[Nc];omega⟩,⟨m1.good,by trivial,by trivial,by simp only[N5,Nc];omega⟩,?_⟩
 repeat (first|exact trivial|refine⟨by first|rfl|trivial|omega|(simp only[aA,ca,eQ,bd,aC,bR,ak,df,ai,N5,Nc];done)|(simp only[zn];done)|(simp only[zv,Nk];done)|(simp only[zs,Nk];done)|(simp only[zp,Nk];done)|(simp[zs];done)|(simp[zp];done),?_⟩)
theorem LR(n:Nat)(x:Trm)(s:Par)(hi:a8 s)(h0:s.err=0)(hn:rem s<=n)(hl:x.names.length+x.vars.length+x.shapes.length+x.parts.length<=90000) :
  let A:=bN x.names s;let B:=(140737488355328:Nat);let C:=(aj ([40]:Str) A.2);let D:=(aM (1:Int) C);let E:=[D.1.text];let F:=x.names++[A.1];let G:=List.length F=List.length F;let H:=x.vars++E;let I:=List.length H=List.length H;let J:=List.length x.parts=List.length x.parts;let K:=(100000:Nat);let L:=(bw (aj ([58]:Str) D.2));let M:=(aj ([41]:Str) L.2);let N:=([45,62]:Str);let O:=aj N M;let P:=x.shapes++[L.1];let Q:=ak (a7 n) x s;let R:=[(a7 n O).1];let S:=(eQ ([58]:Str) (df (bR x A.1) D.1.text) D.2);let T:=[(a7 n (aj N (aj ([41]:Str) S.2))).1];a8 s/\(List.length x.names=List.length x.names/\(List.length x.names+List.length [A.1])*(16:Nat)<=B)/\a8 A.2/\(a8 C/\¬(1:Int)=(0:Int))/\(List.length x.vars=List.length x.vars/\(List.length x.vars+List.length E)*(16:Nat)<=B)/\(a8 D.2/\G/\I/\List.length x.shapes=List.length x.shapes/\J/\List.length F+List.length H+List.length x.shapes+List.length x.parts<=K)/\a8 L.2/\a8 M/\(a8 O/\rem O<n/\G/\I/\List.length P=List.length P/\J/\List.length F+List.length H+List.length P+List.length x.parts<=K)/\True/\x.kind=Q.1.kind/\x.pkg=Q.1.pkg/\x.name=Q.1.name/\x.n=Q.1.n/\x.names++[A.1]=Q.1.names/\x.vars++E=Q.1.vars/\x.shapes++[L.1]=Q.1.shapes/\x.parts++R=S.1.parts++T/\x.pos=Q.1.pos/\List.length F=List.length Q.1.names/\List.length H=List.length Q.1.vars/\List.length P=List.length Q.1.shapes/\List.length (x.parts++R)=List.length (S.1.parts++T)/\(a7 n O).2=Q.2/\True:=by
 conv=>zeta
 have m1:=dx (ns:=x.names) hi;have m2:=m1.then (ay (t:=[40]) m1.good);have m3:=m2.then (bU (k:=1) m2.good (by decide));have m4:=m3.then ((ay (t:=[58]) m3.good).then (iq (ay (t:=[58]) m3.good).good));have m5:=m4.then (ay (t:=[41]) m4.good);have m6:=m5.then (ay (t:=[45,62]) m5.good);have hlt:=m6.lt hn h0
 refine⟨hi,⟨by trivial,by simp only[Nc];omega⟩,m1.good,⟨m2.good,by decide⟩,⟨by trivial,by simp only[Nc];omega⟩,
  ⟨m3.good,by trivial,by trivial,by trivial,by trivial,by simp only[N5,Nc];omega⟩,m4.good,m5.good,
  ⟨m6.good,hlt,by trivial,by trivial,by trivial,by trivial,by simp only[N5,Nc];omega⟩,?_⟩
 repeat (first|exact trivial|refine⟨by first|rfl|trivial|omega|(simp only[aA,ca,eQ,bd,aC,bR,ak,df,ai,N5,Nc];done)|(simp only[zn];done)|(simp only[zv,Nk];done)|(simp only[zs,Nk];done)|(simp only[zp,Nk];done)|(simp[zs];done)|(simp[zp];done),?_⟩)
theorem Ip(n:Nat)(s:Par) (ho:a8 s/\rem (aj [40] s)<n) :
  let A:=(aj ([40]:Str) s);let B:=a7 n A;let C:=cz (a7 n) s;a8 s/\(a8 A/\rem A<n)/\a8 B.2/\True/\[B.1]=C.1/\aj ([41]:Str) B.2=C.2/\True:=by
 conv=>zeta
 have m1:=ay (t:=[40]) ho.1;have m2:=dB n _ m1.good ho.2;refine⟨ho.1,⟨m1.good,ho.2⟩,m2.1.good,?_⟩
 repeat (first|exact trivial|refine⟨by first|rfl|trivial|omega|(simp only[aA,ca,eQ,bd,aC,bR,ak,df,ai,N5,Nc];done)|(simp only[zn];done)|(simp only[zv,Nk];done)|(simp only[zs,Nk];done)|(simp only[zp,Nk];done)|(simp[zs];done)|(simp[zp];done),?_⟩)
theorem Kr(n:Nat)(k pp z:Int)(g q:Str)(b e:Str)(s:Par)(hi:a8 s)(hn:rem s<=n) :
  let A:=True;let B:=(ab b e aC {kind:=k,pkg:=g,name:=q,n:=z,names:=[],vars:=[],shapes:=[],parts:=[],pos:=pp:Trm} s);let C:=(0:Nat);let D:=(5000:Nat);let E:=([58]:Str);a8 s/\if isF e s=true then A/\cA e s=B.2/\k=B.1.kind/\g=B.1.pkg/\q=B.1.name/\z=B.1.n/\B.1.names=[]/\B.1.shapes=[]/\pp=B.1.pos/\List.length B.1.names=C/\List.length B.1.shapes=C/\A else(∃(x:Nat×Trm×Par),(a8 x.2.2/\rem x.2.2<x.1/\rem x.2.2<=n/\List.length x.2.1.names+x.1<=D/\List.length x.2.1.shapes+x.1<=D/\x.2.1.vars=[]/\x.2.1.parts=[]/\aV b e aC x.1 x.2.1 x.2.2=ab b e aC {kind:=k,pkg:=g,name:=q,n:=z,names:=[],vars:=[],shapes:=[],parts:=[],pos:=pp:Trm} s)/\b=b/\e=e/\false=false/\cA e s=x.2.2/\k=x.2.1.kind/\g=x.2.1.pkg/\q=x.2.1.name/\z=x.2.1.n/\x.2.1.names=[]/\x.2.1.shapes=[]/\pp=x.2.1.pos/\List.length x.2.1.names=C/\List.length x.2.1.shapes=C/\A)/\∀(x:Nat×Trm×Par),let F:=a8 x.2.2;let G:=(aC {kind:=x.2.1.kind,pkg:=x.2.1.pkg,name:=x.2.1.name,n:=x.2.1.n,names:=x.2.1.names,vars:=[],shapes:=x.2.1.shapes,parts:=[],pos:=x.2.1.pos:Trm} x.2.2);let H:=bN x.2.1.names x.2.2;let I:=(bR {kind:=x.2.1.kind,pkg:=x.2.1.pkg,name:=x.2.1.name,n:=x.2.1.n,names:=x.2.1.names,vars:=[],shapes:=x.2.1.shapes,parts:=[],pos:=x.2.1.pos:Trm} H.1);let J:=[(bw (aj E H.2)).1];let K:=I.shapes++J;let L:=cA e G.2;F/\rem x.2.2<x.1/\rem x.2.2<=n/\List.length x.2.1.names+x.1<=D/\List.length x.2.1.shapes+x.1<=D/\x.2.1.vars=[]/\x.2.1.parts=[]/\aV b e aC x.1 x.2.1 x.2.2=ab b e aC {kind:=k,pkg:=g,name:=q,n:=z,names:=[],vars:=[],shapes:=[],parts:=[],pos:=pp:Trm} s->if(!aY x.2.2)=true then(F/\List.length x.2.1.names=List.length x.2.1.names/\List.length x.2.1.shapes=List.length x.2.1.shapes/\List.length x.2.1.names+List.length x.2.1.shapes<=(90000:Nat))/\a8 G.2/\if isF e G.2=true then A/\cA e G.2=B.2/\G.1.kind=B.1.kind/\G.1.pkg=B.1.pkg/\G.1.name=B.1.name/\G.1.n=B.1.n/\G.1.names=B.1.names/\I.shapes++J=B.1.shapes/\G.1.pos=B.1.pos/\List.length G.1.names=List.length B.1.names/\List.length K=List.length B.1.shapes/\A else a8 L/\∃(y:Nat×Trm×Par),(a8 y.2.2/\rem y.2.2<y.1/\rem y.2.2<=n/\List.length y.2.1.names+y.1<=D/\List.length y.2.1.shapes+y.1<=D/\y.2.1.vars=[]/\y.2.1.parts=[]/\aV b e aC y.1 y.2.1 y.2.2=ab b e aC {kind:=k,pkg:=g,name:=q,n:=z,names:=[],vars:=[],shapes:=[],parts:=[],pos:=pp:Trm} s)/\y.1<x.1/\b=b/\e=e/\false=false/\aj b L=y.2.2/\G.1.kind=y.2.1.kind/\G.1.pkg=y.2.1.pkg/\G.1.name=y.2.1.name/\G.1.n=y.2.1.n/\G.1.names=y.2.1.names/\I.shapes++J=y.2.1.shapes/\G.1.pos=y.2.1.pos/\List.length G.1.names=List.length y.2.1.names/\List.length K=List.length y.2.1.shapes/\A else A/\x.2.2=B.2/\x.2.1.kind=B.1.kind/\x.2.1.pkg=B.1.pkg/\x.2.1.name=B.1.name/\x.2.1.n=B.1.n/\x.2.1.names=B.1.names/\x.2.1.shapes=B.1.shapes/\x.2.1.pos=B.1.pos/\List.length x.2.1.names=List.length B.1.names/\List.length x.2.1.shapes=List.length B.1.shapes/\A:=by
 conv=>zeta
 have hl:=hi.2.2.1;have hF:ab b e (aC) ⟨k,g,q,z,[],[],[],[],pp⟩ s=if isF e s=true then(⟨k,g,q,z,[],[],[],[],pp⟩,aD s)else aV b e (aC) (s.toks.length+2) ⟨k,g,q,z,[],[],[],[],pp⟩ s:=rfl
 have hrd:ec (aC) n:=iW n;generalize ab b e (aC) ⟨k,g,q,z,[],[],[],[],pp⟩ s=fin at hF⊢;refine⟨hi,a6 (fun h=>?_) (fun h=>?_)⟩
 ·rw[N6 h]at hF;subst hF;refine⟨trivial,aL h,?_⟩;exact Xr
 ·rw[N3 h]at hF;have h:isF e s=false:=by simpa using h
  rw[aR h];refine⟨⟨(s.toks.length+2,⟨k,g,q,z,[],[],[],[],pp⟩,s),⟨hi,by show rem s<_;have h1:=hi.1;have h2:=hi.2.1;unfold rem;split<;>omega,hn,by show 0+_<=_;omega,by show 0+_<=_;omega,rfl,rfl,hF.symm⟩,?_⟩,?_⟩
  ·exact Xr
  rintro⟨j,x,s1⟩ ⟨i1,i2,i3,ln,ls,kv,kp,i6⟩;simp only at i1 i2 i3 ln ls kv kp i6⊢;have ex:(⟨x.kind,x.pkg,x.name,x.n,x.names,[],x.shapes,[],x.pos⟩:Trm)=x:=by cases x;simp_all
  try rw[ex]
  apply a6<;>intro hb
  ·have h0:s1.err=0:=bK.1 (by simpa using hb);obtain⟨j,rfl⟩:∃m,j=m+1:=⟨j-1,by omega⟩;have hp:=da h0;obtain⟨gg,ea⟩:=hrd x s1 i1 h0 (by omega);have hbf:¬aY s1=true:=by simp[aY,h0]
   simp only[aV,N3 hbf]at i6;refine⟨⟨i1,by trivial,by trivial,by omega⟩,gg.good,a6 (fun c=>?_) (fun c=>?_)⟩
   ·rw[N6 c]at i6;subst i6;refine⟨trivial,aL c,?_⟩;exact Xr
   ·have c:isF e (aC x s1).2=false:=by simpa using c
    rw[N3 (by simp[c])]at i6;rw[aR c];obtain⟨n1,n2,n3,n4⟩:=fL hrd (btw:=b) (en:=e) (x:=x) i1 h0 (by omega) i2;refine⟨gg.good,(j,(aC x s1).1,aj b (aC x s1).2),⟨n1,n4,n3,by show(x.names++[_]).length+j<=5000;simp only[N5,Nc];omega,by show(x.shapes++[_]).length+j<=5000;simp only[N5,Nc];omega,kv,kp,i6⟩,by show j<j+1;omega,?_⟩;exact Xr
  ·have h0:¬s1.err=0:=bY.1 (by simpa using hb);have hbf:aY s1=true:=bY.2 h0
   have:(x,s1)=fin:=by
    rw[<-i6]
    cases j with|zero=>rfl|succ j=>simp only[aV,N6 hbf]
   subst this;refine⟨trivial,rfl,?_⟩;exact Xr
theorem Ks(n:Nat)(k pp z:Int)(g q:Str)(us:List Trm)(b e:Str)(s:Par)(hi:a8 s)(hn:rem s<=n)(hu:us.length<=1) :
  let A:=True;let B:=a7 n;let C:=ak B;let D:=(ab b e C {kind:=k,pkg:=g,name:=q,n:=z,names:=[],vars:=[],shapes:=[],parts:=us,pos:=pp:Trm} s);let E:=(0:Nat);let F:=(5000:Nat);let G:=([58]:Str);let H:=(1:Int);let I:=([40]:Str);let J:=([45,62]:Str);let K:=([41]:Str);a8 s/\if isF e s=true then A/\cA e s=D.2/\k=D.1.kind/\g=D.1.pkg/\q=D.1.name/\z=D.1.n/\D.1.names=[]/\D.1.vars=[]/\D.1.shapes=[]/\us=D.1.parts/\pp=D.1.pos/\List.length us=List.length D.1.parts/\List.length D.1.names=E/\List.length D.1.vars=E/\List.length D.1.shapes=E/\A else(∃(x:Nat×Trm×Par),(a8 x.2.2/\rem x.2.2<x.1/\rem x.2.2<=n/\List.length x.2.1.names+x.1<=F/\List.length x.2.1.vars+x.1<=F/\List.length x.2.1.shapes+x.1<=F/\List.length x.2.1.parts+x.1<=F/\aV b e C x.1 x.2.1 x.2.2=ab b e C {kind:=k,pkg:=g,name:=q,n:=z,names:=[],vars:=[],shapes:=[],parts:=us,pos:=pp:Trm} s)/\b=b/\e=e/\false=false/\cA e s=x.2.2/\k=x.2.1.kind/\g=x.2.1.pkg/\q=x.2.1.name/\z=x.2.1.n/\x.2.1.names=[]/\x.2.1.vars=[]/\x.2.1.shapes=[]/\us=x.2.1.parts/\pp=x.2.1.pos/\List.length x.2.1.names=E/\List.length x.2.1.vars=E/\List.length x.2.1.shapes=E/\List.length us=List.length x.2.1.parts/\A)/\∀(x:Nat×Trm×Par),let L:=a8 x.2.2;let M:=rem x.2.2<=n;let N:=(ak B {kind:=x.2.1.kind,pkg:=x.2.1.pkg,name:=x.2.1.name,n:=x.2.1.n,names:=x.2.1.names,vars:=x.2.1.vars,shapes:=x.2.1.shapes,parts:=x.2.1.parts,pos:=x.2.1.pos:Trm} x.2.2);let O:=bN x.2.1.names x.2.2;let P:=aM H (aj I O.2);let Q:=(eQ G (df (bR {kind:=x.2.1.kind,pkg:=x.2.1.pkg,name:=x.2.1.name,n:=x.2.1.n,names:=x.2.1.names,vars:=x.2.1.vars,shapes:=x.2.1.shapes,parts:=x.2.1.parts,pos:=x.2.1.pos:Trm} O.1) P.1.text) P.2);let R:=[(a7 n (aj J (aj K Q.2))).1];let S:=Q.1.parts++R;let T:=cA e N.2;L/\rem x.2.2<x.1/\M/\List.length x.2.1.names+x.1<=F/\List.length x.2.1.vars+x.1<=F/\List.length x.2.1.shapes+x.1<=F/\List.length x.2.1.parts+x.1<=F/\aV b e C x.1 x.2.1 x.2.2=ab b e C {kind:=k,pkg:=g,name:=q,n:=z,names:=[],vars:=[],shapes:=[],parts:=us,pos:=pp:Trm} s->if(!aY x.2.2)=true then(L/\x.2.2.err=(0:Int)/\M/\List.length x.2.1.names=List.length x.2.1.names/\List.length x.2.1.vars=List.length x.2.1.vars/\List.length x.2.1.shapes=List.length x.2.1.shapes/\List.length x.2.1.parts=List.length x.2.1.parts/\List.length x.2.1.names+List.length x.2.1.vars+List.length x.2.1.shapes+List.length x.2.1.parts<=(90000:Nat))/\a8 N.2/\if isF e N.2=true then A/\cA e N.2=D.2/\N.1.kind=D.1.kind/\N.1.pkg=D.1.pkg/\N.1.name=D.1.name/\N.1.n=D.1.n/\N.1.names=D.1.names/\N.1.vars=D.1.vars/\N.1.shapes=D.1.shapes/\Q.1.parts++R=D.1.parts/\N.1.pos=D.1.pos/\List.length S=List.length D.1.parts/\List.length N.1.names=List.length D.1.names/\List.length N.1.vars=List.length D.1.vars/\List.length N.1.shapes=List.length D.1.shapes/\A else a8 T/\∃(y:Nat×Trm×Par),(a8 y.2.2/\rem y.2.2<y.1/\rem y.2.2<=n/\List.length y.2.1.names+y.1<=F/\List.length y.2.1.vars+y.1<=F/\List.length y.2.1.shapes+y.1<=F/\List.length y.2.1.parts+y.1<=F/\aV b e C y.1 y.2.1 y.2.2=ab b e C {kind:=k,pkg:=g,name:=q,n:=z,names:=[],vars:=[],shapes:=[],parts:=us,pos:=pp:Trm} s)/\y.1<x.1/\b=b/\e=e/\false=false/\aj b T=y.2.2/\N.1.kind=y.2.1.kind/\N.1.pkg=y.2.1.pkg/\N.1.name=y.2.1.name/\N.1.n=y.2.1.n/\N.1.names=y.2.1.names/\N.1.vars=y.2.1.vars/\N.1.shapes=y.2.1.shapes/\Q.1.parts++R=y.2.1.parts/\N.1.pos=y.2.1.pos/\List.length N.1.names=List.length y.2.1.names/\List.length N.1.vars=List.length y.2.1.vars/\List.length N.1.shapes=List.length y.2.1.shapes/\List.length S=List.length y.2.1.parts/\A else A/\x.2.2=D.2/\x.2.1.kind=D.1.kind/\x.2.1.pkg=D.1.pkg/\x.2.1.name=D.1.name/\x.2.1.n=D.1.n/\x.2.1.names=D.1.names/\x.2.1.vars=D.1.vars/\x.2.1.shapes=D.1.shapes/\x.2.1.parts=D.1.parts/\x.2.1.pos=D.1.pos/\List.length x.2.1.parts=List.length D.1.parts/\List.length x.2.1.names=List.length D.1.names/\List.length x.2.1.vars=List.length D.1.vars/\List.length x.2.1.shapes=List.length D.1.shapes/\A:=by
 conv=>zeta
 have hl:=hi.2.2.1;have hF:ab b e (ak (a7 n)) ⟨k,g,q,z,[],[],[],us,pp⟩ s=if isF e s=true then(⟨k,g,q,z,[],[],[],us,pp⟩,aD s)else aV b e (ak (a7 n)) (s.toks.length+2) ⟨k,g,q,z,[],[],[],us,pp⟩ s:=rfl
 have hrd:ec (ak (a7 n)) n:=kA (dB n);generalize ab b e (ak (a7 n)) ⟨k,g,q,z,[],[],[],us,pp⟩ s=fin at hF⊢;refine⟨hi,a6 (fun h=>?_) (fun h=>?_)⟩
 ·rw[N6 h]at hF;subst hF;refine⟨trivial,aL h,?_⟩;exact Xr
 ·rw[N3 h]at hF;have h:isF e s=false:=by simpa using h
  rw[aR h];refine⟨⟨(s.toks.length+2,⟨k,g,q,z,[],[],[],us,pp⟩,s),⟨hi,by show rem s<_;have h1:=hi.1;have h2:=hi.2.1;unfold rem;split<;>omega,hn,by show 0+_<=_;omega,by show 0+_<=_;omega,by show 0+_<=_;omega,by show us.length+_<=_;omega,hF.symm⟩,?_⟩,?_⟩
  ·exact Xr
  rintro⟨j,x,s1⟩ ⟨i1,i2,i3,ln,lv,ls,lp,i6⟩;simp only at i1 i2 i3 ln lv ls lp i6⊢;have ex:(⟨x.kind,x.pkg,x.name,x.n,x.names,x.vars,x.shapes,x.parts,x.pos⟩:Trm)=x:=by cases x;simp_all
  try rw[ex]
  apply a6<;>intro hb
  ·have h0:s1.err=0:=bK.1 (by simpa using hb);obtain⟨j,rfl⟩:∃m,j=m+1:=⟨j-1,by omega⟩;have hp:=da h0;obtain⟨gg,ea⟩:=hrd x s1 i1 h0 (by omega);have hbf:¬aY s1=true:=by simp[aY,h0]
   simp only[aV,N3 hbf]at i6;refine⟨⟨i1,h0,i3,by trivial,by trivial,by trivial,by trivial,by omega⟩,gg.good,a6 (fun c=>?_) (fun c=>?_)⟩
   ·rw[N6 c]at i6;subst i6;refine⟨trivial,aL c,?_⟩;exact Xr
   ·have c:isF e (ak (a7 n) x s1).2=false:=by simpa using c
    rw[N3 (by simp[c])]at i6;rw[aR c];obtain⟨n1,n2,n3,n4⟩:=fL hrd (btw:=b) (en:=e) (x:=x) i1 h0 (by omega) i2;refine⟨gg.good,(j,(ak (a7 n) x s1).1,aj b (ak (a7 n) x s1).2),⟨n1,n4,n3,by show(x.names++[_]).length+j<=5000;simp only[N5,Nc];omega,by show(x.vars++[_]).length+j<=5000;simp only[N5,Nc];omega,by show(x.shapes++[_]).length+j<=5000;simp only[N5,Nc];omega,by show(x.parts++[_]).length+j<=5000;simp only[N5,Nc];omega,i6⟩,by show j<j+1;omega,?_⟩;exact Xr
  ·have h0:¬s1.err=0:=bY.1 (by simpa using hb);have hbf:aY s1=true:=bY.2 h0
   have:(x,s1)=fin:=by
    rw[<-i6]
    cases j with|zero=>rfl|succ j=>simp only[aV,N6 hbf]
   subst this;refine⟨trivial,rfl,?_⟩;exact Xr
theorem Iq(n:Nat)(k pp z:Int)(g q:Str)(b e:Str)(s:Par)(hi:a8 s)(hn:rem s<n) :
  let A:=True;let B:=aA (a7 n);let C:=(ab b e B {kind:=k,pkg:=g,name:=q,n:=z,names:=[],vars:=[],shapes:=[],parts:=[],pos:=pp:Trm} s);let D:=(5000:Nat);a8 s/\if isF e s=true then A/\cA e s=C.2/\k=C.1.kind/\g=C.1.pkg/\q=C.1.name/\z=C.1.n/\C.1.parts=[]/\pp=C.1.pos/\List.length C.1.parts=(0:Nat)/\A else(∃(x:Nat×Trm×Par),(a8 x.2.2/\rem x.2.2<x.1/\rem x.2.2<n/\List.length x.2.1.parts+x.1<=D/\x.2.1.names=[]/\x.2.1.vars=[]/\x.2.1.shapes=[]/\aV b e B x.1 x.2.1 x.2.2=ab b e B {kind:=k,pkg:=g,name:=q,n:=z,names:=[],vars:=[],shapes:=[],parts:=[],pos:=pp:Trm} s)/\b=b/\e=e/\false=false/\cA e s=x.2.2/\k=x.2.1.kind/\g=x.2.1.pkg/\q=x.2.1.name/\z=x.2.1.n/\x.2.1.parts=[]/\pp=x.2.1.pos/\List.length x.2.1.parts=(0:Nat)/\A)/\∀(x:Nat×Trm×Par),let E:=a8 x.2.2;let F:=rem x.2.2<n;let G:=a7 n x.2.2;let H:=x.2.1.kind=C.1.kind;let I:=x.2.1.pkg=C.1.pkg;let J:=x.2.1.name=C.1.name;let K:=x.2.1.n=C.1.n;let L:=x.2.1.pos=C.1.pos;let M:=x.2.1.parts++[G.1];let N:=cA e G.2;E/\rem x.2.2<x.1/\F/\List.length x.2.1.parts+x.1<=D/\x.2.1.names=[]/\x.2.1.vars=[]/\x.2.1.shapes=[]/\aV b e B x.1 x.2.1 x.2.2=ab b e B {kind:=k,pkg:=g,name:=q,n:=z,names:=[],vars:=[],shapes:=[],parts:=[],pos:=pp:Trm} s->if(!aY x.2.2)=true then(E/\F/\List.length x.2.1.parts=List.length x.2.1.parts/\List.length x.2.1.parts<=(100000:Nat))/\a8 G.2/\if isF e G.2=true then A/\cA e G.2=C.2/\H/\I/\J/\K/\x.2.1.parts++[G.1]=C.1.parts/\L/\List.length M=List.length C.1.parts/\A else a8 N/\∃(y:Nat×Trm×Par),(a8 y.2.2/\rem y.2.2<y.1/\rem y.2.2<n/\List.length y.2.1.parts+y.1<=D/\y.2.1.names=[]/\y.2.1.vars=[]/\y.2.1.shapes=[]/\aV b e B y.1 y.2.1 y.2.2=ab b e B {kind:=k,pkg:=g,name:=q,n:=z,names:=[],vars:=[],shapes:=[],parts:=[],pos:=pp:Trm} s)/\y.1<x.1/\b=b/\e=e/\false=false/\aj b N=y.2.2/\x.2.1.kind=y.2.1.kind/\x.2.1.pkg=y.2.1.pkg/\x.2.1.name=y.2.1.name/\x.2.1.n=y.2.1.n/\x.2.1.parts++[G.1]=y.2.1.parts/\x.2.1.pos=y.2.1.pos/\List.length M=List.length y.2.1.parts/\A else A/\x.2.2=C.2/\H/\I/\J/\K/\x.2.1.parts=C.1.parts/\L/\List.length x.2.1.parts=List.length C.1.parts/\A:=by
 conv=>zeta
 have hl:=hi.2.2.1;have hF:ab b e (aA (a7 n)) ⟨k,g,q,z,[],[],[],[],pp⟩ s=if isF e s=true then(⟨k,g,q,z,[],[],[],[],pp⟩,aD s)else aV b e (aA (a7 n)) (s.toks.length+2) ⟨k,g,q,z,[],[],[],[],pp⟩ s:=rfl
 have hrd:ec (aA (a7 n)) (n-1):=dy (by rw[Ow (by omega)];exact dB n);generalize ab b e (aA (a7 n)) ⟨k,g,q,z,[],[],[],[],pp⟩ s=fin at hF⊢;refine⟨hi,a6 (fun h=>?_) (fun h=>?_)⟩
 ·rw[N6 h]at hF;subst hF;refine⟨trivial,aL h,?_⟩;exact Xr
 ·rw[N3 h]at hF;have h:isF e s=false:=by simpa using h
  rw[aR h];refine⟨⟨(s.toks.length+2,⟨k,g,q,z,[],[],[],[],pp⟩,s),⟨hi,by show rem s<_;have h1:=hi.1;have h2:=hi.2.1;unfold rem;split<;>omega,hn,by show 0+_<=_;omega,rfl,rfl,rfl,hF.symm⟩,?_⟩,?_⟩
  ·exact Xr
  rintro⟨j,x,s1⟩ ⟨i1,i2,i3,lp,kn,kv,ks,i6⟩;simp only at i1 i2 i3 lp kn kv ks i6⊢;have ex:(⟨x.kind,x.pkg,x.name,x.n,[],[],[],x.parts,x.pos⟩:Trm)=x:=by cases x;simp_all
  try rw[ex]
  rw[show(a7 n s1).2=(aA (a7 n) x s1).2 from rfl];apply a6<;>intro hb
  ·have h0:s1.err=0:=bK.1 (by simpa using hb);obtain⟨j,rfl⟩:∃m,j=m+1:=⟨j-1,by omega⟩;have hp:=da h0;obtain⟨gg,ea⟩:=hrd x s1 i1 h0 (by omega);have hbf:¬aY s1=true:=by simp[aY,h0]
   simp only[aV,N3 hbf]at i6;refine⟨⟨i1,i3,by trivial,by omega⟩,gg.good,a6 (fun c=>?_) (fun c=>?_)⟩
   ·rw[N6 c]at i6;subst i6;refine⟨trivial,aL c,?_⟩;exact Xr
   ·have c:isF e (aA (a7 n) x s1).2=false:=by simpa using c
    rw[N3 (by simp[c])]at i6;rw[aR c];obtain⟨n1,n2,n3,n4⟩:=fL hrd (btw:=b) (en:=e) (x:=x) i1 h0 (by omega) i2;refine⟨gg.good,(j,(aA (a7 n) x s1).1,aj b (aA (a7 n) x s1).2),⟨n1,n4,by show rem (aj b _)<n;omega,by show(x.parts++[_]).length+j<=5000;simp only[N5,Nc];omega,kn,kv,ks,i6⟩,by show j<j+1;omega,?_⟩;exact Xr
  ·have h0:¬s1.err=0:=bY.1 (by simpa using hb);have hbf:aY s1=true:=bY.2 h0
   have:(x,s1)=fin:=by
    rw[<-i6]
    cases j with|zero=>rfl|succ j=>simp only[aV,N6 hbf]
   subst this;refine⟨trivial,rfl,?_⟩;exact Xr
theorem F1(n:Nat)(k pp z:Int)(g q:Str)(b e:Str)(s:Par)(hi:a8 s)(hn:rem s<=n) :
  let A:=True;let B:=a7 n;let C:=ai B;let D:=(ab b e C {kind:=k,pkg:=g,name:=q,n:=z,names:=[],vars:=[],shapes:=[],parts:=[],pos:=pp:Trm} s);let E:=(0:Nat);let F:=(5000:Nat);let G:=([61]:Str);a8 s/\if isF e s=true then A/\cA e s=D.2/\k=D.1.kind/\g=D.1.pkg/\q=D.1.name/\z=D.1.n/\D.1.names=[]/\D.1.parts=[]/\pp=D.1.pos/\List.length D.1.names=E/\List.length D.1.parts=E/\A else(∃(x:Nat×Trm×Par),(a8 x.2.2/\rem x.2.2<x.1/\rem x.2.2<=n/\List.length x.2.1.names+x.1<=F/\List.length x.2.1.parts+x.1<=F/\x.2.1.vars=[]/\x.2.1.shapes=[]/\aV b e C x.1 x.2.1 x.2.2=ab b e C {kind:=k,pkg:=g,name:=q,n:=z,names:=[],vars:=[],shapes:=[],parts:=[],pos:=pp:Trm} s)/\b=b/\e=e/\false=false/\cA e s=x.2.2/\k=x.2.1.kind/\g=x.2.1.pkg/\q=x.2.1.name/\z=x.2.1.n/\x.2.1.names=[]/\x.2.1.parts=[]/\pp=x.2.1.pos/\List.length x.2.1.names=E/\List.length x.2.1.parts=E/\A)/\∀(x:Nat×Trm×Par),let H:=a8 x.2.2;let I:=rem x.2.2<=n;let J:=(ai B {kind:=x.2.1.kind,pkg:=x.2.1.pkg,name:=x.2.1.name,n:=x.2.1.n,names:=x.2.1.names,vars:=[],shapes:=[],parts:=x.2.1.parts,pos:=x.2.1.pos:Trm} x.2.2);let K:=bN x.2.1.names x.2.2;let L:=(bR {kind:=x.2.1.kind,pkg:=x.2.1.pkg,name:=x.2.1.name,n:=x.2.1.n,names:=x.2.1.names,vars:=[],shapes:=[],parts:=x.2.1.parts,pos:=x.2.1.pos:Trm} K.1);let M:=[(a7 n (aj G K.2)).1];let N:=L.parts++M;let O:=cA e J.2;H/\rem x.2.2<x.1/\I/\List.length x.2.1.names+x.1<=F/\List.length x.2.1.parts+x.1<=F/\x.2.1.vars=[]/\x.2.1.shapes=[]/\aV b e C x.1 x.2.1 x.2.2=ab b e C {kind:=k,pkg:=g,name:=q,n:=z,names:=[],vars:=[],shapes:=[],parts:=[],pos:=pp:Trm} s->if(!aY x.2.2)=true then(H/\x.2.2.err=(0:Int)/\I/\List.length x.2.1.names=List.length x.2.1.names/\List.length x.2.1.parts=List.length x.2.1.parts/\List.length x.2.1.names+List.length x.2.1.parts<=(100000:Nat))/\a8 J.2/\if isF e J.2=true then A/\cA e J.2=D.2/\J.1.kind=D.1.kind/\J.1.pkg=D.1.pkg/\J.1.name=D.1.name/\J.1.n=D.1.n/\J.1.names=D.1.names/\L.parts++M=D.1.parts/\J.1.pos=D.1.pos/\List.length J.1.names=List.length D.1.names/\List.length N=List.length D.1.parts/\A else a8 O/\∃(y:Nat×Trm×Par),(a8 y.2.2/\rem y.2.2<y.1/\rem y.2.2<=n/\List.length y.2.1.names+y.1<=F/\List.length y.2.1.parts+y.1<=F/\y.2.1.vars=[]/\y.2.1.shapes=[]/\aV b e C y.1 y.2.1 y.2.2=ab b e C {kind:=k,pkg:=g,name:=q,n:=z,names:=[],vars:=[],shapes:=[],parts:=[],pos:=pp:Trm} s)/\y.1<x.1/\b=b/\e=e/\false=false/\aj b O=y.2.2/\J.1.kind=y.2.1.kind/\J.1.pkg=y.2.1.pkg/\J.1.name=y.2.1.name/\J.1.n=y.2.1.n/\J.1.names=y.2.1.names/\L.parts++M=y.2.1.parts/\J.1.pos=y.2.1.pos/\List.length J.1.names=List.length y.2.1.names/\List.length N=List.length y.2.1.parts/\A else A/\x.2.2=D.2/\x.2.1.kind=D.1.kind/\x.2.1.pkg=D.1.pkg/\x.2.1.name=D.1.name/\x.2.1.n=D.1.n/\x.2.1.names=D.1.names/\x.2.1.parts=D.1.parts/\x.2.1.pos=D.1.pos/\List.length x.2.1.names=List.length D.1.names/\List.length x.2.1.parts=List.length D.1.parts/\A:=by
 conv=>zeta
 have hl:=hi.2.2.1;have hF:ab b e (ai (a7 n)) ⟨k,g,q,z,[],[],[],[],pp⟩ s=if isF e s=true then(⟨k,g,q,z,[],[],[],[],pp⟩,aD s)else aV b e (ai (a7 n)) (s.toks.length+2) ⟨k,g,q,z,[],[],[],[],pp⟩ s:=rfl
 have hrd:ec (ai (a7 n)) n:=mh (dB n);generalize ab b e (ai (a7 n)) ⟨k,g,q,z,[],[],[],[],pp⟩ s=fin at hF⊢;refine⟨hi,a6 (fun h=>?_) (fun h=>?_)⟩
 ·rw[N6 h]at hF;subst hF;refine⟨trivial,aL h,?_⟩;exact Xr
 ·rw[N3 h]at hF;have h:isF e s=false:=by simpa using h
  rw[aR h];refine⟨⟨(s.toks.length+2,⟨k,g,q,z,[],[],[],[],pp⟩,s),⟨hi,by show rem s<_;have h1:=hi.1;have h2:=hi.2.1;unfold rem;split<;>omega,hn,by show 0+_<=_;omega,by show 0+_<=_;omega,rfl,rfl,hF.symm⟩,?_⟩,?_⟩
  ·exact Xr
  rintro⟨j,x,s1⟩ ⟨i1,i2,i3,ln,lp,kv,ks,i6⟩;simp only at i1 i2 i3 ln lp kv ks i6⊢;have ex:(⟨x.kind,x.pkg,x.name,x.n,x.names,[],[],x.parts,x.pos⟩:Trm)=x:=by cases x;simp_all
  try rw[ex]
  apply a6<;>intro hb
  ·have h0:s1.err=0:=bK.1 (by simpa using hb);obtain⟨j,rfl⟩:∃m,j=m+1:=⟨j-1,by omega⟩;have hp:=da h0;obtain⟨gg,ea⟩:=hrd x s1 i1 h0 (by omega);have hbf:¬aY s1=true:=by simp[aY,h0]
   simp only[aV,N3 hbf]at i6;refine⟨⟨i1,h0,i3,by trivial,by trivial,by omega⟩,gg.good,a6 (fun c=>?_) (fun c=>?_)⟩
   ·rw[N6 c]at i6;subst i6;refine⟨trivial,aL c,?_⟩;exact Xr
   ·have c:isF e (ai (a7 n) x s1).2=false:=by simpa using c
    rw[N3 (by simp[c])]at i6;rw[aR c];obtain⟨n1,n2,n3,n4⟩:=fL hrd (btw:=b) (en:=e) (x:=x) i1 h0 (by omega) i2;refine⟨gg.good,(j,(ai (a7 n) x s1).1,aj b (ai (a7 n) x s1).2),⟨n1,n4,n3,by show(x.names++[_]).length+j<=5000;simp only[N5,Nc];omega,by show(x.parts++[_]).length+j<=5000;simp only[N5,Nc];omega,kv,ks,i6⟩,by show j<j+1;omega,?_⟩;exact Xr
  ·have h0:¬s1.err=0:=bY.1 (by simpa using hb);have hbf:aY s1=true:=bY.2 h0
   have:(x,s1)=fin:=by
    rw[<-i6]
    cases j with|zero=>rfl|succ j=>simp only[aV,N6 hbf]
   subst this;refine⟨trivial,rfl,?_⟩;exact Xr
theorem Ir(n:Nat)(k pp z:Int)(g q:Str)(us:List Trm)(b e:Str)(s:Par)(hi:a8 s)(hn:rem s<n)(hu:us.length<=1) :
  let A:=True;let B:=aA (a7 n);let C:=(ab b e B {kind:=k,pkg:=g,name:=q,n:=z,names:=[],vars:=[],shapes:=[],parts:=us,pos:=pp:Trm} s);let D:=(5000:Nat);a8 s/\if isF e s=true then A/\cA e s=C.2/\k=C.1.kind/\g=C.1.pkg/\q=C.1.name/\z=C.1.n/\us=C.1.parts/\pp=C.1.pos/\List.length us=List.length C.1.parts/\A else(∃(x:Nat×Trm×Par),(a8 x.2.2/\rem x.2.2<x.1/\rem x.2.2<n/\List.length x.2.1.parts+x.1<=D/\x.2.1.names=[]/\x.2.1.vars=[]/\x.2.1.shapes=[]/\aV b e B x.1 x.2.1 x.2.2=ab b e B {kind:=k,pkg:=g,name:=q,n:=z,names:=[],vars:=[],shapes:=[],parts:=us,pos:=pp:Trm} s)/\b=b/\e=e/\false=false/\cA e s=x.2.2/\k=x.2.1.kind/\g=x.2.1.pkg/\q=x.2.1.name/\z=x.2.1.n/\us=x.2.1.parts/\pp=x.2.1.pos/\List.length us=List.length x.2.1.parts/\A)/\∀(x:Nat×Trm×Par),let E:=a8 x.2.2;let F:=rem x.2.2<n;let G:=a7 n x.2.2;let H:=x.2.1.kind=C.1.kind;let I:=x.2.1.pkg=C.1.pkg;let J:=x.2.1.name=C.1.name;let K:=x.2.1.n=C.1.n;let L:=x.2.1.pos=C.1.pos;let M:=x.2.1.parts++[G.1];let N:=cA e G.2;E/\rem x.2.2<x.1/\F/\List.length x.2.1.parts+x.1<=D/\x.2.1.names=[]/\x.2.1.vars=[]/\x.2.1.shapes=[]/\aV b e B x.1 x.2.1 x.2.2=ab b e B {kind:=k,pkg:=g,name:=q,n:=z,names:=[],vars:=[],shapes:=[],parts:=us,pos:=pp:Trm} s->if(!aY x.2.2)=true then(E/\F/\List.length x.2.1.parts=List.length x.2.1.parts/\List.length x.2.1.parts<=(100000:Nat))/\a8 G.2/\if isF e G.2=true then A/\cA e G.2=C.2/\H/\I/\J/\K/\x.2.1.parts++[G.1]=C.1.parts/\L/\List.length M=List.length C.1.parts/\A else a8 N/\∃(y:Nat×Trm×Par),(a8 y.2.2/\rem y.2.2<y.1/\rem y.2.2<n/\List.length y.2.1.parts+y.1<=D/\y.2.1.names=[]/\y.2.1.vars=[]/\y.2.1.shapes=[]/\aV b e B y.1 y.2.1 y.2.2=ab b e B {kind:=k,pkg:=g,name:=q,n:=z,names:=[],vars:=[],shapes:=[],parts:=us,pos:=pp:Trm} s)/\y.1<x.1/\b=b/\e=e/\false=false/\aj b N=y.2.2/\x.2.1.kind=y.2.1.kind/\x.2.1.pkg=y.2.1.pkg/\x.2.1.name=y.2.1.name/\x.2.1.n=y.2.1.n/\x.2.1.parts++[G.1]=y.2.1.parts/\x.2.1.pos=y.2.1.pos/\List.length M=List.length y.2.1.parts/\A else A/\x.2.2=C.2/\H/\I/\J/\K/\x.2.1.parts=C.1.parts/\L/\List.length x.2.1.parts=List.length C.1.parts/\A:=by
 conv=>zeta
 have hl:=hi.2.2.1;have hF:ab b e (aA (a7 n)) ⟨k,g,q,z,[],[],[],us,pp⟩ s=if isF e s=true then(⟨k,g,q,z,[],[],[],us,pp⟩,aD s)else aV b e (aA (a7 n)) (s.toks.length+2) ⟨k,g,q,z,[],[],[],us,pp⟩ s:=rfl
 have hrd:ec (aA (a7 n)) (n-1):=dy (by rw[Ow (by omega)];exact dB n);generalize ab b e (aA (a7 n)) ⟨k,g,q,z,[],[],[],us,pp⟩ s=fin at hF⊢;refine⟨hi,a6 (fun h=>?_) (fun h=>?_)⟩
 ·rw[N6 h]at hF;subst hF;refine⟨trivial,aL h,?_⟩;exact Xr
 ·rw[N3 h]at hF;have h:isF e s=false:=by simpa using h
  rw[aR h];refine⟨⟨(s.toks.length+2,⟨k,g,q,z,[],[],[],us,pp⟩,s),⟨hi,by show rem s<_;have h1:=hi.1;have h2:=hi.2.1;unfold rem;split<;>omega,hn,by show us.length+_<=_;omega,rfl,rfl,rfl,hF.symm⟩,?_⟩,?_⟩
  ·exact Xr
  rintro⟨j,x,s1⟩ ⟨i1,i2,i3,lp,kn,kv,ks,i6⟩;simp only at i1 i2 i3 lp kn kv ks i6⊢;have ex:(⟨x.kind,x.pkg,x.name,x.n,[],[],[],x.parts,x.pos⟩:Trm)=x:=by cases x;simp_all
  try rw[ex]
  rw[show(a7 n s1).2=(aA (a7 n) x s1).2 from rfl];apply a6<;>intro hb
  ·have h0:s1.err=0:=bK.1 (by simpa using hb);obtain⟨j,rfl⟩:∃m,j=m+1:=⟨j-1,by omega⟩;have hp:=da h0;obtain⟨gg,ea⟩:=hrd x s1 i1 h0 (by omega);have hbf:¬aY s1=true:=by simp[aY,h0]
   simp only[aV,N3 hbf]at i6;refine⟨⟨i1,i3,by trivial,by omega⟩,gg.good,a6 (fun c=>?_) (fun c=>?_)⟩
   ·rw[N6 c]at i6;subst i6;refine⟨trivial,aL c,?_⟩;exact Xr
   ·have c:isF e (aA (a7 n) x s1).2=false:=by simpa using c
    rw[N3 (by simp[c])]at i6;rw[aR c];obtain⟨n1,n2,n3,n4⟩:=fL hrd (btw:=b) (en:=e) (x:=x) i1 h0 (by omega) i2;refine⟨gg.good,(j,(aA (a7 n) x s1).1,aj b (aA (a7 n) x s1).2),⟨n1,n4,by show rem (aj b _)<n;omega,by show(x.parts++[_]).length+j<=5000;simp only[N5,Nc];omega,kn,kv,ks,i6⟩,by show j<j+1;omega,?_⟩;exact Xr
  ·have h0:¬s1.err=0:=bY.1 (by simpa using hb);have hbf:aY s1=true:=bY.2 h0
   have:(x,s1)=fin:=by
    rw[<-i6]
    cases j with|zero=>rfl|succ j=>simp only[aV,N6 hbf]
   subst this;refine⟨trivial,rfl,?_⟩;exact Xr
theorem Kt(n:Nat)(s:Par) (ho:a8 s/\rem s<n+1) :
  let A:=(1:Nat);let B:=a7 n;let C:=an s;let D:=C.pos=C.pos;let E:=(0:Int);let F:=lH UInt8=lH UInt8;let G:=E=E/\F/\F/\E=E/\E=E/\True;let H:=([40]:Str);let I:=([44]:Str);let J:=([41]:Str);let K:=aA B;let L:=([46]:Str);let M:=(1:Int);let N:=fT B s;a8 s/\(a8 s/\rem s<n+A)/\(∃(x:Nat×Trm×Par),(a8 x.2.2/\rem x.2.2<x.1/\rem x.2.2<n+A/\dU B C.pos x.1 x.2.1 x.2.2=fT B s)/\D/\(cE B s).2=x.2.2/\(cE B s).1=x.2.1/\G)/\∀(x:Nat×Trm×Par),let O:=a8 x.2.2;let P:=cA H x.2.2;let Q:=[x.2.1];let R:=(ab I J K {kind:=(7:Int),pkg:=[],name:=[],n:=E,names:=[],vars:=[],shapes:=[],parts:=Q,pos:=C.pos:Trm} P);let S:=aM M (cA L P);let T:=x.2.1=N.1;O/\rem x.2.2<x.1/\rem x.2.2<n+A/\dU B C.pos x.1 x.2.1 x.2.2=fT B s->if(!aY x.2.2)=true then O/\if isF H x.2.2=true then(a8 P/\rem P<n/\List.length Q=List.length Q/\List.length Q<=A)/\∃(y:Nat×Trm×Par),(a8 y.2.2/\rem y.2.2<y.1/\rem y.2.2<n+A/\dU B C.pos y.1 y.2.1 y.2.2=fT B s)/\y.1<x.1/\D/\R.2=y.2.2/\R.1.kind=y.2.1.kind/\R.1.pkg=y.2.1.pkg/\R.1.name=y.2.1.name/\R.1.n=y.2.1.n/\y.2.1.names=[]/\y.2.1.vars=[]/\y.2.1.shapes=[]/\R.1.parts=y.2.1.parts/\R.1.pos=y.2.1.pos/\G else a8 P/\if isF L P=true then(a8 (cA L P)/\¬M=E)/\∃(y:Nat×Trm×Par),(a8 y.2.2/\rem y.2.2<y.1/\rem y.2.2<n+A/\dU B C.pos y.1 y.2.1 y.2.2=fT B s)/\y.1<x.1/\D/\S.2=y.2.2/\(9:Int)=y.2.1.kind/\[]=y.2.1.pkg/\S.1.text=y.2.1.name/\E=y.2.1.n/\y.2.1.names=[]/\y.2.1.vars=[]/\y.2.1.shapes=[]/\Q=y.2.1.parts/\C.pos=y.2.1.pos/\G else True/\T/\cA L P=N.2/\True else True/\T/\x.2.2=N.2/\True:=by
 conv=>zeta
 have hR:=dB n;have hr4:=nT ho.1;have ha:=nU hR ho.1 ho.2;have hpF:fT (a7 n) s=dU (a7 n) (an s).pos (s.toks.length+2) (cE (a7 n) s).1 (cE (a7 n) s).2:=rfl;generalize fT (a7 n) s=fin at hpF⊢;generalize (an s).pos=p at hpF⊢;have hq:rem (cE (a7 n) s).2<s.toks.length+2:=by have h1:=ha.good.1;have h2:=ha.good.2.1;have h3:=ha.goes.toks;rw[h3]at h2;unfold rem;rw[h3];split<;>omega
 have hq2:=ha.goes.le;have hg:=ha.good;have ho2:=ho.2;refine⟨ho.1,ho,⟨(s.toks.length+2,(cE (a7 n) s).1,(cE (a7 n) s).2),⟨hg,hq,by show rem (cE (a7 n) s).2<_;omega,hpF.symm⟩,?_⟩,?_⟩
 ·exact Xr
 rintro⟨j,t,s1⟩ ⟨i1,i2,i3,i4⟩;simp only at i1 i2 i3 i4⊢;apply a6<;>intro hb
 ·have hbf:aY s1=false:=by simpa using hb
  obtain⟨j,rfl⟩:∃m,j=m+1:=⟨j-1,by omega⟩;simp only[dU,hbf,NC,ND]at i4;refine⟨i1,a6 (fun c=>?_) (fun c=>?_)⟩
  ·rw[N6 c]at i4;rw[aL c];have m:=aO i1 c;have r:=aW i1 c;have hp:=da (dV c).2
   have hRp:ec (aA (a7 n)) (n-1):=dy (by
    by_cases h:n=0
    ·subst h;omega
    ·rw[Ow (by omega)];exact hR)
   have hn1:rem (aD s1)<n:=by omega
   have g:=bf hRp [44] [41] (⟨7,[],[],0,[],[],[],[t],p⟩:Trm) m.good (by omega);have kn:=cw (fun x:Trm=>x.names=[]) (one:=aA (a7 n)) (fun x s h=>h) [44] [41] (x:=⟨7,[],[],0,[],[],[],[t],p⟩) (aD s1) rfl;have kv:=cw (fun x:Trm=>x.vars=[]) (one:=aA (a7 n)) (fun x s h=>h) [44] [41] (x:=⟨7,[],[],0,[],[],[],[t],p⟩) (aD s1) rfl;have ks:=cw (fun x:Trm=>x.shapes=[]) (one:=aA (a7 n)) (fun x s h=>h) [44] [41] (x:=⟨7,[],[],0,[],[],[],[t],p⟩) (aD s1) rfl;generalize ab [44] [41] (aA (a7 n)) (⟨7,[],[],0,[],[],[],[t],p⟩:Trm) (aD s1)=L at i4 g kn kv ks⊢;have gl:=g.le;refine⟨⟨m.good,hn1,by trivial,by simp⟩,(j,L.1,L.2),⟨g.good,by show rem L.2<j;omega,by show rem L.2<n+1;omega,i4⟩,by show j<j+1;omega,?_⟩
   repeat (first|exact trivial|refine⟨by first|rfl|trivial|exact kn|exact kv|exact ks,?_⟩)
  ·rw[N3 c]at i4;have c:isF [40] s1=false:=by simpa using c
   rw[aR c];refine⟨i1,a6 (fun d=>?_) (fun d=>?_)⟩
   ·rw[N6 d]at i4;rw[aL d];have m:=aO i1 d;have r:=aW i1 d;have k:=bU (k:=1) m.good (by decide);have kl:=k.goes.le;refine⟨⟨m.good,by decide⟩,(j,_,_),⟨k.good,by show rem (aM 1 (aD s1)).2<j;omega,by show rem (aM 1 (aD s1)).2<n+1;omega,i4⟩,by show j<j+1;omega,?_⟩;exact Xr
   ·rw[N3 d]at i4;have d:isF [46] s1=false:=by simpa using d
    rw[aR d];subst i4;exact Xr
 ·have hbf:aY s1=true:=by simpa using hb
  have:(t,s1)=fin:=by
   rw[<-i4]
   cases j with|zero=>rfl|succ j=>simp only[dU,N6 hbf]
  subst this;exact Xr
theorem Ku(n:Nat)(s:Par) (ho:a8 s/\rem s<n+1) :
  let A:=True;let B:=(0:Int);let C:=a7 n;let D:=cE C s;let E:=B=D.1.kind;let F:=[]=D.1.pkg;let G:=[]=D.1.name;let H:=B=D.1.n;let I:=D.1.names=[];let J:=D.1.vars=[];let K:=D.1.shapes=[];let L:=D.1.parts=[];let M:=an s;let N:=M.pos=D.1.pos;let O:=(1:Int);let P:=inR IntKind.i64 (s.pos+O);let Q:=I/\J/\K/\L/\N/\s.toks=D.2.toks/\s.pos+O=D.2.pos/\s.err=D.2.err/\s.fat=D.2.fat/\A;let R:=(2:Int);let S:=M.text=D.1.name;let T:=([47]:Str);let U:=(cA T {toks:=s.toks,pos:=s.pos+O,err:=s.err,fat:=s.fat:Par});let V:=(5:Int)=D.1.kind;let W:=([116,114,117,101]:Str);let X:=cA W s;let Y:=([102,97,108,115,101]:Str);let Z:=cA Y X;let a:=([40]:Str);let b:=cA a Z;let c:=a7 n b;let d:=([97,115]:Str);let e:=cA d c.2;let f:=bw e;let g:=(cA ([123]:Str) b);let h:=(ab ([44]:Str) ([125]:Str) (ai C) {kind:=(8:Int),pkg:=[],name:=[],n:=B,names:=[],vars:=[],shapes:=[],parts:=[],pos:=M.pos:Trm} g);let i:=(cA ([64]:Str) g);let j:=aM O i;let k:=cz C j.2;let l:=([110,101,119]:Str);let m:=cA l i;let o:=aM R m;let p:=cz C o.2;let q:=([114,97,119]:Str);let r:=cA q m;let t:=aM R r;let u:=cz C t.2;a8 s/\if aY s=true then A/\E/\F/\G/\H/\I/\J/\K/\L/\N/\s=D.2/\A else if decide (M.kind=(3:Int))=true then P/\kz M.text/\A/\O=D.1.kind/\F/\G/\im M.text=D.1.n/\Q else if decide (M.kind=(4:Int))=true then P/\A/\R=D.1.kind/\F/\S/\H/\Q else if decide (M.kind=O)=true then P/\a8 {toks:=s.toks,pos:=s.pos+O,err:=s.err,fat:=s.fat:Par}/\if isF T {toks:=s.toks,pos:=s.pos+O,err:=s.err,fat:=s.fat:Par}=true then(a8 U/\¬O=B)/\A/\V/\M.text=D.1.pkg/\(aM O U).1.text=D.1.name/\H/\I/\J/\K/\L/\N/\(aM O U).2=D.2/\A else A/\V/\F/\S/\H/\I/\J/\K/\L/\N/\cA T {toks:=s.toks,pos:=s.pos+O,err:=s.err,fat:=s.fat:Par}=D.2/\A else a8 s/\if isF W s=true then A/\(3:Int)=D.1.kind/\F/\G/\H/\I/\J/\K/\L/\N/\cA W s=D.2/\A else a8 X/\if isF Y X=true then A/\(4:Int)=D.1.kind/\F/\G/\H/\I/\J/\K/\L/\N/\cA Y X=D.2/\A else a8 Z/\if isF a Z=true then(a8 b/\rem b<n)/\a8 c.2/\if(!isF d c.2)=true then a8 e/\A/\c.1=D.1/\aj ([41]:Str) e=D.2/\A else a8 e/\a8 f.2/\A/\(15:Int)=D.1.kind/\F/\G/\H/\I/\J/\[f.1]=D.1.shapes/\[c.1]=D.1.parts/\N/\aj ([41]:Str) f.2=D.2/\A else a8 b/\if isF ([123]:Str) b=true then(a8 g/\rem g<=n)/\A/\h.1.kind=D.1.kind/\h.1.pkg=D.1.pkg/\h.1.name=D.1.name/\h.1.n=D.1.n/\h.1.names=D.1.names/\J/\K/\h.1.parts=D.1.parts/\h.1.pos=D.1.pos/\h.2=D.2/\A else a8 g/\if isF ([64]:Str) g=true then(a8 i/\¬O=B)/\(a8 j.2/\rem (aj a j.2)<n)/\A/\(10:Int)=D.1.kind/\F/\j.1.text=D.1.name/\H/\I/\J/\K/\k.1=D.1.parts/\N/\k.2=D.2/\A else a8 i/\if isF l i=true then(a8 m/\¬R=B)/\(a8 o.2/\rem (aj a o.2)<n)/\A/\(16:Int)=D.1.kind/\F/\o.1.text=D.1.name/\H/\I/\J/\K/\p.1=D.1.parts/\N/\p.2=D.2/\A else a8 m/\if isF q m=true then(a8 r/\¬R=B)/\(a8 t.2/\rem (aj a t.2)<n)/\A/\(17:Int)=D.1.kind/\F/\t.1.text=D.1.name/\H/\I/\J/\K/\u.1=D.1.parts/\N/\u.2=D.2/\A else A/\E/\F/\G/\H/\I/\J/\K/\L/\N/\cC (90:Int) M.pos r=D.2/\A:=by
 conv=>zeta
 obtain⟨hi,hn⟩:=ho;obtain⟨G,hG⟩:∃G,G=cE (a7 n) s:=⟨_,rfl⟩;rw[<-hG];unfold cE at hG;have i1:=hi.1;have i2:=hi.2.2.1;have hR:=dB n;refine⟨hi,a6 (fun b=>?_) (fun b=>?_)⟩
 ·rw[N6 b]at hG;subst hG;exact Xr
 rw[N3 b]at hG;have b:aY s=false:=by simpa using b
 apply a6<;>intro k
 ·replace k:=Xo k;rw[N6 k]at hG;subst hG;have hl:=gV (l:=s.toks) (a:=s.pos) (by unfold an at k;omega);have hm:an s∈s.toks:=by unfold an dP;rw[N6 hl];exact bT s.toks s.pos.toNat (dfl (.st .token)) (by omega)
  refine⟨aK (by omega) (by omega),hi.2.2.2 _ hm k,?_⟩;exact Xr
 replace k:¬(an s).kind=3:=fun e=>k (Xd e);rw[N3 k]at hG;apply a6<;>intro k
 ·replace k:=Xo k;rw[N6 k]at hG;subst hG;have hl:=gV (l:=s.toks) (a:=s.pos) (by unfold an at k;omega);refine⟨aK (by omega) (by omega),?_⟩;exact Xr
 replace k:¬(an s).kind=4:=fun e=>k (Xd e);rw[N3 k]at hG;apply a6<;>intro k
 ·replace k:=Xo k;rw[N6 k]at hG;have hl:=gV (l:=s.toks) (a:=s.pos) (by unfold an at k;omega);have m:=(jj hi (by decide) k b).1;refine⟨aK (by omega) (by omega),m.good,?_⟩;show(if isF [47] (aD s)=true then _ else _);apply a6<;>intro c
  ·rw[N6 c]at hG;subst hG;have m2:=aO m.good c;have e:cA [47] (⟨s.toks,s.pos+1,s.err,s.fat⟩:Par)=aD (aD s):=aL c;rw[e];refine⟨⟨m2.good,by decide⟩,?_⟩;exact Xr
  ·rw[N3 c]at hG;subst hG;have c:isF [47] (aD s)=false:=by simpa using c
   have e:cA [47] (⟨s.toks,s.pos+1,s.err,s.fat⟩:Par)=aD s:=aR c;rw[e];exact Xr
 replace k:¬(an s).kind=1:=fun e=>k (Xd e);rw[N3 k]at hG;refine⟨hi,a6 (fun c=>?_) (fun c=>?_)⟩;rotate_left
 ·rw[N3 c]at hG;have c:isF [116,114,117,101] s=false:=by simpa using c
  rw[aR c];refine⟨hi,a6 (fun c=>?_) (fun c=>?_)⟩;rotate_left
  ·rw[N3 c]at hG;have c:isF [102,97,108,115,101] s=false:=by simpa using c
   rw[aR c];refine⟨hi,a6 (fun c=>?_) (fun c=>?_)⟩;rotate_left
   ·rw[N3 c]at hG;have c:isF [40] s=false:=by simpa using c
    rw[aR c];refine⟨hi,a6 (fun c=>?_) (fun c=>?_)⟩;rotate_left
    ·rw[N3 c]at hG;have c:isF [123] s=false:=by simpa using c
     rw[aR c];refine⟨hi,a6 (fun c=>?_) (fun c=>?_)⟩;rotate_left
     ·rw[N3 c]at hG;have c:isF [64] s=false:=by simpa using c
      rw[aR c];refine⟨hi,a6 (fun c=>?_) (fun c=>?_)⟩;rotate_left
      ·rw[N3 c]at hG;have c:isF [110,101,119] s=false:=by simpa using c
       rw[aR c];refine⟨hi,a6 (fun c=>?_) (fun c=>?_)⟩;rotate_left
       ·rw[N3 c]at hG;have c:isF [114,97,119] s=false:=by simpa using c
        rw[aR c];subst hG;exact Xr
       rw[N6 c]at hG;have m:=aO hi c;have r:=aW hi c;rw[aL c];subst hG;have a:=bU (k:=2) m.good (by decide);have al:=a.goes.le;have b:=(ay (t:=[40]) a.good).goes.le;refine⟨⟨m.good,by decide⟩,⟨a.good,by omega⟩,?_⟩;exact Xr
      rw[N6 c]at hG;have m:=aO hi c;have r:=aW hi c;rw[aL c];subst hG;have a:=bU (k:=2) m.good (by decide);have al:=a.goes.le;have b:=(ay (t:=[40]) a.good).goes.le;refine⟨⟨m.good,by decide⟩,⟨a.good,by omega⟩,?_⟩;exact Xr
     rw[N6 c]at hG;have m:=aO hi c;have r:=aW hi c;rw[aL c];subst hG;have a:=bU (k:=1) m.good (by decide);have al:=a.goes.le;have b:=(ay (t:=[40]) a.good).goes.le;refine⟨⟨m.good,by decide⟩,⟨a.good,by omega⟩,?_⟩;exact Xr
    rw[N6 c]at hG;have m:=aO hi c;have r:=aW hi c;rw[aL c];have hx:(⟨8,[],[],0,[],[],[],[],(an s).pos⟩:Trm).vars=[]/\(⟨8,[],[],0,[],[],[],[],(an s).pos⟩:Trm).shapes=[]:=⟨rfl,rfl⟩;have kv:=cw (fun x:Trm=>x.vars=[]) (one:=ai (a7 n)) (fun x s h=>h) [44] [125] (x:=⟨8,[],[],0,[],[],[],[],(an s).pos⟩) (aD s) rfl;have ks:=cw (fun x:Trm=>x.shapes=[]) (one:=ai (a7 n)) (fun x s h=>h) [44] [125] (x:=⟨8,[],[],0,[],[],[],[],(an s).pos⟩) (aD s) rfl;rw[<-hG]at kv ks⊢;refine⟨⟨m.good,by omega⟩,?_⟩
    repeat (first|exact trivial|refine⟨by first|rfl|trivial|exact kv|exact ks,?_⟩)
   rw[N6 c]at hG;have m:=aO hi c;have r:=aW hi c;rw[aL c];have a:=hR.moves m.good (by omega);refine⟨⟨m.good,by omega⟩,a.good,a6 (fun d=>?_) (fun d=>?_)⟩
   ·have d:isF [97,115] (a7 n (aD s)).2=false:=by simpa using d
    rw[aR d];rw[N3 (by simp[d])]at hG;subst hG;refine⟨a.good,?_⟩;exact Xr
   ·have d:isF [97,115] (a7 n (aD s)).2=true:=by simpa using d
    rw[aL d];rw[N6 d]at hG;subst hG;have a2:=aO a.good d;refine⟨a2.good,(iq a2.good).good,?_⟩;exact Xr
  rw[N6 c]at hG;have m:=aO hi c;have r:=aW hi c;rw[aL c];subst hG;exact Xr
 rw[N6 c]at hG;have m:=aO hi c;have r:=aW hi c;rw[aL c];subst hG;exact Xr
theorem Kv(n:Nat)(s:Par) (ho:a8 s/\rem s<n+1) :
  let A:=([102,117,110]:Str);let B:=cA A s;let C:=(aj ([40]:Str) B);let D:=(0:Int);let E:=(ab ([44]:Str) ([41]:Str) aC {kind:=(6:Int),pkg:=[],name:=[],n:=D,names:=[],vars:=[],shapes:=[],parts:=[],pos:=(an s).pos:Trm} C);let F:=(aj ([45,62]:Str) E.2);let G:=(100000:Nat);let H:=True;let I:=(1:Nat);let J:=a7 (n+I) s;let K:=J.1.vars=[];let L:=([108,101,116]:Str);let M:=cA L B;let N:=(aM (1:Int) M);let O:=(aj ([61]:Str) N.2);let P:=a7 n O;let Q:=(aj ([105,110]:Str) P.2);let R:=[]++[P.1];let S:=[]=J.1.pkg;let T:=J.1.names=[];let U:=(an s).pos=J.1.pos;let V:=([105,102]:Str);let W:=cA V M;let X:=a7 n W;let Y:=(aj ([116,104,101,110]:Str) X.2);let Z:=[X.1];let a:=[]++Z;let b:=a7 n Y;let c:=(aj ([101,108,115,101]:Str) b.2);let d:=[]++Z++[b.1];let e:=a7 n c;let f:=[]++Z++[b.1]++[e.1];let g:=([97,115]:Str);let h:=bw (aj g e.2);let i:=([99,97,115,101]:Str);let j:=cA i W;let k:=a7 n j;let l:=([111,102]:Str);let m:=aj l k.2;let o:=(aj ([123]:Str) m);let p:=[]++[k.1];let q:=a7 n;let r:=(ab ([124]:Str) ([125]:Str) (ak q) {kind:=(13:Int),pkg:=[],name:=[],n:=D,names:=[],vars:=[],shapes:=[],parts:=[]++[k.1],pos:=(an s).pos:Trm} o);let t:=bw (aj g r.2);let u:=(cA ([91]:Str) j);let v:=(ab ([44]:Str) ([93]:Str) (aA q) {kind:=(11:Int),pkg:=[],name:=[],n:=D,names:=[],vars:=[],shapes:=[],parts:=[],pos:=(an s).pos:Trm} u);let w:=bw (aj l v.2);a8 s/\a8 s/\if isF A s=true then a8 B/\(a8 C/\rem C<=n)/\a8 E.2/\(a8 F/\rem F<n/\List.length E.1.names=List.length E.1.names/\List.length E.1.shapes=List.length E.1.shapes/\List.length E.1.names+List.length E.1.shapes<=G)/\H/\E.1.kind=J.1.kind/\E.1.pkg=J.1.pkg/\E.1.name=J.1.name/\E.1.n=J.1.n/\E.1.names=J.1.names/\K/\E.1.shapes=J.1.shapes/\[]++[(a7 n F).1]=J.1.parts/\E.1.pos=J.1.pos/\(a7 n F).2=J.2/\H else a8 B/\if isF L B=true then(a8 M/\¬(1:Int)=D)/\a8 N.2/\(a8 O/\rem O<n)/\a8 P.2/\(a8 Q/\rem Q<n/\List.length R=List.length R/\List.length R<=G)/\H/\(14:Int)=J.1.kind/\S/\N.1.text=J.1.name/\D=J.1.n/\T/\K/\J.1.shapes=[]/\[]++[P.1]++[(a7 n Q).1]=J.1.parts/\U/\(a7 n Q).2=J.2/\H else a8 M/\if isF V M=true then(a8 W/\rem W<n)/\a8 X.2/\(a8 Y/\rem Y<n/\List.length a=List.length a/\List.length a<=G)/\a8 b.2/\(a8 c/\rem c<n/\List.length d=List.length d/\List.length d<=G)/\(a8 e.2/\List.length f=List.length f/\List.length f<=G)/\H/\(12:Int)=J.1.kind/\S/\[]=J.1.name/\D=J.1.n/\T/\K/\[]++[h.1]=J.1.shapes/\[]++Z++[b.1]++[e.1]=J.1.parts/\U/\h.2=J.2/\H else a8 W/\if isF i W=true then(a8 j/\rem j<n)/\a8 k.2/\a8 m/\(a8 o/\rem o<=n/\List.length p=List.length p/\List.length p<=I)/\(a8 r.2/\List.length r.1.names=List.length r.1.names/\List.length r.1.vars=List.length r.1.vars/\List.length r.1.shapes=List.length r.1.shapes/\List.length r.1.parts=List.length r.1.parts/\List.length r.1.names+List.length r.1.vars+List.length r.1.shapes+List.length r.1.parts<=G)/\H/\r.1.kind=J.1.kind/\r.1.pkg=J.1.pkg/\r.1.name=J.1.name/\r.1.n=J.1.n/\r.1.names=J.1.names/\r.1.vars=J.1.vars/\r.1.shapes++[t.1]=J.1.shapes/\r.1.parts=J.1.parts/\r.1.pos=J.1.pos/\t.2=J.2/\H else a8 j/\if isF ([91]:Str) j=true then(a8 u/\rem u<n)/\(a8 v.2/\List.length v.1.parts=List.length v.1.parts/\List.length v.1.parts<=G)/\H/\v.1.kind=J.1.kind/\v.1.pkg=J.1.pkg/\v.1.name=J.1.name/\v.1.n=J.1.n/\T/\K/\[]++[w.1]=J.1.shapes/\v.1.parts=J.1.parts/\v.1.pos=J.1.pos/\w.2=J.2/\H else(a8 u/\rem u<n+I)/\H/\(fT q u).1=J.1/\(fT q u).2=J.2/\H:=by
 conv=>zeta
 obtain⟨hi,hn⟩:=ho;obtain⟨G,hG⟩:∃G,G=fC (a7 n) s:=⟨_,rfl⟩;rw[show a7 (n+1) s=G from hG.symm];unfold fC at hG;have hl:=hi.2.2.1;have hR:=dB n;refine⟨hi,?_⟩;refine⟨hi,a6 (fun c=>?_) (fun c=>?_)⟩;rotate_left
 ·rw[N3 c]at hG;have c:isF [102,117,110] s=false:=by simpa using c
  rw[aR c];refine⟨hi,a6 (fun c=>?_) (fun c=>?_)⟩;rotate_left
  ·rw[N3 c]at hG;have c:isF [108,101,116] s=false:=by simpa using c
   rw[aR c];refine⟨hi,a6 (fun c=>?_) (fun c=>?_)⟩;rotate_left
   ·rw[N3 c]at hG;have c:isF [105,102] s=false:=by simpa using c
    rw[aR c];refine⟨hi,a6 (fun c=>?_) (fun c=>?_)⟩;rotate_left
    ·rw[N3 c]at hG;have c:isF [99,97,115,101] s=false:=by simpa using c
     rw[aR c];refine⟨hi,a6 (fun c=>?_) (fun c=>?_)⟩;rotate_left
     ·rw[N3 c]at hG;have c:isF [91] s=false:=by simpa using c
      rw[aR c];refine⟨⟨hi,hn⟩,?_⟩;subst hG;exact Xr
     rw[N6 c]at hG;have m:=aO hi c;have r:=aW hi c;rw[aL c]
     have hRp:ec (aA (a7 n)) (n-1):=dy (by
      have hp:=da (dV c).2;by_cases h:n=0
      ·subst h;have:=aW hi c;have h5:rem (aD s)=0:=by omega
       omega
      ·rw[Ow (by omega)];exact hR)
     have hn1:rem (aD s)<n:=by omega
     have ht:=m.goes.toks;have g:=bf hRp [44] [93] (⟨11,[],[],0,[],[],[],[],(an s).pos⟩:Trm) m.good (by omega);have kn:=cw (fun x:Trm=>x.names=[]) (one:=aA (a7 n)) (fun x s h=>h) [44] [93] (x:=(⟨11,[],[],0,[],[],[],[],(an s).pos⟩:Trm)) (aD s) rfl;have kv:=cw (fun x:Trm=>x.vars=[]) (one:=aA (a7 n)) (fun x s h=>h) [44] [93] (x:=(⟨11,[],[],0,[],[],[],[],(an s).pos⟩:Trm)) (aD s) rfl;have ks:=cw (fun x:Trm=>x.shapes=[]) (one:=aA (a7 n)) (fun x s h=>h) [44] [93] (x:=(⟨11,[],[],0,[],[],[],[],(an s).pos⟩:Trm)) (aD s) rfl;have lp:=dK (fun x:Trm=>x.parts.length) (one:=aA (a7 n)) (fun x s=>by simp[aA,ca,aC,eQ,bd,bR,ak,df]) [44] [93] (⟨11,[],[],0,[],[],[],[],(an s).pos⟩:Trm) (aD s);replace hG:G=eQ [111,102] (ab [44] [93] (aA (a7 n)) (⟨11,[],[],0,[],[],[],[],(an s).pos⟩:Trm) (aD s)).1 (ab [44] [93] (aA (a7 n)) (⟨11,[],[],0,[],[],[],[],(an s).pos⟩:Trm) (aD s)).2:=hG;generalize ab [44] [93] (aA (a7 n)) (⟨11,[],[],0,[],[],[],[],(an s).pos⟩:Trm) (aD s)=L at hG g kn kv ks lp⊢;subst hG;simp only[ht,Na]at lp;refine⟨⟨m.good,hn1⟩,⟨g.good,by trivial,by omega⟩,?_⟩
     repeat (first|exact trivial|refine⟨by first|rfl|trivial|exact kn|exact kv|exact ks|exact kp|(show[]++[_]=L.1.parts++[_];rw[kp])|(show[]++[_]=L.1.shapes++[_];rw[ks]),?_⟩)
    rw[N6 c]at hG;have m:=aO hi c;have r:=aW hi c;rw[aL c];have a:=hR.moves m.good (by omega);have al:=a.goes.le;have b:=ay (t:=[111,102]) a.good;have bl:=b.goes.le;have d:=ay (t:=[123]) b.good;have dl:=d.goes.le;have ht:=(((m.then a).then b).then d).goes.toks;have g:=bf (kA hR) [124] [125] (⟨13,[],[],0,[],[],[],[]++[(a7 n (aD s)).1],(an s).pos⟩:Trm) d.good (by omega);have ln:=dK (fun x:Trm=>x.names.length) (one:=ak (a7 n)) (fun x s=>by simp[aA,ca,aC,eQ,bd,bR,ak,df]) [124] [125] (⟨13,[],[],0,[],[],[],[]++[(a7 n (aD s)).1],(an s).pos⟩:Trm) (aj [123] (aj [111,102] (a7 n (aD s)).2));have lv:=dK (fun x:Trm=>x.vars.length) (one:=ak (a7 n)) (fun x s=>by simp[aA,ca,aC,eQ,bd,bR,ak,df]) [124] [125] (⟨13,[],[],0,[],[],[],[]++[(a7 n (aD s)).1],(an s).pos⟩:Trm) (aj [123] (aj [111,102] (a7 n (aD s)).2));have ls:=dK (fun x:Trm=>x.shapes.length) (one:=ak (a7 n)) (fun x s=>by simp[aA,ca,aC,eQ,bd,bR,ak,df]) [124] [125] (⟨13,[],[],0,[],[],[],[]++[(a7 n (aD s)).1],(an s).pos⟩:Trm) (aj [123] (aj [111,102] (a7 n (aD s)).2));have lp:=dK (fun x:Trm=>x.parts.length) (one:=ak (a7 n)) (fun x s=>by simp[aA,ca,aC,eQ,bd,bR,ak,df]) [124] [125] (⟨13,[],[],0,[],[],[],[]++[(a7 n (aD s)).1],(an s).pos⟩:Trm) (aj [123] (aj [111,102] (a7 n (aD s)).2))
    replace hG:G=eQ [97,115] (ab [124] [125] (ak (a7 n)) (⟨13,[],[],0,[],[],[],[]++[(a7 n (aD s)).1],(an s).pos⟩:Trm) (aj [123] (aj [111,102] (a7 n (aD s)).2))).1 (ab [124] [125] (ak (a7 n)) (⟨13,[],[],0,[],[],[],[]++[(a7 n (aD s)).1],(an s).pos⟩:Trm) (aj [123] (aj [111,102] (a7 n (aD s)).2))).2:=hG;generalize ab [124] [125] (ak (a7 n)) (⟨13,[],[],0,[],[],[],[]++[(a7 n (aD s)).1],(an s).pos⟩:Trm) (aj [123] (aj [111,102] (a7 n (aD s)).2))=L at hG g ln lv ls lp⊢;subst hG;simp only[ht,Na,N5,Nc]at ln lv ls lp;refine⟨⟨m.good,by omega⟩,a.good,b.good,⟨d.good,by omega,by trivial,by simp⟩,⟨g.good,by trivial,by trivial,by trivial,by trivial,by omega⟩,?_⟩;exact Xr
   rw[N6 c]at hG;have m:=aO hi c;have r:=aW hi c;rw[aL c];replace hG:G=eQ [97,115] (aA (a7 n) (aA (a7 n) (aA (a7 n) ⟨12,[],[],0,[],[],[],[],(an s).pos⟩ (aD s)).1 (aj [116,104,101,110] (a7 n (aD s)).2)).1 (aj [101,108,115,101] (a7 n (aj [116,104,101,110] (a7 n (aD s)).2)).2)).1 (a7 n (aj [101,108,115,101] (a7 n (aj [116,104,101,110] (a7 n (aD s)).2)).2)).2:=hG;subst hG;have a:=hR.moves m.good (by omega);have al:=a.goes.le;have b:=ay (t:=[116,104,101,110]) a.good;have bl:=b.goes.le;have d:=hR.moves b.good (by omega);have dl:=d.goes.le;have e:=ay (t:=[101,108,115,101]) d.good;have el:=e.goes.le;have f:=hR.moves e.good (by omega);refine⟨⟨m.good,by omega⟩,a.good,⟨b.good,by omega,by trivial,by simp⟩,d.good,⟨e.good,by omega,by trivial,by simp⟩,⟨f.good,by trivial,by simp⟩,?_⟩;exact Xr
  rw[N6 c]at hG;have m:=aO hi c;have r:=aW hi c;rw[aL c];replace hG:G=aA (a7 n) (aA (a7 n) ⟨14,[],(aM 1 (aD s)).1.text,0,[],[],[],[],(an s).pos⟩ (aj [61] (aM 1 (aD s)).2)).1 (aj [105,110] (a7 n (aj [61] (aM 1 (aD s)).2)).2):=hG;subst hG;have a:=bU (k:=1) m.good (by decide);have al:=a.goes.le;have b:=ay (t:=[61]) a.good;have bl:=b.goes.le;have d:=hR.moves b.good (by omega);have dl:=d.goes.le;have e:=ay (t:=[105,110]) d.good;have el:=e.goes.le;refine⟨⟨m.good,by decide⟩,a.good,⟨b.good,by omega⟩,d.good,⟨e.good,by omega,by trivial,by simp⟩,?_⟩;exact Xr
 rw[N6 c]at hG;have m:=aO hi c;have r:=aW hi c;rw[aL c];have a:=ay (t:=[40]) m.good;have al:=a.goes.le;have ht:=(m.then a).goes.toks;have g:=bf (iW n) [44] [41] (⟨6,[],[],0,[],[],[],[],(an s).pos⟩:Trm) a.good (by omega);have ln:=dK (fun x:Trm=>x.names.length) (one:=aC) (fun x s=>by simp[aA,ca,aC,eQ,bd,bR,ak,df]) [44] [41] (⟨6,[],[],0,[],[],[],[],(an s).pos⟩:Trm) (aj [40] (aD s));have ls:=dK (fun x:Trm=>x.shapes.length) (one:=aC) (fun x s=>by simp[aA,ca,aC,eQ,bd,bR,ak,df]) [44] [41] (⟨6,[],[],0,[],[],[],[],(an s).pos⟩:Trm) (aj [40] (aD s));have kv:=cw (fun x:Trm=>x.vars=[]) (one:=aC) (fun x s h=>h) [44] [41] (x:=(⟨6,[],[],0,[],[],[],[],(an s).pos⟩:Trm)) (aj [40] (aD s)) rfl;have kp:=cw (fun x:Trm=>x.parts=[]) (one:=aC) (fun x s h=>h) [44] [41] (x:=(⟨6,[],[],0,[],[],[],[],(an s).pos⟩:Trm)) (aj [40] (aD s)) rfl;replace hG:G=aA (a7 n) (ab [44] [41] aC (⟨6,[],[],0,[],[],[],[],(an s).pos⟩:Trm) (aj [40] (aD s))).1 (aj [45,62] (ab [44] [41] aC (⟨6,[],[],0,[],[],[],[],(an s).pos⟩:Trm) (aj [40] (aD s))).2):=hG;generalize ab [44] [41] aC (⟨6,[],[],0,[],[],[],[],(an s).pos⟩:Trm) (aj [40] (aD s))=L at hG g ln ls kv kp⊢;subst hG;simp only[ht,Na]at ln ls;have gl:=g.le;have b:=ay (t:=[45,62]) g.good;have bl:=b.goes.le;refine⟨m.good,⟨a.good,by omega⟩,g.good,⟨b.good,by omega,by trivial,by trivial,by omega⟩,?_⟩
 repeat (first|exact trivial|refine⟨by first|rfl|trivial|exact kn|exact kv|exact ks|exact kp|(show[]++[_]=L.1.parts++[_];rw[kp])|(show[]++[_]=L.1.shapes++[_];rw[ks]),?_⟩)
theorem Is(l:List Tokn)(a:Int)(hl:Wf (.lst (.st .token)) l) :
  let A:=(0:Int);let B:=True;let C:=B/\cC (2:Int) A {toks:=l,pos:=a,err:=A,fat:=A:Par}=aZ l a/\B;let D:=(↑(List.length l):Int);let E:=aZ l a;if decide (a<A)=true then C else if decide (D<a)=true then C else if decide ((4097:Int)<D)=true then B/\cC (3:Int) A {toks:=l,pos:=a,err:=A,fat:=A:Par}=aZ l a/\B else B/\l=E.toks/\a=E.pos/\A=E.err/\A=E.fat/\B:=by
 conv=>zeta
 have hn:=hl.len;apply a6<;>intro h
 ·replace h:=Xo h;have e:aZ l a=⟨l,a,2,0⟩:=by unfold aZ;rw[N6 (.inl h)]
  rw[e];exact Xr
 replace h:¬a<0:=fun e=>h (Xd e);apply a6<;>intro k
 ·replace k:=Xo k;have e:aZ l a=⟨l,a,2,0⟩:=by unfold aZ;rw[N6 (.inr k)]
  rw[e];exact Xr
 replace k:¬(l.length:Int)<a:=fun e=>k (Xd e);have hb:¬(a<0∨(l.length:Int)<a):=fun e=>e.elim h k;apply a6<;>intro d
 ·replace d:=Xo d;have e:aZ l a=⟨l,a,3,0⟩:=by unfold aZ;rw[N3 hb,N6 (by omega)]
  rw[e];exact Xr
 ·replace d:¬(4097:Int)<(l.length:Int):=fun e=>d (Xd e);have e:aZ l a=⟨l,a,0,0⟩:=by unfold aZ;rw[N3 hb,N3 (by omega)]
  rw[e];exact Xr
theorem F2(l:List Tokn)(a:Int)(hl:Wf (.lst (.st .token)) l)(ho:0<=a/\a<(l.length:Int)) :
  let A:=(↑(List.length l):Int);let B:=(0:Int);let C:=cM l a;inR IntKind.i64 (A-(1:Int))/\if(!decide (a=A-(1:Int)))=true then(B<=a/\a<A)/\True/\(90:Int)=C.err/\(List.getD l (Int.toNat a) (dfl (Ty.st SN.token))).pos=C.pos/\True else True/\B=C.err/\B=C.pos/\True:=by
 conv=>zeta
 have hn:=hl.len;refine⟨aK (by omega) (by omega),a6 (fun h=>?_) (fun h=>?_)⟩
 ·have h:¬a=(l.length:Int)-1:=by simpa using h
  unfold cM;rw[N3 h];refine⟨ho,?_⟩;exact Xr
 ·have h:a=(l.length:Int)-1:=by simpa using h
  unfold cM;rw[N6 h];exact Xr
theorem Kw(l:List Tokn)(a:Int)(hN:qW l) :
  let A:=aZ l a;let B:=True;let C:=(0:Int);let D:=eL l a;let E:=C=D.1.kind;let F:=[]=D.1.pkg;let G:=[]=D.1.name;let H:=D.1.names=[];let I:=D.1.parts=[];let J:=bw A;if aY A=true then B/\E/\F/\G/\H/\I/\C=D.2.1/\A.err=D.2.2.err/\A.fat=D.2.2.pos/\B else a8 A/\if aY J.2=true then B/\E/\F/\G/\H/\I/\C=D.2.1/\J.2.err=D.2.2.err/\J.2.fat=D.2.2.pos/\B else B/\J.1=D.1/\J.2.pos=D.2.1/\C=D.2.2.err/\C=D.2.2.pos/\B:=by
 conv=>zeta
 obtain⟨G,hG⟩:∃G,G=eL l a:=⟨_,rfl⟩;rw[<-hG];unfold eL at hG;apply a6<;>intro h
 ·rw[N6 h]at hG;subst hG;exact Xr
 ·rw[N3 h]at hG;have h:aY (aZ l a)=false:=by simpa using h
  have g:=jk hN h;unfold ni at hG;refine⟨g,a6 (fun k=>?_) (fun k=>?_)⟩
  ·rw[N6 k]at hG;subst hG;exact Xr
  ·rw[N3 k]at hG;subst hG;exact Xr
theorem F3(n:Nat)(t:Trm)(m:Int)(hs:Wf (.st .term) t)(hz:szT t<=n+1)(h0:0<=m)(h1:m<=1000000) :
  let A:=(1:Int);let B:=(0:Int);let C:=(↑(List.length t.parts):Int);let D:=t=t/\m=m/\B=B/\B=B/\t.parts=t.parts/\C=C/\t=t/\True;let E:=countT t m;let F:=dfl (Ty.st SN.term);(∃(x:Nat×Int×Int),(x.1<=List.length t.parts/\A<=x.2.1/\x.2.1<=m+A/\B<=x.2.2/\x.2.2+A<=x.2.1/\countL (List.drop x.1 t.parts) m x.2.1 x.2.2=countL t.parts m A B)/\A=x.2.1/\B=x.2.2/\B=(↑x.1:Int)/\D)/\∀(x:Nat×Int×Int),let G:=(↑x.1:Int);let H:=inR IntKind.i64 (x.2.2+A)/\True/\x.2.1=E.1/\x.2.2+A=E.2/\True;let I:=m-x.2.1;let J:=List.getD t.parts (Int.toNat G) F;let K:=countT J I;x.1<=List.length t.parts/\A<=x.2.1/\x.2.1<=m+A/\B<=x.2.2/\x.2.2+A<=x.2.1/\countL (List.drop x.1 t.parts) m x.2.1 x.2.2=countL t.parts m A B->if decide (G<C)=true then(B<=G/\G<C)/\if decide (m<x.2.1)=true then H else inR IntKind.i64 I/\(szT J<=n/\B<=m-x.2.1/\m-x.2.1<=(1000000:Int))/\inR IntKind.i64 (x.2.1+K.1)/\inR IntKind.i64 (G+A)/\∃(y:Nat×Int×Int),(y.1<=List.length t.parts/\A<=y.2.1/\y.2.1<=m+A/\B<=y.2.2/\y.2.2+A<=y.2.1/\countL (List.drop y.1 t.parts) m y.2.1 y.2.2=countL t.parts m A B)/\List.length t.parts-y.1<List.length t.parts-x.1/\x.2.1+K.1=y.2.1/\max x.2.2 K.2=y.2.2/\G+A=(↑y.1:Int)/\D else H:=by
 conv=>zeta
 have ln:=hs.term_parts.len;rw[Ex];refine⟨⟨(0,1,0),⟨Nt _,by decide,by show(1:Int)<=m+1;omega,by decide,by decide,rfl⟩,rfl,rfl,rfl,?_⟩,?_⟩
 ·exact Xr
 rintro⟨k,a,d⟩ ⟨h1,h2,h3,h4,h5,h6⟩;simp only[Nu]at h1 h2 h3 h4 h5 h6⊢;apply a6<;>intro h
 ·replace h:=Xo h;have hk:k<t.parts.length:=by omega
  rw[b8 t.parts k (dfl (.st .term)) hk,countL]at h6;refine⟨by omega,a6 (fun c=>?_) (fun c=>?_)⟩
  ·replace c:=Xo c;rw[N6 c]at h6;rw[<-h6];refine⟨aK (by omega) (by omega),?_⟩;exact Xr
  ·replace c:¬m<a:=fun e=>c (Xd e);rw[N3 c]at h6;have hm:=oV (bT t.parts k (dfl (.st .term)) hk);have he:=mi t;have hb:=countT_bound (t.parts.getD k (dfl (.st .term))) (m-a) (by omega);refine⟨aK (by omega) (by omega),⟨by omega,by omega,by omega⟩,aK (by omega) (by omega),cO hk ln,(k+1,_,_),⟨by show k+1<=_;omega,?_,?_,?_,?_,h6⟩,by show _-(k+1)<_;omega,rfl,rfl,by show _=((k+1:Nat):Int);omega,?_⟩
   ·show(1:Int)<=a+_;omega
   ·show a+_<=m+1;omega
   ·show(0:Int)<=max d _;omega
   ·show max d _+1<=a+_;omega
   exact Xr
 ·replace h:¬((k:Int)<(t.parts.length:Int)):=fun e=>h (Xd e);have e:k=t.parts.length:=by omega
  subst e;rw[NJ,countL]at h6;rw[<-h6];refine⟨aK (by omega) (by omega),?_⟩;exact Xr
theorem BZ (x:Str)  :
  True/\(!aG x)=!aG x/\True:=by
 exact⟨trivial,by trivial,trivial⟩
theorem C0 (l:List Str) (hl:Wf (.lst .str) l) :
  let A:=(0:Nat);let B:=(↑(List.length l):Int);let C:=l=l/\B=B/\True;(∃(x:Nat),(x<=List.length l/\bu aG (List.drop x l) x=bu aG l A)/\(0:Int)=(↑x:Int)/\C)/\∀(x:Nat),let D:=(↑x:Int);x<=List.length l/\bu aG (List.drop x l) x=bu aG l A->if decide (D<B)=true then((0:Int)<=D/\D<B)/\if(!aG (List.getD l (Int.toNat D) (dfl Ty.str)))=true then True/\D=bu aG l A/\True else inR IntKind.i64 (D+(1:Int))/\∃(y:Nat),(y<=List.length l/\bu aG (List.drop y l) y=bu aG l A)/\List.length l-y<List.length l-x/\D+(1:Int)=(↑y:Int)/\C else True/\(-1:Int)=bu aG l A/\True:=by
 conv=>zeta
 have ln:=hl.len;simp only[Nu];refine⟨⟨0,⟨Nt _,by simp⟩,rfl,by trivial,by trivial,trivial⟩,?_⟩;rintro k ⟨h1,h2⟩;apply a6<;>intro h
 ·replace h:=Xo h;have hk:k<l.length:=by omega
  rw[b8 l k (dfl .str) hk,bu]at h2;refine⟨by omega,a6 (fun c=>?_) (fun c=>?_)⟩
  ·have c:aG (l.getD k (dfl .str))=false:=by simpa using c
   rw[c,N3 NL]at h2;rw[<-h2];exact Xr
  ·have c:aG (l.getD k (dfl .str))=true:=by simpa using c
   rw[N6 c]at h2;refine⟨cO hk ln,k+1,⟨by omega,h2⟩,by omega,by omega,by trivial,by trivial,trivial⟩
 ·replace h:¬((k:Int)<(l.length:Int)):=fun e=>h (Xd e);have e:k=l.length:=by omega
  subst e;rw[NJ,bu]at h2;rw[<-h2];exact Xr
theorem C1 (l:List Str)  :
  True/\decide ((0:Int)<=bu aG l (0:Nat))=!List.all l aG/\True:=by
 exact⟨trivial,jl aG l 0,trivial⟩
theorem It (l:List Str)  :
  True/\(!!List.all l aG)=List.all l aG/\True:=by
 exact⟨trivial,Pm _,trivial⟩
theorem Iu(l:List Str)(ho:l.length *16<=140737488355328) :
  let A:=(List.mergeSort l fun(x y:Str)=>decide (x<=y));let B:=List.all l aG&&decide (List.Nodup l);List.length l*(16:Nat)<=(140737488355328:Nat)/\if List.all l aG=true then List.length A=List.length A/\True/\decide ((↑(List.length (Lib.compact A)):Int)=(↑(List.length l):Int))=B/\True else True/\false=B/\True:=by
 conv=>zeta
 have hc:=mf l;unfold jg at hc;refine⟨ho,a6 (fun h=>?_) (fun h=>?_)⟩
 ·refine⟨by trivial,trivial,?_,trivial⟩;rw[h,O3,On,<-hc];omega
 ·have h:l.all aG=false:=by simpa using h
  exact⟨trivial,by rw[h];rfl,trivial⟩
theorem C2(n:Nat)(x:Shape) (ho:sz x<=n) :
  sz x<=n/\True/\(!allS bn x)=!allS bn x/\True:=by
 exact⟨ho,trivial,by trivial,trivial⟩
theorem C3(n:Nat)(l:List Shape) (hl:Wf (.lst (.st .shape)) l)(ho:∀x∈l,sz x<=n) :
  let A:=allS bn;let B:=(0:Nat);let C:=(↑(List.length l):Int);let D:=l=l/\C=C/\True;let E:=dfl (Ty.st SN.shape);(∃(x:Nat),(x<=List.length l/\bu A (List.drop x l) x=bu A l B)/\(0:Int)=(↑x:Int)/\D)/\∀(x:Nat),let F:=(↑x:Int);let G:=List.getD l (Int.toNat F) E;x<=List.length l/\bu A (List.drop x l) x=bu A l B->if decide (F<C)=true then((0:Int)<=F/\F<C)/\sz G<=n/\if(!allS bn G)=true then True/\F=bu A l B/\True else inR IntKind.i64 (F+(1:Int))/\∃(y:Nat),(y<=List.length l/\bu A (List.drop y l) y=bu A l B)/\List.length l-y<List.length l-x/\F+(1:Int)=(↑y:Int)/\D else True/\(-1:Int)=bu A l B/\True:=by
 conv=>zeta
 have ln:=hl.len;simp only[Nu];refine⟨⟨0,⟨Nt _,by simp⟩,rfl,by trivial,by trivial,trivial⟩,?_⟩;rintro k ⟨h1,h2⟩;apply a6<;>intro h
 ·replace h:=Xo h;have hk:k<l.length:=by omega
  rw[b8 l k (dfl (.st .shape)) hk,bu]at h2;refine⟨by omega,ho _ (bT l k _ hk),a6 (fun c=>?_) (fun c=>?_)⟩
  ·have c:(allS bn) (l.getD k (dfl (.st .shape)))=false:=by simpa using c
   rw[c,N3 NL]at h2;rw[<-h2];exact Xr
  ·have c:(allS bn) (l.getD k (dfl (.st .shape)))=true:=by simpa using c
   rw[N6 c]at h2;refine⟨cO hk ln,k+1,⟨by omega,h2⟩,by omega,by omega,by trivial,by trivial,trivial⟩
 ·replace h:¬((k:Int)<(l.length:Int)):=fun e=>h (Xd e);have e:k=l.length:=by omega
  subst e;rw[NJ,bu]at h2;rw[<-h2];exact Xr
theorem C4(n:Nat)(l:List Shape) (ho:∀x∈l,sz x<=n) :
  (∀(x:Shape),x∈l->sz x<=n)/\True/\decide ((0:Int)<=bu (allS bn) l (0:Nat))=!List.all l (allS bn)/\True:=by
 exact⟨ho,trivial,jl (allS bn) l 0,trivial⟩
theorem Iv(n:Nat)(l:List Shape) (ho:∀x∈l,sz x<=n) :
  (∀(x:Shape),x∈l->sz x<=n)/\True/\(!!List.all l (allS bn))=List.all l (allS bn)/\True:=by
 exact⟨ho,trivial,Pm _,trivial⟩
theorem Kx(n:Nat)(s:Shape)(ho:sz s<=n+1) :
  if(!decide (s.kind=(10:Int)))=true then(∀(x:Shape),x∈s.parts->sz x<=n)/\True/\List.all s.parts (allS bn)=allS bn s/\True else True/\false=allS bn s/\True:=by
 have e0:allS bn s=(bn s&&s.parts.all (allS bn)):=by rw[fH,eX]
 have h0:=ky s;have hm:∀x∈s.parts,sz x<=n:=fun x hx=>by have:=gi hx;omega
 rw[e0];apply a6<;>intro h
 ·have h:bn s=true:=h;rw[h,O3];exact⟨hm,trivial,rfl,trivial⟩
 ·have h:bn s=false:=by simpa[bn]using h
  rw[h];exact Xr
theorem F4(s:Shape)  :
  let A:=(decide (bz s=(0:Int))&&allS bn s);if decide (bz s=(0:Int))=true then sz s<=(400:Nat)/\True/\allS bn s=A/\True else True/\false=A/\True:=by
 conv=>zeta
 apply a6<;>intro h
 ·have h:bz s=0:=by simpa using h
  refine⟨?_,trivial,by simp[h],trivial⟩;unfold bz at h;by_cases c:400<sz s
  ·rw[N6 c]at h;exact absurd h (by decide)
  ·omega
 ·have h:¬bz s=0:=by simpa using h
  exact⟨trivial,by simp[h],trivial⟩
theorem LS(t:Trm)  :
  let A:=(↑(List.length t.names):Int);let B:=(↑(List.length t.vars):Int);let C:=(↑(List.length t.shapes):Int);let D:=(↑(List.length t.parts):Int);True/\A=A/\B=B/\C=C/\D=D/\True:=by
 conv=>zeta
 exact Xr
theorem Iw(s:Str)(hs:Wf .str s) :
  let A:=b9 s;let B:=(↑(List.length A):Int);let C:=s=s/\b9 s=b9 s/\B=B/\True;let D:=dfl (Ty.int IntKind.u8);let E:=(1:Int);(∃(x:Nat),(x<=List.length s/\List.all s fU=List.all (List.drop x s) fU)/\(0:Int)=(↑x:Int)/\C)/\∀(x:Nat),let F:=(↑x:Int);let G:=Int.toNat F;let H:=inR IntKind.i64 (F+E)/\∃(y:Nat),(y<=List.length s/\List.all s fU=List.all (List.drop y s) fU)/\List.length s-y<List.length s-x/\F+E=(↑y:Int)/\C;x<=List.length s/\List.all s fU=List.all (List.drop x s) fU->if decide (F<B)=true then((0:Int)<=F/\F<B)/\if decide (List.getD A G D<(32:Int))=true then if(!decide (List.getD A G D=(10:Int)))=true then if(!decide (List.getD A G D=(9:Int)))=true then True/\false=di s/\True else H else H else H else True/\Option.isNone (bO s)=di s/\True:=by
 conv=>zeta
 have ln:=hs.str;have hbl:(b9 s).length=s.length:=Oc _;simp only[hbl,Nu];refine⟨⟨0,⟨Nt _,rfl⟩,?_⟩,?_⟩
 ·exact Xr
 rintro k ⟨h1,h2⟩;apply a6<;>intro h
 ·have hk:k<s.length:=by have:=Xo h;omega
  rw[b8 s k 0 hk,NI]at h2;have hq:=vm (s.getD k 0);simp only[qN s k hk]
  have yes:¬(bI (s.getD k 0)<32/\bI (s.getD k 0)≠10/\bI (s.getD k 0)≠9)->s.all fU=(s.drop (k+1)).all fU:=fun e=>by
   have:fU (s.getD k 0)=true:=by
    cases hh:fU (s.getD k 0)with|true=>rfl|false=>exact absurd (hq.1 hh) e
   rw[h2,this,O3]
  refine⟨⟨by omega,by omega⟩,?_⟩
  repeat' (apply a6<;>intro _)
  all_goals (simp only[N8,Np,Ns]at *)
  all_goals first
   |(refine⟨trivial,?_,trivial⟩;unfold di;rw[h2,hq.2 (by omega),NR,NR])
   |(refine⟨cO hk ln,k+1,⟨by omega,yes (by omega)⟩,by omega,by omega,?_⟩;exact Xr)
 ·have hk:k=s.length:=by have:¬((k:Int)<(s.length:Int)):=fun e=>h (Xd e);omega
  refine⟨trivial,?_,trivial⟩;unfold di;rw[h2,hk,NJ];rfl
theorem zt (x:Shape)  :
  True/\(!(decide (bz x=(0:Int))&&allS bn x))=!aS x/\True:=by
 exact⟨trivial,by trivial,trivial⟩
theorem zu (l:List Shape) (hl:Wf (.lst (.st .shape)) l) :
  let A:=(0:Nat);let B:=(↑(List.length l):Int);let C:=l=l/\B=B/\True;(∃(x:Nat),(x<=List.length l/\bu aS (List.drop x l) x=bu aS l A)/\(0:Int)=(↑x:Int)/\C)/\∀(x:Nat),let D:=(↑x:Int);x<=List.length l/\bu aS (List.drop x l) x=bu aS l A->if decide (D<B)=true then((0:Int)<=D/\D<B)/\if(!aS (List.getD l (Int.toNat D) (dfl (Ty.st SN.shape))))=true then True/\D=bu aS l A/\True else inR IntKind.i64 (D+(1:Int))/\∃(y:Nat),(y<=List.length l/\bu aS (List.drop y l) y=bu aS l A)/\List.length l-y<List.length l-x/\D+(1:Int)=(↑y:Int)/\C else True/\(-1:Int)=bu aS l A/\True:=by
 conv=>zeta
 have ln:=hl.len;simp only[Nu];refine⟨⟨0,⟨Nt _,by simp⟩,rfl,by trivial,by trivial,trivial⟩,?_⟩;rintro k ⟨h1,h2⟩;apply a6<;>intro h
 ·replace h:=Xo h;have hk:k<l.length:=by omega
  rw[b8 l k (dfl (.st .shape)) hk,bu]at h2;refine⟨by omega,a6 (fun c=>?_) (fun c=>?_)⟩
  ·have c:aS (l.getD k (dfl (.st .shape)))=false:=by simpa using c
   rw[c,N3 NL]at h2;rw[<-h2];exact Xr
  ·have c:aS (l.getD k (dfl (.st .shape)))=true:=by simpa using c
   rw[N6 c]at h2;refine⟨cO hk ln,k+1,⟨by omega,h2⟩,by omega,by omega,by trivial,by trivial,trivial⟩
 ·replace h:¬((k:Int)<(l.length:Int)):=fun e=>h (Xd e);have e:k=l.length:=by omega
  subst e;rw[NJ,bu]at h2;rw[<-h2];exact Xr
theorem zw (l:List Shape)  :
  True/\decide ((0:Int)<=bu aS l (0:Nat))=!List.all l aS/\True:=by
 exact⟨trivial,jl aS l 0,trivial⟩
theorem F5 (l:List Shape)  :
  True/\(!!List.all l aS)=List.all l aS/\True:=by
 exact⟨trivial,Pm _,trivial⟩
theorem Ix(t:Trm)(ht:Wf (.st .term) t)(ho:t.names.length<=1000000) :
  let A:=(0:Int);let B:=(↑(List.length t.names):Int);let C:=(↑(List.length t.vars):Int);let D:=(↑(List.length t.shapes):Int);let E:=(↑(List.length t.parts):Int);let F:=True;let G:=t=t/\false=false/\t=t/\B=B/\C=C/\D=D/\E=E/\F;let H:=true=!jt t/\G;let I:=(1:Int);let J:=(!List.all t.shapes aS)=!jt t/\G;let K:=if(!decide (t.pkg=[]))=true then if(!decide (t.kind=(5:Int)))=true then H else J else J;let L:=F/\false=aJ t/\F;let M:=F/\(decide (B=A)&&(decide (C=A)&&(decide (D=A)&&(decide (E=A)&&true))))=aJ t/\F;let N:=if decide (t.name=[])=true then M else L;let O:=List.length t.names*(16:Nat)<=(140737488355328:Nat);let P:=decide (E=I)&&true;let Q:=decide (E=E)&&true;let R:=F/\(decide (B=A)&&(decide (C=A)&&(decide (D=A)&&P)))=aJ t/\F;let S:=if aG t.name=true then R else L;let T:=inR IntKind.i64 (B+I);let U:=if cW t.name=true then R else L;(if decide (t.pos<A)=true then H else if(!decide (t.n=A))=true then if(!decide (t.kind=I))=true then H else K else K)/\if(!jt t)=true then L else if decide (t.kind=I)=true then if decide (t.name=[])=true then if decide (A<=t.n)=true then if decide (t.n<=(999999999999999:Int))=true then M else L else L else L else if decide (t.kind=(2:Int))=true then if di t.name=true then M else L else if decide (t.kind=(3:Int))=true then N else if decide (t.kind=(4:Int))=true then N else if decide (t.kind=(5:Int))=true then if aG t.name=true then if decide (t.pkg=[])=true then M else if aG t.pkg=true then M else L else L else if decide (t.kind=(6:Int))=true then if decide (t.name=[])=true then if decide (B<=(4096:Int))=true then O/\if(List.all t.names aG&&decide (List.Nodup t.names))=true then F/\(decide (B=B)&&(decide (C=A)&&(decide (D=B)&&P)))=aJ t/\F else L else L else L else if decide (t.kind=(7:Int))=true then if decide (t.name=[])=true then if decide (A<E)=true then F/\(decide (B=A)&&(decide (C=A)&&(decide (D=A)&&Q)))=aJ t/\F else L else L else if decide (t.kind=(8:Int))=true then if decide (t.name=[])=true then O/\if(List.all t.names aG&&decide (List.Nodup t.names))=true then F/\(decide (B=B)&&(decide (C=A)&&(decide (D=A)&&(decide (E=B)&&true))))=aJ t/\F else L else L else if decide (t.kind=(9:Int))=true then S else if decide (t.kind=(10:Int))=true then S else if decide (t.kind=(11:Int))=true then if decide (t.name=[])=true then F/\(decide (B=A)&&(decide (C=A)&&(decide (D=I)&&Q)))=aJ t/\F else L else if decide (t.kind=(12:Int))=true then if decide (t.name=[])=true then F/\(decide (B=A)&&(decide (C=A)&&(decide (D=I)&&(decide (E=(3:Int))&&true))))=aJ t/\F else L else if decide (t.kind=(13:Int))=true then if decide (t.name=[])=true then O/\if(List.all t.names aG&&decide (List.Nodup t.names))=true then if List.all t.vars aG=true then T/\T/\F/\(decide (B=B)&&(decide (C=B)&&(decide (D=B+I)&&(decide (E=B+I)&&true))))=aJ t/\F else L else L else L else if decide (t.kind=(14:Int))=true then if aG t.name=true then F/\(decide (B=A)&&(decide (C=A)&&(decide (D=A)&&(decide (E=(2:Int))&&true))))=aJ t/\F else L else if decide (t.kind=(15:Int))=true then if decide (t.name=[])=true then F/\(decide (B=A)&&(decide (C=A)&&(decide (D=I)&&P)))=aJ t/\F else L else if decide (t.kind=(16:Int))=true then U else if decide (t.kind=(17:Int))=true then U else L:=by
 conv=>zeta
 refine⟨?_,a6 (fun h=>?_) (fun h=>?_)⟩
 ·unfold jt
  repeat' (apply a6<;>intro _)
  all_goals simp_all
 ·have h:jt t=false:=by simpa using h
  unfold aJ;rw[h];exact Xr
 have h:jt t=true:=by simpa using h
 have e0:aJ t=cY t:=by unfold aJ;rw[h,O3]
 rw[e0];clear h e0;unfold cY bg cK;simp only[dnZ,dn1,dn2,dn3,dnN,dnS,dnL,dnP];generalize t.names.all aG=na;generalize t.vars.all aG=va
 repeat' (first|apply a6<;>intro _|refine⟨by omega,?_⟩|refine⟨aK (by omega) (by omega),?_⟩|fail)
 all_goals (refine⟨trivial,?_,trivial⟩;try simp_all)
 all_goals first|(simp only[Bool.and_assoc];done)|(intros;omega)
theorem zx(n:Nat)(x:Trm) (ho:szT x<=n/\bP x=true) :
  (szT x<=n/\bP x=true)/\True/\(!allT aJ x)=!allT aJ x/\True:=by
 exact⟨ho,trivial,by trivial,trivial⟩
theorem zy(n:Nat)(l:List Trm) (hl:Wf (.lst (.st .term)) l)(ho:∀x∈l,szT x<=n/\bP x=true) :
  let A:=allT aJ;let B:=(0:Nat);let C:=(↑(List.length l):Int);let D:=l=l/\C=C/\True;let E:=dfl (Ty.st SN.term);(∃(x:Nat),(x<=List.length l/\bu A (List.drop x l) x=bu A l B)/\(0:Int)=(↑x:Int)/\D)/\∀(x:Nat),let F:=(↑x:Int);let G:=List.getD l (Int.toNat F) E;x<=List.length l/\bu A (List.drop x l) x=bu A l B->if decide (F<C)=true then((0:Int)<=F/\F<C)/\(szT G<=n/\bP G=true)/\if(!allT aJ G)=true then True/\F=bu A l B/\True else inR IntKind.i64 (F+(1:Int))/\∃(y:Nat),(y<=List.length l/\bu A (List.drop y l) y=bu A l B)/\List.length l-y<List.length l-x/\F+(1:Int)=(↑y:Int)/\D else True/\(-1:Int)=bu A l B/\True:=by
 conv=>zeta
 have ln:=hl.len;simp only[Nu];refine⟨⟨0,⟨Nt _,by simp⟩,rfl,by trivial,by trivial,trivial⟩,?_⟩;rintro k ⟨h1,h2⟩;apply a6<;>intro h
 ·replace h:=Xo h;have hk:k<l.length:=by omega
  rw[b8 l k (dfl (.st .term)) hk,bu]at h2;refine⟨by omega,ho _ (bT l k _ hk),a6 (fun c=>?_) (fun c=>?_)⟩
  ·have c:(allT aJ) (l.getD k (dfl (.st .term)))=false:=by simpa using c
   rw[c,N3 NL]at h2;rw[<-h2];exact Xr
  ·have c:(allT aJ) (l.getD k (dfl (.st .term)))=true:=by simpa using c
   rw[N6 c]at h2;refine⟨cO hk ln,k+1,⟨by omega,h2⟩,by omega,by omega,by trivial,by trivial,trivial⟩
 ·replace h:¬((k:Int)<(l.length:Int)):=fun e=>h (Xd e);have e:k=l.length:=by omega
  subst e;rw[NJ,bu]at h2;rw[<-h2];exact Xr
theorem zA(n:Nat)(l:List Trm) (ho:∀x∈l,szT x<=n/\bP x=true) :
  (∀(x:Trm),x∈l->szT x<=n/\bP x=true)/\True/\decide ((0:Int)<=bu (allT aJ) l (0:Nat))=!List.all l (allT aJ)/\True:=by
 exact⟨ho,trivial,jl (allT aJ) l 0,trivial⟩
theorem F6(n:Nat)(l:List Trm) (ho:∀x∈l,szT x<=n/\bP x=true) :
  (∀(x:Trm),x∈l->szT x<=n/\bP x=true)/\True/\(!!List.all l (allT aJ))=List.all l (allT aJ)/\True:=by
 exact⟨ho,trivial,Pm _,trivial⟩
theorem F7(n:Nat)(t:Trm)(ho:szT t<=n+1/\bP t=true) :
  List.length t.names<=(1000000:Nat)/\if aJ t=true then(∀(x:Trm),x∈t.parts->szT x<=n/\bP x=true)/\True/\List.all t.parts (allT aJ)=allT aJ t/\True else True/\false=allT aJ t/\True:=by
 obtain⟨h1,h2⟩:=ho;have e0:allT aJ t=(aJ t&&t.parts.all (allT aJ)):=by rw[dQ,fh]
 have h0:=mi t;rw[e0];refine⟨BG h2,a6 (fun h=>?_) (fun h=>?_)⟩
 ·rw[h,O3];exact⟨fun x hx=>⟨by have:=oV hx;omega,EG h2 hx⟩,trivial,rfl,trivial⟩
 ·have h:aJ t=false:=by simpa using h
  rw[h];exact Xr
theorem F8(x:Trm)(ho:bP x=true) :
  let A:=szT x<=szT x;let B:=(4096:Int);let C:=True;(A/\(0:Int)<=B/\B<=(1000000:Int))/\if decide (B<(countT x B).1)=true then C/\(3:Int)=b6 x/\C else if decide ((40:Int)<(countT x B).2)=true then C/\(91:Int)=b6 x/\C else(A/\bP x=true)/\if(!allT aJ x)=true then C/\(80:Int)=b6 x/\C else C/\(0:Int)=b6 x/\C:=by
 conv=>zeta
 refine⟨⟨Nf _,by omega,by omega⟩,a6 (fun h=>?_) (fun h=>?_)⟩
 ·replace h:=Xo h;unfold b6;rw[N6 h];exact Xr
 have h:¬_:=fun e=>h (Xd e);have e1:b6 x=if 40<(countT x 4096).2 then 91 else if allT aJ x=true then 0 else 80:=by unfold b6;rw[N3 h]
 apply a6<;>intro k
 ·rw[N6 (Xo k)]at e1;rw[e1];exact Xr
 rw[N3 (fun e=>k (Xd e))]at e1;refine⟨⟨Nf _,ho⟩,a6 (fun j=>?_) (fun j=>?_)⟩
 ·have j:allT aJ x=false:=by simpa using j
  rw[j,N3 NL]at e1;rw[e1];exact Xr
 ·have j:allT aJ x=true:=by simpa using j
  rw[N6 j]at e1;rw[e1];exact Xr
theorem Iy(s:Str)(p:Int)(n:Nat)(k:Int)(ho:s.length<=4096/\0<=p/\p<=(s.length:Int)/\0<=k/\k<=2) :
  let A:=p+k;let B:=inR IntKind.i64 A;let C:=(↑(List.length s):Int);let D:=s=s/\p=p/\n=n/\True;B/\if decide (C<=p+k)=true then True/\(0:Int)=bAt s A/\D else B/\((0:Int)<=p+k/\p+k<C)/\True/\(↑(UInt8.toNat (List.getD s (Int.toNat A) (0:UInt8))):Int)=bAt s A/\D:=by
 conv=>zeta
 obtain⟨h1,h2,h3,h4,h5⟩:=ho;refine⟨aK (by omega) (by omega),a6 (fun h=>?_) (fun h=>?_)⟩
 ·replace h:=Xo h;refine⟨trivial,(oW h).symm,?_⟩;exact Xr
 ·replace h:¬(s.length:Int)<=p+k:=fun e=>h (Xd e);refine⟨aK (by omega) (by omega),⟨by omega,by omega⟩,trivial,(jo (by omega)).symm,?_⟩;exact Xr
theorem Ky(c:Int)  :
  let A:=True/\true=ck c/\True;if bL c=true then A else if bM c=true then A else if cv c=true then A else if decide (c=(46:Int))=true then A else True/\decide (c=(45:Int))=ck c/\True:=by
 conv=>zeta
 unfold ck;cases bL c<;>cases bM c<;>cases cv c<;>simp;by_cases a:c=46<;>simp[a]
theorem Iz(c:Int)  :
  True/\(!decide (c=(10:Int)))=cG c/\True:=by
 unfold cG;simp
theorem F9(c:Int)  :
  let A:=True/\false=aH c/\True;if decide ((32:Int)<=c)=true then if(!decide (c=(34:Int)))=true then True/\(!decide (c=(92:Int)))=aH c/\True else A else A:=by
 conv=>zeta
 unfold aH;by_cases a:(32:Int)<=c<;>by_cases b:c=34<;>by_cases d:c=92<;>simp[a,b,d]
theorem Fa(s:Str)(p:Int)(n:Nat)(ho:s.length<=4096/\0<=p/\p<=(s.length:Int)) :
  let A:=(↑(List.length s):Int);let B:=lH UInt8=lH UInt8;let C:=n=n/\True;let D:=(0:Int)<=p;let E:=(↑(aq bB s p):Int);(∃(x:Nat),let F:=(↑x:Int);(p+F<=A/\aq bB s p=x+aq bB s (p+F))/\B/\p=p/\s=s/\p=p+F/\C)/\∀(x:Nat),let F:=(↑x:Int);let G:=Int.toNat (p+F);let H:=(D/\p<=p+F/\p+F<=A)/\True/\List.drop (Int.toNat p) (List.take G s)=cut s p (p+E)/\s=s/\p+F=p+E/\C;p+F<=A/\aq bB s p=x+aq bB s (p+F)->if decide (p+F<A)=true then((0:Int)<=p+F/\p+F<A)/\if bB (↑(UInt8.toNat (List.getD s G (0:UInt8))):Int)=true then inR IntKind.i64 (p+F+(1:Int))/\∃(y:Nat),let I:=(↑y:Int);(p+I<=A/\aq bB s p=y+aq bB s (p+I))/\List.length s-y<List.length s-x/\B/\p=p/\s=s/\p+F+(1:Int)=p+I/\C else H else H:=by
 conv=>zeta
 obtain⟨a1,a2,a3⟩:=ho
 have fin:∀k:Nat,p+(k:Int)<=(s.length:Int)->aq bB s p=k->((0:Int)<=p/\p<=p+(k:Int)/\p+(k:Int)<=(s.length:Int))/\True/\
   List.drop (Int.toNat p) (List.take (Int.toNat (p+(k:Int))) s)=cut s p (p+(aq bB s p:Int))/\s=s/\p+(k:Int)=p+(aq bB s p:Int)/\n=n/\True:=by
  intro k h1 h2;refine⟨⟨by omega,by omega,by omega⟩,trivial,?_,rfl,by omega,rfl,trivial⟩;rw[h2];rfl
 refine⟨⟨0,⟨by omega,by simp⟩,rfl,rfl,rfl,by simp,rfl,trivial⟩,?_⟩;rintro k ⟨h1,h2⟩;apply a6<;>intro h
 ·replace h:=Xo h;refine⟨⟨by omega,h⟩,a6 (fun c=>?_) (fun c=>?_)⟩
  ·have e0:=cN (pr:=bB) (s:=s) (a:=p+(k:Int)) (by omega) h c;rw[e0]at h2;refine⟨aK (by omega) (by omega),k+1,⟨by omega,?_⟩,by omega,rfl,rfl,rfl,by omega,rfl,trivial⟩;have e:p+((k+1:Nat):Int)=p+(k:Int)+1:=by omega
   rw[e];omega
  ·have e0:=jM (pr:=bB) (s:=s) (a:=p+(k:Int)) (by omega) h (Og.2 c);rw[e0]at h2;exact fin k h1 h2
 ·replace h:¬(p+(k:Int)<(s.length:Int)):=fun e=>h (Xd e);have e0:=l9 (pr:=bB) (s:=s) (a:=p+(k:Int)) (by omega);rw[e0]at h2;exact fin k h1 h2
theorem Fb(s:Str)(p:Int)(n:Nat)(ho:s.length<=4096/\0<=p/\p<=(s.length:Int)) :
  let A:=(↑(List.length s):Int);let B:=lH UInt8=lH UInt8;let C:=n=n/\True;let D:=(0:Int)<=p;let E:=(↑(aq ck s p):Int);(∃(x:Nat),let F:=(↑x:Int);(p+F<=A/\aq ck s p=x+aq ck s (p+F))/\B/\p=p/\s=s/\p=p+F/\C)/\∀(x:Nat),let F:=(↑x:Int);let G:=Int.toNat (p+F);let H:=(D/\p<=p+F/\p+F<=A)/\True/\List.drop (Int.toNat p) (List.take G s)=cut s p (p+E)/\s=s/\p+F=p+E/\C;p+F<=A/\aq ck s p=x+aq ck s (p+F)->if decide (p+F<A)=true then((0:Int)<=p+F/\p+F<A)/\if ck (↑(UInt8.toNat (List.getD s G (0:UInt8))):Int)=true then inR IntKind.i64 (p+F+(1:Int))/\∃(y:Nat),let I:=(↑y:Int);(p+I<=A/\aq ck s p=y+aq ck s (p+I))/\List.length s-y<List.length s-x/\B/\p=p/\s=s/\p+F+(1:Int)=p+I/\C else H else H:=by
 conv=>zeta
 obtain⟨a1,a2,a3⟩:=ho
 have fin:∀k:Nat,p+(k:Int)<=(s.length:Int)->aq ck s p=k->((0:Int)<=p/\p<=p+(k:Int)/\p+(k:Int)<=(s.length:Int))/\True/\
   List.drop (Int.toNat p) (List.take (Int.toNat (p+(k:Int))) s)=cut s p (p+(aq ck s p:Int))/\s=s/\p+(k:Int)=p+(aq ck s p:Int)/\n=n/\True:=by
  intro k h1 h2;refine⟨⟨by omega,by omega,by omega⟩,trivial,?_,rfl,by omega,rfl,trivial⟩;rw[h2];rfl
 refine⟨⟨0,⟨by omega,by simp⟩,rfl,rfl,rfl,by simp,rfl,trivial⟩,?_⟩;rintro k ⟨h1,h2⟩;apply a6<;>intro h
 ·replace h:=Xo h;refine⟨⟨by omega,h⟩,a6 (fun c=>?_) (fun c=>?_)⟩
  ·have e0:=cN (pr:=ck) (s:=s) (a:=p+(k:Int)) (by omega) h c;rw[e0]at h2;refine⟨aK (by omega) (by omega),k+1,⟨by omega,?_⟩,by omega,rfl,rfl,rfl,by omega,rfl,trivial⟩;have e:p+((k+1:Nat):Int)=p+(k:Int)+1:=by omega
   rw[e];omega
  ·have e0:=jM (pr:=ck) (s:=s) (a:=p+(k:Int)) (by omega) h (Og.2 c);rw[e0]at h2;exact fin k h1 h2
 ·replace h:¬(p+(k:Int)<(s.length:Int)):=fun e=>h (Xd e);have e0:=l9 (pr:=ck) (s:=s) (a:=p+(k:Int)) (by omega);rw[e0]at h2;exact fin k h1 h2
theorem Fc(s:Str)(p:Int)(n:Nat)(ho:s.length<=4096/\0<=p/\p<=(s.length:Int)) :
  let A:=(↑(List.length s):Int);let B:=lH UInt8=lH UInt8;let C:=n=n/\True;let D:=(0:Int)<=p;let E:=(↑(aq cG s p):Int);(∃(x:Nat),let F:=(↑x:Int);(p+F<=A/\aq cG s p=x+aq cG s (p+F))/\B/\p=p/\s=s/\p=p+F/\C)/\∀(x:Nat),let F:=(↑x:Int);let G:=Int.toNat (p+F);let H:=(D/\p<=p+F/\p+F<=A)/\True/\List.drop (Int.toNat p) (List.take G s)=cut s p (p+E)/\s=s/\p+F=p+E/\C;p+F<=A/\aq cG s p=x+aq cG s (p+F)->if decide (p+F<A)=true then((0:Int)<=p+F/\p+F<A)/\if cG (↑(UInt8.toNat (List.getD s G (0:UInt8))):Int)=true then inR IntKind.i64 (p+F+(1:Int))/\∃(y:Nat),let I:=(↑y:Int);(p+I<=A/\aq cG s p=y+aq cG s (p+I))/\List.length s-y<List.length s-x/\B/\p=p/\s=s/\p+F+(1:Int)=p+I/\C else H else H:=by
 conv=>zeta
 obtain⟨a1,a2,a3⟩:=ho
 have fin:∀k:Nat,p+(k:Int)<=(s.length:Int)->aq cG s p=k->((0:Int)<=p/\p<=p+(k:Int)/\p+(k:Int)<=(s.length:Int))/\True/\
   List.drop (Int.toNat p) (List.take (Int.toNat (p+(k:Int))) s)=cut s p (p+(aq cG s p:Int))/\s=s/\p+(k:Int)=p+(aq cG s p:Int)/\n=n/\True:=by
  intro k h1 h2;refine⟨⟨by omega,by omega,by omega⟩,trivial,?_,rfl,by omega,rfl,trivial⟩;rw[h2];rfl
 refine⟨⟨0,⟨by omega,by simp⟩,rfl,rfl,rfl,by simp,rfl,trivial⟩,?_⟩;rintro k ⟨h1,h2⟩;apply a6<;>intro h
 ·replace h:=Xo h;refine⟨⟨by omega,h⟩,a6 (fun c=>?_) (fun c=>?_)⟩
  ·have e0:=cN (pr:=cG) (s:=s) (a:=p+(k:Int)) (by omega) h c;rw[e0]at h2;refine⟨aK (by omega) (by omega),k+1,⟨by omega,?_⟩,by omega,rfl,rfl,rfl,by omega,rfl,trivial⟩;have e:p+((k+1:Nat):Int)=p+(k:Int)+1:=by omega
   rw[e];omega
  ·have e0:=jM (pr:=cG) (s:=s) (a:=p+(k:Int)) (by omega) h (Og.2 c);rw[e0]at h2;exact fin k h1 h2
 ·replace h:¬(p+(k:Int)<(s.length:Int)):=fun e=>h (Xd e);have e0:=l9 (pr:=cG) (s:=s) (a:=p+(k:Int)) (by omega);rw[e0]at h2;exact fin k h1 h2
theorem Fe(s:Str)(p:Int)(n:Nat)(ho:s.length<=4096/\0<=p/\p<=(s.length:Int)) :
  let A:=(↑(List.length s):Int);let B:=lH UInt8=lH UInt8;let C:=n=n/\True;let D:=(0:Int)<=p;let E:=(↑(aq aH s p):Int);(∃(x:Nat),let F:=(↑x:Int);(p+F<=A/\aq aH s p=x+aq aH s (p+F))/\B/\p=p/\s=s/\p=p+F/\C)/\∀(x:Nat),let F:=(↑x:Int);let G:=Int.toNat (p+F);let H:=(D/\p<=p+F/\p+F<=A)/\True/\List.drop (Int.toNat p) (List.take G s)=cut s p (p+E)/\s=s/\p+F=p+E/\C;p+F<=A/\aq aH s p=x+aq aH s (p+F)->if decide (p+F<A)=true then((0:Int)<=p+F/\p+F<A)/\if aH (↑(UInt8.toNat (List.getD s G (0:UInt8))):Int)=true then inR IntKind.i64 (p+F+(1:Int))/\∃(y:Nat),let I:=(↑y:Int);(p+I<=A/\aq aH s p=y+aq aH s (p+I))/\List.length s-y<List.length s-x/\B/\p=p/\s=s/\p+F+(1:Int)=p+I/\C else H else H:=by
 conv=>zeta
 obtain⟨a1,a2,a3⟩:=ho
 have fin:∀k:Nat,p+(k:Int)<=(s.length:Int)->aq aH s p=k->((0:Int)<=p/\p<=p+(k:Int)/\p+(k:Int)<=(s.length:Int))/\True/\
   List.drop (Int.toNat p) (List.take (Int.toNat (p+(k:Int))) s)=cut s p (p+(aq aH s p:Int))/\s=s/\p+(k:Int)=p+(aq aH s p:Int)/\n=n/\True:=by
  intro k h1 h2;refine⟨⟨by omega,by omega,by omega⟩,trivial,?_,rfl,by omega,rfl,trivial⟩;rw[h2];rfl
 refine⟨⟨0,⟨by omega,by simp⟩,rfl,rfl,rfl,by simp,rfl,trivial⟩,?_⟩;rintro k ⟨h1,h2⟩;apply a6<;>intro h
 ·replace h:=Xo h;refine⟨⟨by omega,h⟩,a6 (fun c=>?_) (fun c=>?_)⟩
  ·have e0:=cN (pr:=aH) (s:=s) (a:=p+(k:Int)) (by omega) h c;rw[e0]at h2;refine⟨aK (by omega) (by omega),k+1,⟨by omega,?_⟩,by omega,rfl,rfl,rfl,by omega,rfl,trivial⟩;have e:p+((k+1:Nat):Int)=p+(k:Int)+1:=by omega
   rw[e];omega
  ·have e0:=jM (pr:=aH) (s:=s) (a:=p+(k:Int)) (by omega) h (Og.2 c);rw[e0]at h2;exact fin k h1 h2
 ·replace h:¬(p+(k:Int)<(s.length:Int)):=fun e=>h (Xd e);have e0:=l9 (pr:=aH) (s:=s) (a:=p+(k:Int)) (by omega);rw[e0]at h2;exact fin k h1 h2
theorem Ff(s:Str)(ho:s.length<=4096) :
  let A:=(0:Int);let B:=(↑(List.length s):Int);let C:=(8:Nat);let D:=True;let E:=A=A/\A=A/\D;let F:=List.take (Int.toNat B) s;let G:=wW s;let H:=(30:Int)=G.err;let I:=D/\A=G.err/\A=G.pos/\D;let J:=(140737488355328:Nat);(A<=B/\B*(↑C:Int)<=(140737488355328:Int))/\(∃(x:Nat×List Int),(x.1<=List.length s/\List.length x.2<=x.1/\bO s=jq s x.1)/\[]=x.2/\A=(↑x.1:Int)/\s=s/\(0:Nat)=List.length x.2/\E)/\∀(x:Nat×List Int),let K:=(↑x.1:Int);let L:=iG (List.drop (Int.toNat K) F);let M:=(↑L.1:Int);let N:=(↑L.2:Int);let O:=if decide (K<B)=true then D/\H/\K=G.pos/\D else I;let P:=inR IntKind.i64 M/\(List.length x.2=List.length x.2/\(List.length x.2+List.length [M])*C<=J)/\inR IntKind.i64 (K+N)/\∃(y:Nat×List Int),(y.1<=List.length s/\List.length y.2<=y.1/\bO s=jq s y.1)/\List.length s-y.1<List.length s-x.1/\x.2++[M]=y.2/\K+N=(↑y.1:Int)/\s=s/\List.length (x.2++[M])=List.length y.2/\E;x.1<=List.length s/\List.length x.2<=x.1/\bO s=jq s x.1->if decide (K<B)=true then(A<=K/\K<=B/\B<=B)/\if decide (M=(65533:Int))=true then if decide (N=(1:Int))=true then O else P else P else O:=by
 conv=>zeta
 refine⟨⟨by omega,by omega⟩,⟨(0,[]),⟨Nt _,Nf _,rfl⟩,rfl,rfl,rfl,rfl,rfl,rfl,trivial⟩,?_⟩;rintro⟨k,xs⟩ ⟨h1,h2,h3⟩;simp only[Nu,O4]at h1 h2 h3⊢;apply a6<;>intro h
 ·have hk:k<s.length:=by have:=Xo h;omega
  have hx:s.drop k≠[]:=by intro e;have:=OH List.length e;simp at this;omega
  obtain⟨g1,g2,g3,g4,g5⟩:=kB hx;rw[NU]at g5;refine⟨⟨by omega,by omega,by omega⟩,a6 (fun c=>?_) (fun c=>?_)⟩
  ·replace c:=Xo c;apply a6<;>intro d
   ·replace d:=Xo d;have hu:=g1.1 ⟨by omega,by omega⟩;rw[EB hk hu]at h3;rw[N6 h];unfold wW;rw[h3];exact Xr
   ·have hd:¬((iG (s.drop k)).2:Int)=1:=fun e=>d (Xd e);have hu:dD (s.drop k)≠0:=by intro e;have:=g1.2 e;exact hd (by omega)
    have g6:=g2 hu;have hs:=sI hk hu;refine⟨aK (by omega) (by omega),⟨(by first|rfl|trivial),by simp only[Nc];omega⟩,aK (by omega) (by omega),(k+(iG (s.drop k)).2,xs++[((iG (s.drop k)).1:Int)]),⟨by show k+_<=_;omega,by show(xs++[_]).length<=k+_;rw[N5,Nc];omega,?_⟩,by show s.length-(k+_)<_;omega,(by first|rfl|trivial),by show(k:Int)+_=((k+_:Nat):Int);omega,(by first|rfl|trivial),(by first|rfl|trivial),(by first|rfl|trivial),(by first|rfl|trivial),trivial⟩;show bO s=jq s (k+_);rw[h3,hs,g6]
  ·have hc:¬((iG (s.drop k)).1:Int)=65533:=fun e=>c (Xd e);have hu:dD (s.drop k)≠0:=by intro e;have:=g1.2 e;exact hc (by omega)
   have g6:=g2 hu;have hs:=sI hk hu;refine⟨aK (by omega) (by omega),⟨(by first|rfl|trivial),by simp only[Nc];omega⟩,aK (by omega) (by omega),(k+(iG (s.drop k)).2,xs++[((iG (s.drop k)).1:Int)]),⟨by show k+_<=_;omega,by show(xs++[_]).length<=k+_;rw[N5,Nc];omega,?_⟩,by show s.length-(k+_)<_;omega,(by first|rfl|trivial),by show(k:Int)+_=((k+_:Nat):Int);omega,(by first|rfl|trivial),(by first|rfl|trivial),(by first|rfl|trivial),(by first|rfl|trivial),trivial⟩;show bO s=jq s (k+_);rw[h3,hs,g6]
 ·have hk:s.length<=k:=by have:¬((k:Int)<(s.length:Int)):=fun e=>h (Xd e);omega
  rw[EA hk]at h3;rw[N3 h];unfold wW;rw[h3];exact Xr
theorem C5(s:Str)  :
  if(!decide (s=[]))=true then([48,49,50,51,52,53,54,55,56,57]:Str)=qX/\True/\decide (nD s=[])=dn s/\True else True/\false=dn s/\True:=by
 have e:∀l:Str,(l.all jN)=l.all fun c=>cv (bI c):=fun _=>rfl;apply a6<;>intro h
 ·refine⟨rfl,trivial,?_,trivial⟩;unfold dn;rw[h,O3,<-e];exact Bool.eq_iff_iff.2 (decide_eq_true_iff.trans (vh s))
 ·refine⟨trivial,?_,trivial⟩;unfold dn;rw[NO]at h;rw[h,NR]
theorem IA(s:Str)(hs:Wf .str s) :
  let A:=True/\false=gA s/\True;let B:=(0:Int);let C:=(↑(List.length s):Int);let D:=(0:UInt8);let E:=(List.all s fun(c:UInt8)=>jC (bI c));let F:=s=s/\false=false/\C=C/\True;let G:=(1:Int);let H:=(65:Int);let I:=(90:Int);let J:=(45:Int);let K:=(∃(x:Nat),(x<=List.length s/\E=List.all (List.drop x s) fun(c:UInt8)=>jC (bI c))/\B=(↑x:Int)/\F)/\∀(x:Nat),let L:=(↑x:Int);let M:=(↑(UInt8.toNat (List.getD s (Int.toNat L) D)):Int);let N:=inR IntKind.i64 (L+G)/\∃(y:Nat),(y<=List.length s/\E=List.all (List.drop y s) fun(c:UInt8)=>jC (bI c))/\List.length s-y<List.length s-x/\L+G=(↑y:Int)/\F;let O:=if(!decide (M=J))=true then A else N;let P:=if decide (H<=M)=true then if decide (M<=I)=true then N else O else O;let Q:=if decide ((97:Int)<=M)=true then if decide (M<=(122:Int))=true then N else P else P;(x<=List.length s/\E=List.all (List.drop x s) fun(c:UInt8)=>jC (bI c))->if decide (L<C)=true then(B<=L/\L<C)/\if decide ((48:Int)<=M)=true then if decide (M<=(57:Int))=true then N else Q else Q else True/\true=gA s/\True;if decide (s=[])=true then A else if dn s=true then(B<=B/\B<C)/\if decide ((↑(UInt8.toNat (List.getD s (Int.toNat B) D)):Int)=(48:Int))=true then if(!decide (s=([48]:Str)))=true then A else K else K else K:=by
 conv=>zeta
 apply a6<;>intro h
 ·replace h:=Xo h;subst h;exact Xr
 have hne:s≠[]:=fun e=>h (Xd e);have hpos:=O2.2 hne;apply a6<;>intro h1
 ·refine⟨⟨by omega,by omega⟩,a6 (fun h2=>?_) (fun h2=>?_)⟩
  ·apply a6<;>intro h3
   ·refine⟨trivial,?_,trivial⟩;have e:decide (bI (s.getD 0 0)=48)=true:=h2;unfold gA;rw[h1,e,h3];simp
   ·have hz:(dn s&&decide (bI (s.getD 0 0)=48)&&!decide (s=[48]))=false:=by rw[NO]at h3;rw[h3,Ov]
    refine⟨⟨0,⟨Nt _,rfl⟩,rfl,rfl,rfl,rfl,trivial⟩,?_⟩;rintro k ⟨h1,h2⟩;simp only[Nu];apply a6<;>intro h
    ·have hk:k<s.length:=by have:=Xo h;omega
     rw[b8 s k 0 hk,NI]at h2;have eb:((s.getD k 0).toNat:Int)=bI (s.getD k 0):=rfl;refine⟨⟨by omega,by omega⟩,?_⟩;simp only[eb];have hp:=sJ (bI (s.getD k 0));have yes:jC (bI (s.getD k 0))=true->(s.all fun c=>jC (bI c))=(s.drop (k+1)).all fun c=>jC (bI c):=fun e=>by rw[h2,e,O3]
     have no:¬jC (bI (s.getD k 0))=true->false=gA s:=fun e=>by rw[kC hne hz,h2,Og.2 e,NR]
     generalize bI (s.getD k 0)=c at hp yes no⊢
     repeat' (apply a6<;>intro _)
     all_goals (simp only[N8,Np,Ns]at *)
     all_goals first
      |exact⟨trivial,no (fun e=>by have:=hp.1 e;omega),trivial⟩
      |exact⟨cO hk hs.str,k+1,⟨by omega,yes (hp.2 (by omega))⟩,by omega,by omega,(by first|rfl|trivial),(by first|rfl|trivial),(by first|rfl|trivial),trivial⟩
    ·have hk:k=s.length:=by have:¬((k:Int)<(s.length:Int)):=fun e=>h (Xd e);omega
     refine⟨trivial,?_,trivial⟩;rw[kC hne hz,h2,hk,NJ];rfl
  ·have hz:(dn s&&decide (bI (s.getD 0 0)=48)&&!decide (s=[48]))=false:=by
    have e:decide (bI (s.getD 0 0)=48)=false:=by rw[NO]at h2;exact h2
    rw[e,Ov,NR]
   refine⟨⟨0,⟨Nt _,rfl⟩,rfl,rfl,rfl,rfl,trivial⟩,?_⟩;rintro k ⟨h1,h2⟩;simp only[Nu];apply a6<;>intro h
   ·have hk:k<s.length:=by have:=Xo h;omega
    rw[b8 s k 0 hk,NI]at h2;have eb:((s.getD k 0).toNat:Int)=bI (s.getD k 0):=rfl;refine⟨⟨by omega,by omega⟩,?_⟩;simp only[eb];have hp:=sJ (bI (s.getD k 0));have yes:jC (bI (s.getD k 0))=true->(s.all fun c=>jC (bI c))=(s.drop (k+1)).all fun c=>jC (bI c):=fun e=>by rw[h2,e,O3]
    have no:¬jC (bI (s.getD k 0))=true->false=gA s:=fun e=>by rw[kC hne hz,h2,Og.2 e,NR]
    generalize bI (s.getD k 0)=c at hp yes no⊢
    repeat' (apply a6<;>intro _)
    all_goals (simp only[N8,Np,Ns]at *)
    all_goals first
     |exact⟨trivial,no (fun e=>by have:=hp.1 e;omega),trivial⟩
     |exact⟨cO hk hs.str,k+1,⟨by omega,yes (hp.2 (by omega))⟩,by omega,by omega,(by first|rfl|trivial),(by first|rfl|trivial),(by first|rfl|trivial),trivial⟩
   ·have hk:k=s.length:=by have:¬((k:Int)<(s.length:Int)):=fun e=>h (Xd e);omega
    refine⟨trivial,?_,trivial⟩;rw[kC hne hz,h2,hk,NJ];rfl
 ·have hz:(dn s&&decide (bI (s.getD 0 0)=48)&&!decide (s=[48]))=false:=by rw[NO]at h1;rw[h1,NR,NR]
  refine⟨⟨0,⟨Nt _,rfl⟩,rfl,rfl,rfl,rfl,trivial⟩,?_⟩;rintro k ⟨h1,h2⟩;simp only[Nu];apply a6<;>intro h
  ·have hk:k<s.length:=by have:=Xo h;omega
   rw[b8 s k 0 hk,NI]at h2;have eb:((s.getD k 0).toNat:Int)=bI (s.getD k 0):=rfl;refine⟨⟨by omega,by omega⟩,?_⟩;simp only[eb];have hp:=sJ (bI (s.getD k 0));have yes:jC (bI (s.getD k 0))=true->(s.all fun c=>jC (bI c))=(s.drop (k+1)).all fun c=>jC (bI c):=fun e=>by rw[h2,e,O3]
   have no:¬jC (bI (s.getD k 0))=true->false=gA s:=fun e=>by rw[kC hne hz,h2,Og.2 e,NR]
   generalize bI (s.getD k 0)=c at hp yes no⊢
   repeat' (apply a6<;>intro _)
   all_goals (simp only[N8,Np,Ns]at *)
   all_goals first
    |exact⟨trivial,no (fun e=>by have:=hp.1 e;omega),trivial⟩
    |exact⟨cO hk hs.str,k+1,⟨by omega,yes (hp.2 (by omega))⟩,by omega,by omega,(by first|rfl|trivial),(by first|rfl|trivial),(by first|rfl|trivial),trivial⟩
  ·have hk:k=s.length:=by have:¬((k:Int)<(s.length:Int)):=fun e=>h (Xd e);omega
   refine⟨trivial,?_,trivial⟩;rw[kC hne hz,h2,hk,NJ];rfl
theorem Fg(v:Vers)(hv:Wf (.st .version) v) :
  let A:=(3:Nat);let B:=[v.major,v.minor,v.patch];let C:=(0:Int);let D:=(↑(List.length B):Int);let E:=v=v/\List.length B=List.length B/\True;let F:=v=v/\B=B/\D=D/\E;let G:=dfl (Ty.int IntKind.i64);let H:=True/\(40:Int)=ek v/\True;let I:=(1:Int);let J:=(46:UInt8);let K:=splitB J v.pre;let L:=(↑(List.length K):Int);let M:=v=v/\B=B/\D=D/\false=false/\false=false/\true=true/\splitB J v.pre=splitB J v.pre/\L=L/\E;let N:=True/\C=ek v/\True;(∃(x:Nat),(x<=A/\List.all (List.take x B) qY=true)/\C=(↑x:Int)/\F)/\∀(x:Nat),let O:=(↑x:Int);x<=A/\List.all (List.take x B) qY=true->if decide (O<D)=true then(C<=O/\O<D)/\if decide (List.getD B (Int.toNat O) G<C)=true then H else if decide ((999999:Int)<List.getD B (Int.toNat O) G)=true then H else inR IntKind.i64 (O+I)/\∃(y:Nat),(y<=A/\List.all (List.take y B) qY=true)/\A-y<A-x/\O+I=(↑y:Int)/\F else if decide ((24:Int)<(↑(List.length v.pre):Int))=true then H else if(!decide (v.pre=[]))=true then(([46]:Str)=([46]:Str)/\List.length v.pre<(4294967281:Nat))/\(∃(x_1:Nat),(x_1<=List.length K/\List.all (List.take x_1 K) gA=true)/\C=(↑x_1:Int)/\O=O/\M)/\∀(x_1:Nat),let P:=(↑x_1:Int);x_1<=List.length K/\List.all (List.take x_1 K) gA=true->if decide (P<L)=true then(C<=P/\P<L)/\if(!gA (List.getD K (Int.toNat P) (dfl Ty.str)))=true then H else inR IntKind.i64 (P+I)/\∃(y:Nat),(y<=List.length K/\List.all (List.take y K) gA=true)/\List.length K-y<List.length K-x_1/\P+I=(↑y:Int)/\O=O/\M else N else N:=by
 conv=>zeta
 have bad:∀k:Nat,k<3->qY ([v.major,v.minor,v.patch].getD k (dfl (.int .i64)))=false->True/\(40:Int)=ek v/\True:=fun k hk e=>
  ⟨trivial,(BD (oZ (l:=[v.major,v.minor,v.patch]) (dfl (.int .i64)) hk e)).symm,trivial⟩
 refine⟨⟨0,⟨by omega,rfl⟩,?_⟩,?_⟩
 ·exact Xr
 rintro k ⟨h1,h2⟩;have l3:[v.major,v.minor,v.patch].length=3:=rfl;simp only[Nu,l3];apply a6<;>intro h
 ·have hk:k<3:=by have:=Xo h;omega
  have bk:=bad k hk;have gk:=gW (l:=[v.major,v.minor,v.patch]) (dfl (.int .i64)) hk h2;refine⟨⟨by omega,by omega⟩,?_⟩;refine a6 (fun a=>bk ?_) (fun a=>a6 (fun b=>bk ?_) (fun b=>?_))
  ·have:=Xo a;have e:¬0<=[v.major,v.minor,v.patch].getD k (dfl (.int .i64)):=by omega
   unfold qY;rw[Xf e,NR]
  ·have:=Xo b;have e:¬[v.major,v.minor,v.patch].getD k (dfl (.int .i64))<=999999:=by omega
   unfold qY;rw[Xf e,Ov]
  ·have a:¬[v.major,v.minor,v.patch].getD k (dfl (.int .i64))<0:=fun e=>a (Xd e);have b:¬999999<[v.major,v.minor,v.patch].getD k (dfl (.int .i64)):=fun e=>b (Xd e);have a':0<=[v.major,v.minor,v.patch].getD k (dfl (.int .i64)):=by omega
   have b':[v.major,v.minor,v.patch].getD k (dfl (.int .i64))<=999999:=by omega
   refine⟨aK (by omega) (by omega),k+1,⟨by omega,gk ?_⟩,by omega,by omega,?_⟩
   ·unfold qY;rw[Xd a',Xd b'];rfl
   ·exact Xr
 ·have hk:k=3:=by have:¬((k:Int)<((3:Nat):Int)):=fun e=>h (Xd e);omega
  subst hk;have hg:=yM h2;apply a6<;>intro a
  ·have:=Xo a;rw[N6 (by omega)]at hg;rw[hg];exact Xr
  have a:¬(24:Int)<(v.pre.length:Int):=fun e=>a (Xd e);have hl:=jW 46 v.pre;rw[N3 (by omega)]at hg;apply a6<;>intro b
  ·have b:¬v.pre=[]:=by simpa using b
   rw[N3 b]at hg;refine⟨⟨(by first|rfl|trivial),by omega⟩,⟨0,⟨by omega,rfl⟩,?_⟩,?_⟩
   ·exact Xr
   rintro j ⟨j1,j2⟩;apply a6<;>intro c
   ·have hj:j<(splitB 46 v.pre).length:=by have:=Xo c;omega
    refine⟨⟨by omega,by omega⟩,a6 (fun d=>?_) (fun d=>?_)⟩
    ·have d:gA ((splitB 46 v.pre).getD j (dfl .str))=false:=by simpa using d
     rw[oZ (dfl .str) hj d,N3 NL]at hg;rw[hg];exact Xr
    ·have d:gA ((splitB 46 v.pre).getD j (dfl .str))=true:=by simpa using d
     refine⟨aK (by omega) (by omega),j+1,⟨by omega,gW (dfl .str) hj j2 d⟩,by omega,by omega,?_⟩;exact Xr
   ·have hj:(splitB 46 v.pre).length<=j:=by have:¬((j:Int)<((splitB 46 v.pre).length:Int)):=fun e=>c (Xd e);omega
    rw[sK hj]at j2;rw[N6 j2]at hg;rw[hg];exact Xr
  ·have b:v.pre=[]:=by simpa using b
   rw[N6 b]at hg;rw[hg];exact Xr
theorem Fh(s:Str)(ho:s.length<=4096) :
  let A:=(4294967281:Nat);let B:=aU s;let C:=(46:UInt8);let D:=splitB C B;let E:=(↑(List.length D):Int);let F:=True;let G:=(0:Int);let H:=er s;let I:=G=H.1.major;let J:=G=H.1.minor;let K:=G=H.1.patch;let L:=[]=H.1.pre;let M:=F/\I/\J/\K/\L/\(40:Int)=H.2/\F;let N:=(3:Nat);let O:=aU s=aU s;let P:=eI s=eI s;let Q:=jm s=jm s;let R:=splitB C B=splitB C B;let S:=false=false;let T:=G=G/\G=G/\G=G/\lH UInt8=lH UInt8/\F;let U:=dfl Ty.str;let V:=(1:Int);let W:=Int.toNat G;let X:=(↑N:Int);let Y:=(2:Int);let Z:=dfl (Ty.int IntKind.i64);let a:=Int.toNat V;let b:=Int.toNat Y;let c:=(∃(x:Nat),(x<=N/\List.all (List.take x D) fW=true)/\G=(↑x:Int)/\s=s/\O/\P/\Q/\R/\S/\R/\E=E/\List.replicate N G=oY s x/\T)/\∀(x:Nat),let d:=(↑x:Int);let e:=List.getD D (Int.toNat d) U;let f:=(↑(List.length e):Int);let g:=oY s x;let h:=kz e/\(G<=d/\d<X)/\Int.toNat d<List.length g/\inR IntKind.i64 (d+V)/\∃(y:Nat),(y<=N/\List.all (List.take y D) fW=true)/\N-y<N-x/\d+V=(↑y:Int)/\s=s/\O/\P/\Q/\R/\S/\R/\E=E/\List.set g (Int.toNat d) (im e)=oY s y/\T;x<=N/\List.all (List.take x D) fW=true->if decide (d<E)=true then(G<=d/\d<E)/\if(!dn e)=true then M else if decide ((6:Int)<f)=true then M else if decide (V<f)=true then(G<=G/\G<f)/\if decide ((↑(UInt8.toNat (List.getD e W (0:UInt8))):Int)=(48:Int))=true then M else h else h else(G<=G/\G<X)/\Int.toNat G<List.length g/\(G<=V/\V<X)/\Int.toNat V<List.length g/\(G<=Y/\Y<X)/\Int.toNat Y<List.length g/\if(!decide (ek {major:=List.getD g W Z,minor:=List.getD g a Z,patch:=List.getD g b Z,pre:=eI s:Vers}=G))=true then F/\I/\J/\K/\L/\ek {major:=List.getD g W Z,minor:=List.getD g a Z,patch:=List.getD g b Z,pre:=eI s:Vers}=H.2/\F else F/\List.getD g W Z=H.1.major/\List.getD g a Z=H.1.minor/\List.getD g b Z=H.1.patch/\eI s=H.1.pre/\G=H.2/\F;(([45]:Str)=([45]:Str)/\List.length s<A)/\(([46]:Str)=([46]:Str)/\List.length B<A)/\if(!decide (E=(3:Int)))=true then M else if jm s=true then if decide (eI s=[])=true then M else c else c:=by
 conv=>zeta
 have bad:er s=(noV,40)->True/\(0:Int)=(er s).1.major/\(0:Int)=(er s).1.minor/\(0:Int)=(er s).1.patch/\[]=(er s).1.pre/\(40:Int)=(er s).2/\True:=fun e=>by rw[e];exact Xr
 have hc:=vi s;refine⟨⟨(by first|rfl|trivial),by omega⟩,⟨(by first|rfl|trivial),by omega⟩,a6 (fun a=>?_) (fun a=>?_)⟩
 ·exact bad (yN (fun e=>by rw[e]at a;simp at a))
 have a:(splitB 46 (aU s)).length=3:=by simp only[Np,Ns,Decidable.not_not]at a;omega
 refine a6 (fun b=>a6 (fun c=>?_) (fun c=>?_)) (fun b=>?_)
 ·exact bad (yO b (Xo c))
 ·have he:=qK a (fun _ e=>c (Xd e));refine⟨⟨0,⟨by omega,rfl⟩,?_⟩,?_⟩
  ·exact Xr
  rintro k ⟨h1,h2⟩;have lr:(oY s k).length=3:=rfl;simp only[Nu,lr];apply a6<;>intro h
  ·have hk:k<(splitB 46 (aU s)).length:=by have:=Xo h;omega
   refine⟨⟨by omega,by omega⟩,?_⟩;have no:fW ((splitB 46 (aU s)).getD k (dfl .str))=false->er s=(noV,40):=fun e=>by rw[he,oZ (dfl .str) hk e,N3 NL]
   have yes:fW ((splitB 46 (aU s)).getD k (dfl .str))=true->((splitB 46 (aU s)).take (k+1)).all fW=true:=gW (dfl .str) hk h2;have hset:=yP (s:=s) (k:=k) (by omega);refine a6 (fun a=>bad (no ?_)) (fun a=>a6 (fun b=>bad (no ?_)) (fun b=>a6 (fun c=>⟨⟨by omega,by have:=Xo c;omega⟩,a6 (fun d=>bad (no ?_)) (fun d=>?_)⟩) (fun c=>?_)))
   ·unfold fW;rw[Np]at a;rw[a,NR,NR]
   ·have:=Xo b;unfold fW;rw[Xf (p:=List.length ((splitB 46 (aU s)).getD k (dfl .str))<=6) (by omega),Ov,NR]
   ·have e:decide (bI (((splitB 46 (aU s)).getD k (dfl .str)).getD 0 0)=48)=true:=d;have c:=Xo c;unfold fW;rw[e,Xd (p:=1<List.length ((splitB 46 (aU s)).getD k (dfl .str))) (by omega)];simp
   ·have e:decide (bI (((splitB 46 (aU s)).getD k (dfl .str)).getD 0 0)=48)=false:=by rw[NO]at d;exact d
    have b:¬(6:Int)<_:=fun x=>b (Xd x);have en:fW ((splitB 46 (aU s)).getD k (dfl .str))=true:=by unfold fW;rw[e];simp only[Np,PO]at a;rw[a,Xd (p:=List.length ((splitB 46 (aU s)).getD k (dfl .str))<=6) (by omega)];simp
    have ed:dn ((splitB 46 (aU s)).getD k (dfl .str))=true/\((splitB 46 (aU s)).getD k (dfl .str)).length<=6:=by have e:=en;unfold fW at e;simp only[N4,N8]at e;exact⟨e.1.1,e.1.2⟩
    refine⟨ir ed.1 (by omega),⟨by omega,by omega⟩,by omega,aK (by omega) (by omega),k+1,⟨by omega,yes en⟩,by omega,by omega,?_⟩
    repeat (first|exact trivial|refine⟨by first|rfl|(exact hset)|trivial,?_⟩)
   ·have b:¬(6:Int)<_:=fun x=>b (Xd x);have c:¬(1:Int)<_:=fun x=>c (Xd x);have en:fW ((splitB 46 (aU s)).getD k (dfl .str))=true:=by unfold fW;simp only[Np,PO]at a;rw[a,Xd (p:=List.length ((splitB 46 (aU s)).getD k (dfl .str))<=6) (by omega),Xf (p:=1<List.length ((splitB 46 (aU s)).getD k (dfl .str))) (by omega)];simp
    have ed:dn ((splitB 46 (aU s)).getD k (dfl .str))=true/\((splitB 46 (aU s)).getD k (dfl .str)).length<=6:=by have e:=en;unfold fW at e;simp only[N4,N8]at e;exact⟨e.1.1,e.1.2⟩
    refine⟨ir ed.1 (by omega),⟨by omega,by omega⟩,by omega,aK (by omega) (by omega),k+1,⟨by omega,yes en⟩,by omega,by omega,?_⟩
    repeat (first|exact trivial|refine⟨by first|rfl|(exact hset)|trivial,?_⟩)
  ·have hk:k=3:=by have:¬((k:Int)<((splitB 46 (aU s)).length:Int)):=fun e=>h (Xd e);omega
   subst hk;rw[sK (by omega)]at h2;rw[N6 h2]at he;have ev:(⟨List.getD (oY s 3) (Int.toNat 0) (dfl (Ty.int IntKind.i64)),List.getD (oY s 3) (Int.toNat 1) (dfl (Ty.int IntKind.i64)),List.getD (oY s 3) (Int.toNat 2) (dfl (Ty.int IntKind.i64)),eI s⟩:Vers)=fM s:=rfl;refine⟨⟨by omega,by omega⟩,by decide,⟨by omega,by omega⟩,by decide,⟨by omega,by omega⟩,by decide,?_⟩;apply a6<;>intro a
   ·have a:¬ek (fM s)=0:=by rw[<-ev];simpa using a
    rw[N3 a]at he;have a4:=(sL (fM s)).resolve_left a;rw[he,ev,a4]
    repeat (first|exact trivial|refine⟨by first|rfl|(exact hset)|trivial,?_⟩)
   ·have a:ek (fM s)=0:=by rw[<-ev];simpa using a
    rw[N6 a]at he;rw[he]
    repeat (first|exact trivial|refine⟨by first|rfl|(exact hset)|trivial,?_⟩)
 ·have he:=qK a (fun e=>absurd e b);refine⟨⟨0,⟨by omega,rfl⟩,?_⟩,?_⟩
  ·exact Xr
  rintro k ⟨h1,h2⟩;have lr:(oY s k).length=3:=rfl;simp only[Nu,lr];apply a6<;>intro h
  ·have hk:k<(splitB 46 (aU s)).length:=by have:=Xo h;omega
   refine⟨⟨by omega,by omega⟩,?_⟩;have no:fW ((splitB 46 (aU s)).getD k (dfl .str))=false->er s=(noV,40):=fun e=>by rw[he,oZ (dfl .str) hk e,N3 NL]
   have yes:fW ((splitB 46 (aU s)).getD k (dfl .str))=true->((splitB 46 (aU s)).take (k+1)).all fW=true:=gW (dfl .str) hk h2;have hset:=yP (s:=s) (k:=k) (by omega);refine a6 (fun a=>bad (no ?_)) (fun a=>a6 (fun b=>bad (no ?_)) (fun b=>a6 (fun c=>⟨⟨by omega,by have:=Xo c;omega⟩,a6 (fun d=>bad (no ?_)) (fun d=>?_)⟩) (fun c=>?_)))
   ·unfold fW;rw[Np]at a;rw[a,NR,NR]
   ·have:=Xo b;unfold fW;rw[Xf (p:=List.length ((splitB 46 (aU s)).getD k (dfl .str))<=6) (by omega),Ov,NR]
   ·have e:decide (bI (((splitB 46 (aU s)).getD k (dfl .str)).getD 0 0)=48)=true:=d;have c:=Xo c;unfold fW;rw[e,Xd (p:=1<List.length ((splitB 46 (aU s)).getD k (dfl .str))) (by omega)];simp
   ·have e:decide (bI (((splitB 46 (aU s)).getD k (dfl .str)).getD 0 0)=48)=false:=by rw[NO]at d;exact d
    have b:¬(6:Int)<_:=fun x=>b (Xd x);have en:fW ((splitB 46 (aU s)).getD k (dfl .str))=true:=by unfold fW;rw[e];simp only[Np,PO]at a;rw[a,Xd (p:=List.length ((splitB 46 (aU s)).getD k (dfl .str))<=6) (by omega)];simp
    have ed:dn ((splitB 46 (aU s)).getD k (dfl .str))=true/\((splitB 46 (aU s)).getD k (dfl .str)).length<=6:=by have e:=en;unfold fW at e;simp only[N4,N8]at e;exact⟨e.1.1,e.1.2⟩
    refine⟨ir ed.1 (by omega),⟨by omega,by omega⟩,by omega,aK (by omega) (by omega),k+1,⟨by omega,yes en⟩,by omega,by omega,?_⟩
    repeat (first|exact trivial|refine⟨by first|rfl|(exact hset)|trivial,?_⟩)
   ·have b:¬(6:Int)<_:=fun x=>b (Xd x);have c:¬(1:Int)<_:=fun x=>c (Xd x);have en:fW ((splitB 46 (aU s)).getD k (dfl .str))=true:=by unfold fW;simp only[Np,PO]at a;rw[a,Xd (p:=List.length ((splitB 46 (aU s)).getD k (dfl .str))<=6) (by omega),Xf (p:=1<List.length ((splitB 46 (aU s)).getD k (dfl .str))) (by omega)];simp
    have ed:dn ((splitB 46 (aU s)).getD k (dfl .str))=true/\((splitB 46 (aU s)).getD k (dfl .str)).length<=6:=by have e:=en;unfold fW at e;simp only[N4,N8]at e;exact⟨e.1.1,e.1.2⟩
    refine⟨ir ed.1 (by omega),⟨by omega,by omega⟩,by omega,aK (by omega) (by omega),k+1,⟨by omega,yes en⟩,by omega,by omega,?_⟩
    repeat (first|exact trivial|refine⟨by first|rfl|(exact hset)|trivial,?_⟩)
  ·have hk:k=3:=by have:¬((k:Int)<((splitB 46 (aU s)).length:Int)):=fun e=>h (Xd e);omega
   subst hk;rw[sK (by omega)]at h2;rw[N6 h2]at he;have ev:(⟨List.getD (oY s 3) (Int.toNat 0) (dfl (Ty.int IntKind.i64)),List.getD (oY s 3) (Int.toNat 1) (dfl (Ty.int IntKind.i64)),List.getD (oY s 3) (Int.toNat 2) (dfl (Ty.int IntKind.i64)),eI s⟩:Vers)=fM s:=rfl;refine⟨⟨by omega,by omega⟩,by decide,⟨by omega,by omega⟩,by decide,⟨by omega,by omega⟩,by decide,?_⟩;apply a6<;>intro a
   ·have a:¬ek (fM s)=0:=by rw[<-ev];simpa using a
    rw[N3 a]at he;have a4:=(sL (fM s)).resolve_left a;rw[he,ev,a4]
    repeat (first|exact trivial|refine⟨by first|rfl|(exact hset)|trivial,?_⟩)
   ·have a:ek (fM s)=0:=by rw[<-ev];simpa using a
    rw[N6 a]at he;rw[he]
    repeat (first|exact trivial|refine⟨by first|rfl|(exact hset)|trivial,?_⟩)
theorem IB(s:Str)(c:SC)(n:Nat)(e a:Int)(ho:n=c.out.length) :
  let A:=gq e a c;True/\false=false/\s=s/\c.pos=A.2.pos/\c.out=A.2.out/\e=A.2.err/\a=A.2.fat/\n=List.length A.2.out/\True:=by
 conv=>zeta
 exact⟨trivial,rfl,rfl,rfl,rfl,rfl,rfl,ho,trivial⟩
theorem Fi(s:Str)(c:SC)(n:Nat)(a b:Int)(ho:n=c.out.length/\s.length<=4096/\0<=a/\a<=b/\b<=(s.length:Int)) :
  let A:=List.drop (Int.toNat a) (List.take (Int.toNat b) s);let B:=wW A;let C:=iA s a b c;let D:=gq B.err (a+B.pos) c;((0:Int)<=a/\a<=b/\b<=(↑(List.length s):Int))/\List.length A<=(4096:Nat)/\if(!decide (B.err=(0:Int)))=true then inR IntKind.i64 (a+B.pos)/\n=List.length c.out/\True/\false=C.1/\s=s/\D.2.pos=C.2.pos/\D.2.out=C.2.out/\D.2.err=C.2.err/\D.2.fat=C.2.fat/\List.length D.2.out=List.length C.2.out/\True else True/\true=C.1/\s=s/\c.pos=C.2.pos/\c.out=C.2.out/\c.err=C.2.err/\c.fat=C.2.fat/\n=List.length C.2.out/\True:=by
 conv=>zeta
 obtain⟨h1,h2,h3,h4,h5⟩:=ho;have hl:=oX h3 h4 h5;have hc:List.drop (Int.toNat a) (List.take (Int.toNat b) s)=cut s a b:=rfl;simp only[hc];refine⟨⟨h3,h4,h5⟩,by omega,?_⟩;unfold iA
 cases hb:bO (cut s a b)with
 |none=>
  rw[EC hb];refine⟨trivial,rfl,?_⟩
  repeat (first|exact trivial|exact⟨h1,trivial⟩|refine⟨by first|rfl|trivial,?_⟩)
 |some k=>rw[ED hb];have:=vj hb;refine⟨aK (by show _<=a+(k:Int);omega) (by show a+(k:Int)<=_;omega),h1,trivial,?_⟩;exact Xr
theorem Kz(s:Str)(c:SC)(n:Nat)(k:Int)(t:Str)(fr:Int)(ho:n=c.out.length/\(n+1) *32<=140737488355328) :
  let A:=[{kind:=k,text:=t,pos:=fr:Tokn}];let B:=fE k t fr c;(List.length c.out=n/\(List.length c.out+List.length A)*(32:Nat)<=(140737488355328:Nat))/\True/\true=true/\fr=fr/\s=s/\c.pos=B.2.pos/\c.out++A=B.2.out/\c.err=B.2.err/\c.fat=B.2.fat/\List.length (c.out++A)=n+(1:Nat)/\True:=by
 conv=>zeta
 obtain⟨h1,h2⟩:=ho;refine⟨⟨h1.symm,by simp only[Nc];omega⟩,trivial,by trivial,by trivial,by trivial,rfl,rfl,rfl,rfl,?_,trivial⟩;rw[N5,Nc,h1]
theorem C6(s:Str)(c:SC)(n:Nat)(ho:n=c.out.length/\n<=4096/\s.length<=4096/\0<=c.pos/\c.pos<=(s.length:Int)/\c.pos<(s.length:Int)) :
  let A:=(1:Int);let B:=(0:Int);let C:=(↑(List.length s):Int);let D:=c.pos=c.pos;let E:=s=s;let F:=True;let G:=List.length s<=(4096:Nat);let H:=(2:Int);let I:=cn s c;let J:=[]=I.1;let K:=false=I.2.1;let L:=(60:Int);let M:=([110,116,34,92]:Str);let N:=([10,9,34,92]:Str);let O:=(0:UInt8);let P:=(140737488355328:Nat);inR IntKind.i64 (c.pos+A)/\(∃(x:Nat×Str×SC),(x.2.2.out=c.out/\x.2.2.err=c.err/\x.2.2.fat=c.fat/\B<=x.2.2.pos/\x.2.2.pos<=C/\(↑(List.length x.2.1):Int)<=x.2.2.pos/\C<x.2.2.pos+(↑x.1:Int)/\cn s c=bW s c.pos x.1 x.2.1 x.2.2)/\b9 x.2.1=[]/\D/\E/\c.pos+A=x.2.2.pos/\c.out=x.2.2.out/\c.err=x.2.2.err/\c.fat=x.2.2.fat/\List.length (b9 x.2.1)=(0:Nat)/\n=n/\F)/\∀(x:Nat×Str×SC),let Q:=B<=x.2.2.pos;let R:=x.2.2.pos<=C;let S:=x.2.2.pos+B;let T:=n=List.length x.2.2.out;let U:=gq L c.pos x.2.2;let V:=T/\F/\J/\K/\E/\U.2.pos=I.2.2.pos/\U.2.out=I.2.2.out/\U.2.err=I.2.2.err/\U.2.fat=I.2.2.fat/\List.length U.2.out=List.length I.2.2.out/\F;let W:=x.2.2.pos+A;let X:=b9 x.2.1;let Y:=bAt s W;let Z:=List.length X=List.length X;let a:=[(↑(UInt8.toNat (List.getD N (Int.toNat (pZ M Y)) O)):Int)];let b:=(↑(aq aH s x.2.2.pos):Int);let d:=x.2.2.pos+b;let e:=cut s x.2.2.pos d;let f:=(↑(List.length e):Int);let g:=x.2.2.pos+b-f;let h:=(iA s g d {pos:=x.2.2.pos+b,out:=x.2.2.out,err:=x.2.2.err,fat:=x.2.2.fat:SC});x.2.2.out=c.out/\x.2.2.err=c.err/\x.2.2.fat=c.fat/\Q/\R/\(↑(List.length x.2.1):Int)<=x.2.2.pos/\C<x.2.2.pos+(↑x.1:Int)/\cn s c=bW s c.pos x.1 x.2.1 x.2.2->(G/\Q/\R/\B<=B/\B<=H)/\if decide (bAt s S<(32:Int))=true then V else if decide (bAt s S=(34:Int))=true then inR IntKind.i64 W/\F/\List.map (fun(n:Int)=>UInt8.ofNat (Int.toNat n)) X=I.1/\true=I.2.1/\E/\x.2.2.pos+A=I.2.2.pos/\x.2.2.out=I.2.2.out/\x.2.2.err=I.2.2.err/\x.2.2.fat=I.2.2.fat/\n=List.length I.2.2.out/\F else if decide (bAt s S=(92:Int))=true then(G/\Q/\R/\B<=A/\A<=H)/\if decide (pZ M Y<B)=true then V else(B<=pZ M Y/\pZ M Y<(↑(List.length N):Int))/\(Z/\(List.length X+List.length a)*(1:Nat)<=P)/\inR IntKind.i64 (x.2.2.pos+H)/\∃(y:Nat×Str×SC),(y.2.2.out=c.out/\y.2.2.err=c.err/\y.2.2.fat=c.fat/\B<=y.2.2.pos/\y.2.2.pos<=C/\(↑(List.length y.2.1):Int)<=y.2.2.pos/\C<y.2.2.pos+(↑y.1:Int)/\cn s c=bW s c.pos y.1 y.2.1 y.2.2)/\y.1<x.1/\b9 x.2.1++a=b9 y.2.1/\D/\E/\x.2.2.pos+H=y.2.2.pos/\x.2.2.out=y.2.2.out/\x.2.2.err=y.2.2.err/\x.2.2.fat=y.2.2.fat/\List.length (b9 x.2.1++a)=List.length (b9 y.2.1)/\n=n/\F else(G/\Q/\R)/\inR IntKind.i64 g/\(T/\G/\B<=x.2.2.pos+b-f/\x.2.2.pos+b-f<=x.2.2.pos+b/\x.2.2.pos+b<=C)/\if(!h.1)=true then F/\J/\K/\E/\h.2.pos=I.2.2.pos/\h.2.out=I.2.2.out/\h.2.err=I.2.2.err/\h.2.fat=I.2.2.fat/\List.length h.2.out=List.length I.2.2.out/\F else(Z/\(List.length X+List.length e)*(1:Nat)<=P)/\∃(y:Nat×Str×SC),(y.2.2.out=c.out/\y.2.2.err=c.err/\y.2.2.fat=c.fat/\B<=y.2.2.pos/\y.2.2.pos<=C/\(↑(List.length y.2.1):Int)<=y.2.2.pos/\C<y.2.2.pos+(↑y.1:Int)/\cn s c=bW s c.pos y.1 y.2.1 y.2.2)/\y.1<x.1/\b9 x.2.1++b9 e=b9 y.2.1/\D/\E/\h.2.pos=y.2.2.pos/\h.2.out=y.2.2.out/\h.2.err=y.2.2.err/\h.2.fat=y.2.2.fat/\List.length (b9 x.2.1++b9 e)=List.length (b9 y.2.1)/\List.length h.2.out=n/\F:=by
 conv=>zeta
 obtain⟨ho1,ho2,ho3,ho4,ho5,ho6⟩:=ho;refine⟨aK (by omega) (by omega),⟨(s.length+2,[],bV c (c.pos+1)),⟨rfl,rfl,rfl,by show 0<=c.pos+1;omega,by show c.pos+1<=_;omega,by show((0:Nat):Int)<=c.pos+1;omega,by show _<c.pos+1+((s.length+2:Nat):Int);omega,rfl⟩,?_⟩,?_⟩
 ·exact Xr
 rintro⟨f,acc,d⟩ ⟨d1,d2,d3,d4,d5,d6,d7,d8⟩;simp only at d1 d2 d3 d4 d5 d6 d7 d8;obtain⟨f,rfl⟩:∃g,f=g+1:=⟨f-1,by omega⟩;rw[bW]at d8;have e0:d.pos+0=d.pos:=Int.add_zero _;have hn:n=d.out.length:=by rw[d1];exact ho1
 simp only[e0];refine⟨⟨by omega,by omega,by omega,by omega,by omega⟩,a6 (fun h=>?_) (fun h=>?_)⟩
 ·replace h:=Xo h;rw[N6 h]at d8;rw[d8];refine⟨hn,trivial,?_⟩;exact Xr
 replace h:¬bAt s d.pos<32:=fun e=>h (Xd e);rw[N3 h]at d8;apply a6<;>intro k
 ·replace k:=Xo k;rw[N6 k]at d8;rw[d8];refine⟨aK (by omega) (by omega),trivial,sM acc,by trivial,by trivial,rfl,rfl,rfl,rfl,hn,trivial⟩
 replace k:¬bAt s d.pos=34:=fun e=>k (Xd e);rw[N3 k]at d8;apply a6<;>intro j
 ·replace j:=Xo j;rw[N6 j]at d8;refine⟨⟨by omega,by omega,by omega,by omega,by omega⟩,?_⟩
  cases he:jn (bAt s (d.pos+1))with
  |none=>have hi:=HB he;rw[he]at d8;simp only at d8;refine a6 (fun _=>?_) (fun e=>absurd (Xd hi) e);rw[d8];refine⟨hn,trivial,?_⟩;exact Xr
  |some x=>obtain⟨i1,i2,i3⟩:=HC he;have hp:=mU he;rw[he]at d8;simp only at d8;refine a6 (fun e=>absurd (Xo e) (by omega)) (fun _=>?_);simp only[i3];refine⟨⟨i1,i2⟩,⟨by trivial,by have:(b9 acc).length=acc.length:=Oc _;rw[this];simp only[Nc];omega⟩,aK (by omega) (by omega),(f,acc++[UInt8.ofNat x.toNat],bV d (d.pos+2)),⟨d1,d2,d3,by show 0<=d.pos+2;omega,by show d.pos+2<=_;omega,by show((acc++[_]).length:Int)<=d.pos+2;rw[N5,Nc];omega,by show _<d.pos+2+(f:Int);omega,d8⟩,by show f<f+1;omega,by show _=b9 (acc++[UInt8.ofNat x.toNat]);rw[lf];rfl,by trivial,by trivial,rfl,rfl,rfl,rfl,by rw[lf];rfl,by trivial,trivial⟩
 replace j:¬bAt s d.pos=92:=fun e=>j (Xd e);rw[N3 j]at d8;obtain⟨p1,p2⟩:=q8 h k j;have p2:=p2 d4;have p3:=dp (pr:=aH) d4 (Qm p1);have hcl:=oX (s:=s) d4 (b:=d.pos+(aq aH s d.pos:Int)) (by omega) p3;have e1:d.pos+(aq aH s d.pos:Int)-((cut s d.pos (d.pos+(aq aH s d.pos:Int))).length:Int)=d.pos:=by omega
 simp only[e1];refine⟨⟨by omega,by omega,by omega⟩,aK (by omega) (by omega),⟨hn,by omega,by omega,by omega,by omega⟩,?_⟩;unfold iA
 cases hb:bO (cut s d.pos (d.pos+(aq aH s d.pos:Int)))with
 |some q=>rw[hb]at d8;simp only at d8;rw[d8];refine a6 (fun _=>?_) (fun e=>absurd rfl e);refine⟨trivial,?_⟩;exact Xr
 |none=>
  rw[hb]at d8;simp only at d8;refine a6 (fun e=>Bool.noConfusion e) (fun _=>?_);have hbl:∀x:Str,(b9 x).length=x.length:=fun _=>Oc _;refine⟨⟨by trivial,by rw[hbl];omega⟩,(f,acc++cut s d.pos (d.pos+(aq aH s d.pos:Int)),bV d (d.pos+(aq aH s d.pos:Int))),⟨d1,d2,d3,by show 0<=d.pos+_;omega,p3,by show((acc++cut s _ _).length:Int)<=d.pos+_;rw[N5];omega,by show _<d.pos+_+(f:Int);omega,d8⟩,by show f<f+1;omega,(lf _ _).symm,by trivial,by trivial,rfl,rfl,rfl,rfl,by rw[lf],?_⟩
  first|exact⟨hn,trivial⟩|exact⟨hn.symm,trivial⟩
theorem KA(s:Str)  :
  let A:=True;let B:=A/\true=lF s/\A;if decide (s=([60,61]:Str))=true then B else if decide (s=([62,61]:Str))=true then B else if decide (s=([45,62]:Str))=true then B else if decide ((↑(List.length s):Int)=(1:Int))=true then List.length s=(1:Nat)/\A/\decide (List.getD s (0:Nat) (0:UInt8)∈([40,41,123,125,91,93,60,62,61,94,42,44,58,46,47,64,124]:Str))=lF s/\A else A/\false=lF s/\A:=by
 conv=>zeta
 unfold lF;apply a6<;>intro h
 ·rw[h];exact Xr
 rw[NO]at h;apply a6<;>intro k
 ·rw[k,h];exact Xr
 rw[NO]at k;apply a6<;>intro j
 ·rw[k,h,j];exact Xr
 rw[NO]at j;rw[h,k,j];simp only[Bool.false_or];apply a6<;>intro i
 ·have i:=Xo i;have e:s.length=1:=by omega
  rw[Xd e,O3];exact⟨e,trivial,rfl,trivial⟩
 ·have i:¬(s.length:Int)=1:=fun e=>i (Xd e);rw[Xf (p:=s.length=1) (by omega),NR];exact Xr
end Go.AL.Seat
end
