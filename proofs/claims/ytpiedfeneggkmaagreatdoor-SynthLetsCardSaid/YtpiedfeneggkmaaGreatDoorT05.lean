/- Plain facts. The layer: Go code as conditions, and that they are sound. What the functions' conditions say, proved. The contracts of the functions. No condition. -/
import Derived.Test.YtpiedfeneggkmaaGreatDoorT04
import Derived.BigQuiet
import Derived.Deep.QuietTactic
import Derived.KernelRfl
import Derived.Recover
import Derived.Shelf.SlSortCmp.Whole1
import Derived.Shelf.Slices.Clone
import Derived.Shelf.Small.Strs
import Derived.Sort.Walk0
import Derived.Test.YtpiedfeneggkmaaGreatDoorProg
set_option linter.all false
set_option maxRecDepth 100000
section
namespace Go.Proofs.YtpiedfeneggkmaaGreatDoor.Join
open Go.AL Go.AL.Seat Go.ChangeShapes Go.WideShapes Go.RowKit Go.Lib Go.Shelf
set_option maxRecDepth 1000000
theorem Ds:TermAt Tryz.prog 26:=⟨_,_,_,_,_,_,_,_,_,9,34,Tryz.underlying26,by kernel_rfl,⟨rfl,rfl,rfl,rfl,rfl,rfl,rfl,rfl,rfl⟩,⟨by kernel_rfl,by kernel_rfl,by kernel_rfl,by kernel_rfl,by kernel_rfl,by kernel_rfl,by kernel_rfl,by kernel_rfl,by kernel_rfl⟩,
 ⟨by kernel_rfl,by kernel_rfl,by kernel_rfl,by kernel_rfl,by kernel_rfl,by kernel_rfl,by kernel_rfl,by kernel_rfl,by kernel_rfl⟩,⟨by kernel_rfl,by kernel_rfl,by kernel_rfl⟩,xu⟩
theorem DY:Tryz.prog.readableRec 26=true:=by kernel_rfl
end Go.Proofs.YtpiedfeneggkmaaGreatDoor.Join
end
section
open Go Go.AL Go.Proofs
namespace Go.AL.Seat
variable [Tabs]
def r1:TR:=⟨.other,1,8,[.undef],none⟩
def r2:TR:=⟨.int .i64,1,8,[.int .i64 0],some (.int .i64)⟩
def r5:TR:=⟨.int .u8,1,1,[.int .u8 0],some (.int .u8)⟩
def r7:TR:=⟨.strct true [(0,2),(1,3),(2,4),(3,6)],4,24,[.int .i64 0,.int .i64 0,.bool false,.int .u8 0],none⟩
def r9:TR:=⟨.str,1,16,[.str []],some .str⟩
def r12:TR:=⟨.int .u64,1,8,[.int .u64 0],some (.int .u64)⟩
def r13:TR:=⟨.strct false [(0,9),(1,12)],2,24,[.str [],.int .u64 0],none⟩
def r18:TR:=⟨.strct false [(0,17)],1,8,[.nilp],none⟩
def r20:TR:=⟨.iface,1,16,[.nilif],none⟩
def r21:TR:=⟨.int .i32,1,4,[.int .i32 0],some (.int .i32)⟩
def r90:TR:=⟨.strct true [(0,9),(1,3)],2,24,[.str [],.int .i64 0],none⟩
def r92:TR:=⟨.strct false [(0,91),(2,70),(3,37)],5,64,[.str [],.int .i64 0,.nils,.int .i64 0,.int .i64 0],none⟩
def r118:TR:=⟨.strct true [(0,3),(1,3),(2,3),(3,3)],4,32,[.int .i64 0,.int .i64 0,.int .i64 0,.int .i64 0],none⟩
def r125:TR:=⟨.strct false [],0,0,[],none⟩
def r222:TR:=⟨.strct true [(0,5),(1,5)],2,2,[.int .u8 0,.int .u8 0],none⟩
def r257:TR:=⟨.strct false [(0,256)],1,8,[.undef],none⟩
def r265:TR:=⟨.strct false [(0,264)],1,8,[.nilm],none⟩
def r279:TR:=⟨.strct false [(0,9),(1,9),(2,197)],3,48,[.str [],.str [],.nilif],none⟩
def r289:TR:=⟨.strct true [(0,9)],1,16,[.str []],none⟩
def r303:TR:=⟨.strct false [(0,17),(1,17),(2,17),(3,9)],4,40,[.nilp,.nilp,.nilp,.str []],none⟩
def r314:TR:=⟨.strct false [(0,12),(1,12),(2,180),(3,309),(4,5),(5,5),(6,310),(7,311),(8,287),(9,312),(10,313)],11,48,[.int .u64 0,.int .u64 0,.int .u32 0,.int .u8 0,.int .u8 0,.int .u8 0,.int .u8 0,.undef,.nilp,.int .i32 0,.int .i32 0],none⟩
def tbl:List (Nat × TR):=[(1,r1),
 (2,r2),
 (3,r2),
 (4,⟨.bool,1,1,[.bool false],some .bool⟩),
 (5,r5),
 (6,r5),
 (7,r7),
 (8,r7),
 (9,r9),
 (10,r9),
 (11,r9),
 (12,r12),
 (13,r13),
 (14,r13),
 (15,⟨.ptr 304,1,8,[.nilp],none⟩),
 (16,⟨.ptr 307,1,8,[.nilp],none⟩),
 (17,⟨.ptr 315,1,8,[.nilp],none⟩),
 (18,r18),
 (19,r18),
 (20,r20),
 (21,r21),
 (22,⟨.slice 9,1,24,[.nils],some (.lst .str)⟩),
 (23,⟨.slice 34,1,24,[.nils],some (.lst (.st .shape))⟩),
 (24,⟨.slice 26,1,24,[.nils],some (.lst (.st .term))⟩),
 (25,⟨.strct false [(0,3),(1,9),(2,9),(3,3),(4,22),(5,22),(6,23),(7,24),(8,3)],9,152,[.int .i64 0,.str [],.str [],.int .i64 0,.nils,.nils,.nils,.nils,.int .i64 0],none⟩),
 (26,⟨.strct false [(0,3),(1,9),(2,9),(3,3),(4,22),(5,22),(6,23),(7,24),(8,3)],9,152,[.int .i64 0,.str [],.str [],.int .i64 0,.nils,.nils,.nils,.nils,.int .i64 0],some (.st .term)⟩),
 (27,⟨.slice 48,1,24,[.nils],some (.lst (.st .bind))⟩),
 (28,⟨.strct false [(0,9),(1,27),(2,27),(3,27)],4,88,[.str [],.nils,.nils,.nils],none⟩),
 (29,⟨.strct false [(0,9),(1,27),(2,27),(3,27)],4,88,[.str [],.nils,.nils,.nils],some (.st .env)⟩),
 (30,r1),
 (31,r1),
 (32,r1),
 (33,⟨.strct false [(0,3),(1,9),(2,9),(3,22),(4,23)],5,88,[.int .i64 0,.str [],.str [],.nils,.nils],none⟩),
 (34,⟨.strct false [(0,3),(1,9),(2,9),(3,22),(4,23)],5,88,[.int .i64 0,.str [],.str [],.nils,.nils],some (.st .shape)⟩),
 (35,r2),
 (36,⟨.strct true [(0,35),(1,3)],2,16,[.int .i64 0,.int .i64 0],none⟩),
 (37,⟨.strct true [(0,35),(1,3)],2,16,[.int .i64 0,.int .i64 0],some (.st .fault)⟩),
 (39,r1),
 (40,r1),
 (41,r1),
 (42,r1),
 (43,r1),
 (44,r1),
 (45,r1),
 (46,r1),
 (47,⟨.strct false [(0,9),(1,9),(2,34)],7,120,[.str [],.str [],.int .i64 0,.str [],.str [],.nils,.nils],none⟩),
 (48,⟨.strct false [(0,9),(1,9),(2,34)],7,120,[.str [],.str [],.int .i64 0,.str [],.str [],.nils,.nils],some (.st .bind)⟩),
 (49,r1),
 (50,r1),
 (51,r1),
 (52,r1),
 (53,r1),
 (54,r1),
 (55,r1),
 (56,r1),
 (57,r1),
 (59,r1),
 (60,r1),
 (61,r1),
 (62,r1),
 (63,r1),
 (64,r1),
 (65,r1),
 (67,r1),
 (68,r1),
 (69,r1),
 (70,⟨.slice 99,1,24,[.nils],some (.lst (.st .token))⟩),
 (72,r1),
 (74,r1),
 (75,r1),
 (76,r1),
 (77,⟨.slice 3,1,24,[.nils],some (.lst (.int .i64))⟩),
 (78,r1),
 (80,r1),
 (81,r1),
 (83,r1),
 (84,r1),
 (85,r1),
 (86,r1),
 (87,r1),
 (88,r1),
 (89,⟨.ptr 93,1,8,[.nilp],none⟩),
 (90,r90),
 (91,r90),
 (92,r92),
 (93,r92),
 (94,r1),
 (95,r1),
 (96,r1),
 (97,r1),
 (98,⟨.strct true [(0,3),(1,9),(2,3)],3,32,[.int .i64 0,.str [],.int .i64 0],none⟩),
 (99,⟨.strct true [(0,3),(1,9),(2,3)],3,32,[.int .i64 0,.str [],.int .i64 0],some (.st .token)⟩),
 (100,⟨.ptr 105,1,8,[.nilp],none⟩),
 (101,r1),
 (102,⟨.strct false [(0,70),(1,3),(2,37)],4,48,[.nils,.int .i64 0,.int .i64 0,.int .i64 0],none⟩),
 (103,⟨.strct false [(0,70),(1,3),(2,37)],4,48,[.nils,.int .i64 0,.int .i64 0,.int .i64 0],some (.st .par)⟩),
 (104,⟨.strct false [(0,103)],4,48,[.nils,.int .i64 0,.int .i64 0,.int .i64 0],none⟩),
 (105,⟨.strct false [(0,103)],4,48,[.nils,.int .i64 0,.int .i64 0,.int .i64 0],some (.st .par)⟩),
 (106,r1),
 (107,r1),
 (108,r1),
 (110,r1),
 (111,r1),
 (112,r1),
 (114,r1),
 (116,r1),
 (117,r1),
 (118,r118),
 (119,r118),
 (120,r1),
 (121,r1),
 (122,r1),
 (123,r1),
 (124,r1),
 (125,r125),
 (126,r125),
 (128,r1),
 (129,r1),
 (130,r1),
 (131,r12),
 (132,r1),
 (133,r1),
 (134,r1),
 (135,⟨.ptr 91,1,8,[.nilp],none⟩),
 (137,r1),
 (138,r1),
 (139,r1),
 (140,r1),
 (141,⟨.strct true [(0,3),(1,3),(2,3),(3,9)],4,40,[.int .i64 0,.int .i64 0,.int .i64 0,.str []],none⟩),
 (142,⟨.strct true [(0,3),(1,3),(2,3),(3,9)],4,40,[.int .i64 0,.int .i64 0,.int .i64 0,.str []],some (.st .version)⟩),
 (144,r1),
 (146,r1),
 (147,⟨.ptr 103,1,8,[.nilp],none⟩),
 (148,r1),
 (149,r1),
 (150,r1),
 (151,r1),
 (152,r1),
 (153,r1),
 (154,r1),
 (156,r1),
 (158,r1),
 (159,r1),
 (160,r1),
 (162,r1),
 (163,r1),
 (164,⟨.slice 5,1,24,[.nils],some (.lst (.int .u8))⟩),
 (165,r1),
 (166,r1),
 (167,r1),
 (168,r1),
 (169,r1),
 (170,r1),
 (171,r1),
 (172,r2),
 (174,r1),
 (175,r1),
 (176,r1),
 (178,r1),
 (179,r1),
 (180,⟨.int .u32,1,4,[.int .u32 0],some (.int .u32)⟩),
 (181,r1),
 (182,r12),
 (184,r1),
 (185,r1),
 (189,r1),
 (190,r1),
 (191,⟨.ptr 187,1,8,[.nilp],none⟩),
 (193,r1),
 (194,r1),
 (195,⟨.arr 3 3,3,24,[.int .i64 0,.int .i64 0,.int .i64 0],none⟩),
 (196,r20),
 (197,r20),
 (199,r1),
 (200,r1),
 (201,r1),
 (202,r1),
 (203,r1),
 (205,r1),
 (206,r1),
 (207,r1),
 (208,r1),
 (209,r1),
 (210,r1),
 (212,r1),
 (213,r1),
 (214,r1),
 (216,r1),
 (217,r1),
 (218,r1),
 (219,r1),
 (220,r1),
 (222,r222),
 (223,r222),
 (225,r1),
 (226,r1),
 (227,r12),
 (228,r1),
 (229,r1),
 (230,r1),
 (231,⟨.ptr 3,1,8,[.nilp],none⟩),
 (232,r1),
 (233,r1),
 (234,r1),
 (235,r1),
 (236,r1),
 (237,⟨.ptr 258,1,8,[.nilp],none⟩),
 (238,r1),
 (239,r1),
 (240,⟨.ptr 266,1,8,[.nilp],none⟩),
 (241,r1),
 (242,r1),
 (243,r1),
 (244,r1),
 (245,r1),
 (246,⟨.ptr 227,1,8,[.nilp],none⟩),
 (247,r1),
 (248,r1),
 (249,r1),
 (250,r2),
 (252,r1),
 (253,⟨.ptr 280,1,8,[.nilp],none⟩),
 (254,r1),
 (255,r1),
 (256,r1),
 (257,r257),
 (258,r257),
 (259,⟨.ptr 34,1,8,[.nilp],none⟩),
 (260,r1),
 (261,r1),
 (262,⟨.strct true [(0,9),(1,9)],2,32,[.str [],.str []],none⟩),
 (263,⟨.strct true [(0,9),(1,9)],2,32,[.str [],.str []],some (.st .nm)⟩),
 (264,⟨.map 263 34,1,8,[.nilm],none⟩),
 (265,r265),
 (266,r265),
 (267,r1),
 (268,r1),
 (269,r1),
 (270,r1),
 (271,r1),
 (272,r1),
 (273,r1),
 (274,r1),
 (275,r1),
 (277,r1),
 (278,r1),
 (279,r279),
 (280,r279),
 (281,r1),
 (282,r1),
 (283,r1),
 (285,r1),
 (286,r1),
 (287,⟨.ptr 5,1,8,[.nilp],none⟩),
 (288,⟨.ptr 290,1,8,[.nilp],none⟩),
 (289,r289),
 (290,r289),
 (291,r1),
 (292,r1),
 (294,r1),
 (296,r1),
 (297,r1),
 (302,r1),
 (303,r303),
 (304,r303),
 (308,r1),
 (309,r5),
 (310,r5),
 (311,r1),
 (312,r21),
 (313,r21),
 (314,r314),
 (315,r314)]
theorem tk {t:Nat} {r:TR} (h1:(Tryz.prog.info? t).map (fun i=>(i.size,i.bytes,i.zero.map fun z=>z.cells.toList.map bL))=some (r.size,r.bytes,some r.zero):=by kernel_rfl)
  (h2:(Tryz.prog.underlying t).map (aP Tryz.prog r.ti)=some true:=by kernel_rfl)
  (h3:(dY r.zero r.size && (Nat.beq r.size 0 || Nat.blt 0 r.bytes) && (match r.ty with | some τ=>Nat.beq (ah τ) r.size && (BV τ ==r.isAgg) | none=>true))=true:=by kernel_rfl)
  (h8:(Tryz.prog.info? t).map (fun i=>i.zero.map fun z=>uW z ==r.isAgg)=some (some true):=by kernel_rfl)
  (h9:(match r.ti with | .strct true _=>!Tryz.prog.stoodInHeld t && !Tryz.prog.eqGuardType Tryz.prog.depth t | _=>true)=true:=by kernel_rfl):TRok Tryz.prog t r:=TRok.mk' h1 h2 h3 h8 h9
theorem oK:ba Tryz.prog tbl:=
 .cons tk (.cons tk (.cons tk (.cons tk (.cons tk (.cons tk (.cons tk (.cons tk (.cons tk (.cons tk (.cons tk (.cons tk (.cons tk (.cons tk (.cons tk (.cons tk (.cons tk (.cons tk (.cons tk (.cons tk (.cons tk (.cons tk (.cons tk (.cons tk (.cons tk (.cons tk (.cons tk (.cons tk (.cons tk (.cons tk (.cons tk (.cons tk (.cons tk (.cons tk (.cons tk (.cons tk (.cons tk (.cons tk (.cons tk (.cons tk (.cons tk (.cons tk (.cons tk (.cons tk (.cons tk (.cons tk (.cons tk (.cons tk (.cons tk (.cons tk (.cons tk (.cons tk (.cons tk (.cons tk (.cons tk (.cons tk (.cons tk (.cons tk (.cons tk (.cons tk (.cons tk (.cons tk (.cons tk (.cons tk (.cons tk (.cons tk (.cons tk (.cons tk (.cons tk (.cons tk (.cons tk (.cons tk (.cons tk (.cons tk (.cons tk (.cons tk (.cons tk (.cons tk (.cons tk (.cons tk (.cons tk (.cons tk (.cons tk (.cons tk (.cons tk (.cons tk (.cons tk (.cons tk (.cons tk (.cons tk (.cons tk (.cons tk (.cons tk (.cons tk (.cons tk (.cons tk (.cons tk (.cons tk (.cons tk (.cons tk (.cons tk (.cons tk (.cons tk (.cons tk (.cons tk (.cons tk (.cons tk (.cons tk (.cons tk (.cons tk (.cons tk (.cons tk (.cons tk (.cons tk (.cons tk (.cons tk (.cons tk (.cons tk (.cons tk (.cons tk (.cons tk (.cons tk (.cons tk (.cons tk (.cons tk (.cons tk (.cons tk (.cons tk (.cons tk (.cons tk (.cons tk (.cons tk (.cons tk (.cons tk (.cons tk (.cons tk (.cons tk (.cons tk (.cons tk (.cons tk (.cons tk (.cons tk (.cons tk (.cons tk (.cons tk (.cons tk (.cons tk (.cons tk (.cons tk (.cons tk (.cons tk (.cons tk (.cons tk (.cons tk (.cons tk (.cons tk (.cons tk (.cons tk (.cons tk (.cons tk (.cons tk (.cons tk (.cons tk (.cons tk (.cons tk (.cons tk (.cons tk (.cons tk (.cons tk (.cons tk (.cons tk (.cons tk (.cons tk (.cons tk (.cons tk (.cons tk (.cons tk (.cons tk (.cons tk (.cons tk (.cons tk (.cons tk (.cons tk (.cons tk (.cons tk (.cons tk (.cons tk (.cons tk (.cons tk (.cons tk (.cons tk (.cons tk (.cons tk (.cons tk (.cons tk (.cons tk (.cons tk (.cons tk (.cons tk (.cons tk (.cons tk (.cons tk (.cons tk (.cons tk (.cons tk (.cons tk (.cons tk (.cons tk (.cons tk (.cons tk (.cons tk (.cons tk (.cons tk (.cons tk (.cons tk (.cons tk (.cons tk (.cons tk (.cons tk (.cons tk (.cons tk (.cons tk (.cons tk (.cons tk (.cons tk (.cons tk (.cons tk (.cons tk (.cons tk (.cons tk (.cons tk (.cons tk (.cons tk (.cons tk (.cons tk (.cons tk (.cons tk (.cons tk (.cons tk (.cons tk (.cons tk (.cons tk (.cons tk (.cons tk (.cons tk (.cons tk (.cons tk (.cons tk (.cons tk (.cons tk (.cons tk (.cons tk (.cons tk (.cons tk (.cons tk (.cons tk (.cons tk (.cons tk (.cons tk (.cons tk (.cons tk (.cons tk (.cons tk (.cons tk (.cons tk (.cons tk (.cons tk (.cons tk (.cons tk (.cons tk (.cons tk (.cons tk (.cons tk (.nil)))))))))))))))))))))))))))))))))))))))))))))))))))))))))))))))))))))))))))))))))))))))))))))))))))))))))))))))))))))))))))))))))))))))))))))))))))))))))))))))))))))))))))))))))))))))))))))))))))))))))))))))))))))))))))))))))))))))))))))))))))))))))))))))))))))))))))))))))
theorem mixed:Tryz.prog.follows .mixedOrders=true:=by kernel_rfl
end Go.AL.Seat
end
noncomputable section
namespace Go.AL
variable [Tabs]
def Dt:AV→Bool
 | .ptr k 0=>bw k
 | _=>false
def ptrIn (ks:List Nat):AV→Bool
 | .ptr k _=>ks.contains k
 | _=>false
def Co (ks:List Nat) (t:List (Nat × AV)):List (Nat × AV):=t.map fun x=>(x.1,if ptrIn ks x.2 then x.2 else .undef)
structure RC where
 r0:Code
 rest:Code
 crest:Code
 t5:Nat
 caps:List Operand
 t6:Nat
 t3:Nat
def Du (g:Nat) (c cc:Code):Option RC:=
 match c,cc with
 | .seq r0 (.seq (.region _ o1 false) rest),.seq (.region _ o2 false) crest=>
  match o1.toList,o2.toList with
  | [⟨some t5,.makeFunc (.func g') fst caps,_,_,_,none⟩,⟨none,.defer ⟨.value (.tmp t5'),asx,_⟩,_,_,_,none⟩],
   [⟨some t6,.call ⟨.builtin .recover,as2,_⟩,_,_,_,none⟩,⟨some t3,.assign (.tmp t6'),_,_,_,none⟩]=>
   if Nat.beq g' g && Nat.beq t5' t5 && Nat.beq t6' t6 && fst.isEmpty && asx.isEmpty && as2.isEmpty then some ⟨r0,rest,crest,t5,caps.toList,t6,t3⟩ else none
  | _,_=>none
 | _,_=>none
def AT (C:Cfg) (rs:List ResultVar) (L:List cW) (s1:St) (S1:List (Nat × SObj)) (S:List (Nat × SObj)) (A:Ans) (t2:List (Nat × AV)) (s3:St):Prop:=
 match b9 (aN s3.b) && (aN S1).all (fun k=>(aN s3.b).contains k) with
 | true=>
  match iK C.tbl ⟨Co (aN S1) t2,s3.b⟩ rs with
  | some l=>
   (match iI (aw s1.b) L 998 (fr S1 s3.b),mapVs (lS L 998) (fq L 998) (fq L 998) l with
   | some u',some l'=>ed ⟨[],bW s1.b u'⟩ fun s4=>pU (some l') s4 A.val (bW S A.upd)
   | _,_=>False)
  | none=>False
 | false=>False
def tD (C:Cfg) (annC:An) (clo:Func) (R:RC) (caps:List AV) (v:AV) (s2:St) (fin:St→Prop):Prop:=
 gh (List.range clo.ntmps) fun keep=>ed ⟨gY (cC 0 caps) R.t3 v,s2.b⟩ fun s=>swp C keep annC R.crest s fun
  | .exit _,_=>False
  | .pan _,_=>False
  | _,s3=>fin s3
def fwpR (C:Cfg) (ann annC:An) (fn:Func) (g:Nat) (clo:Func) (args:List AV) (S:List (Nat × SObj)) (A:Ans):Prop:=
 match fn.body,clo.body,A.pan with
 | some c,some cc,none=>
  match Du g c cc with
  | none=>False
  | some R=>
   match bB fn.ntmps c && bB clo.ntmps cc && Nat.blt R.t5 fn.ntmps && jL args fn.ntmps && (aN S).all bw && clo.results.isEmpty && jL R.caps clo.ntmps && jL R.caps R.t6 with
   | false=>False
   | true=>gh ((List.range fn.ntmps)) fun keep=>ed ⟨cC 0 args,S⟩ fun i=>swp C keep ann R.r0 i fun
    | .normal,s1=>
     (match (aN s1.b).map (fun i=>(i,(none:Option (Nat × Nat)))) with
     | L=>
      (match b9 (L.map (·.1)) && Nat.ble L.length 100,mapVs (toP L) (toI L) (toI L) ((List.range fn.ntmps).map (b8 s1.t)),mapVs (toP L) (toI L) (toI L) (R.caps.map (opd (b8 s1.t))),kz (aw s1.b) L L 900 with
      | true,some as1,some caps,some S1=>
       (match caps.all Dt with
       | true=>ed ⟨gY (cC 0 as1) R.t5 .undef,S1⟩ fun i=>swp C keep ann R.rest i fun
        | .exit _,_=>False
        | .pan v,s2=>tD C annC clo R caps v s2 (AT C fn.results.toList L s1 S1 S A s2.t)
        | _,s2=>tD C annC clo R caps .nilif s2 (AT C fn.results.toList L s1 S1 S A s2.t)
       | false=>False)
      | _,_,_,_=>False))
    | _,_=>False
 | _,_,_=>False
theorem lK:∀(u S:List (Nat × SObj)) (i:Nat),b9 (u.map (·.1))=true→aw (bW S u) i=(aw u i).or (aw S i)
 | [],S,i,_=>by simp [bW,aR,aO]
 | (j,o) ::r,S,i,h=>by
  simp only [List.map_cons,b9,Bool.and_eq_true,Bool.not_eq_true'] at h
  simp only [bW]
  rw [lK r _ i h.2,fK]
  simp only [aR,aO]
  by_cases e:j=i
  ·subst e
   have:aw r j=none:=by
    cases hb:aw r j with
    | none=>rfl
    | some o'=>
     have:=cn r j o' hb
     have h1:=h.1
     simp only [List.contains_eq_mem,decide_eq_false_iff_not,List.mem_map,not_exists,not_and] at h1
     exact absurd rfl (h1 _ this)
   simp [this]
  ·simp [e]
section
variable {P:Program} {C:Cfg}
theorem V.pinned {e0 e:Nat→Option CObj} {w0 w:World} {p0 p:Nat→Nat→Prop} (hk:∀id c,e0 id=some c→∃c',e id=some c'/\CLe c c') {a:AV} {v:Value} (ha:Dt a=true) (h:V ⟨e0,w0,p0⟩ a v):V ⟨e,w,p⟩ a v:=by
 cases h with
 | ptr i o b q len he=>
  obtain ⟨c',h1,h2⟩:=hk i _ he
  have:=h2.box
  subst this
  exact .ptr i o b q len h1
 | _=>simp [Dt] at ha
theorem Holds.retmp' {F:Fr} {s:AS} {a a':Act} {Ω:Om} (h:Holds F s a Ω) {n:Nat} {ds:List Deferred} {T:Nat→AV} (hT:∀i,V Ω (T i) (a'.tmps.getD i undef)) (hs:a'.tmps.size=n) (hd:a'.defers=ds) :
  Holds ⟨F.w0,F.pub0,n,F.e0,F.dom0,ds,F.tab0⟩ ⟨T,s.B⟩ a' Ω:=
 ⟨hT,hs,hd,h.slots,h.dom,h.inj,h.pubok,h.keep,⟨h.frame.os,h.frame.tape,h.frame.output,h.frame.size,h.frame.block,h.frame.cell,h.frame.kind,h.frame.pub,h.frame.old,h.frame.pcell⟩⟩
inductive Rcv:FrameMode→AV→Om→Value→FrameMode→Prop
 | ret (Ω:Om):Rcv .returning .nilif Ω .nilIface .returning
 | pan (Ω:Om) (a:AV) (v:Value):V Ω a v→Rcv (.panicking [{v,recovered:=false}]) a Ω v (.panicking [{v,recovered:=true}])
structure RCcode (g:Nat) (R:RC) (c cc:Code):Prop where
 code:∃i1 i2 ty1 ps1 af1 ty2 ps2 af2 ts2 ty3 ps3 af3 ts3 ty4 ps4 af4,
  c=.seq R.r0 (.seq (.region i1 #[⟨some R.t5,.makeFunc (.func g) #[] R.caps.toArray,ty1,ps1,af1,none⟩,⟨none,.defer ⟨.value (.tmp R.t5),#[],ts2⟩,ty2,ps2,af2,none⟩] false) R.rest)/\
  cc=.seq (.region i2 #[⟨some R.t6,.call ⟨.builtin .recover,#[],ts3⟩,ty3,ps3,af3,none⟩,⟨some R.t3,.assign (.tmp R.t6),ty4,ps4,af4,none⟩] false) R.crest
theorem AU {g:Nat} {c cc:Code} {R:RC} (h:Du g c cc=some R):RCcode g R c cc:=by
 unfold Du at h
 split at h
 ·rename_i r0 i1 o1 rest i2 o2 crest
  split at h
  ·rename_i h1 h2
   split at h
   ·rename_i hc
    simp only [Bool.and_eq_true,Nat.beq_eq,Array.isEmpty_iff] at hc
    obtain ⟨⟨⟨⟨⟨rfl,rfl⟩,rfl⟩,rfl⟩,rfl⟩,rfl⟩:=hc
    simp only [Xs] at h
    subst h
    have e1:=congrArg List.toArray h1
    have e2:=congrArg List.toArray h2
    simp only [Array.toArray_toList] at e1 e2
    subst e1 e2
    exact ⟨_,_,_,_,_,_,_,_,_,_,_,_,_,_,_,_,rfl,rfl⟩
   ·cases h
  ·cases h
 ·cases h
theorem mw {ts:Array Nat} {d:Option Nat} {ty:Nat} {ps:String} {af:Array Edge} {ρ:Operand→Value} {w:World} :
  (execOp ρ ⟨d,.call ⟨.builtin .recover,#[],ts⟩,ty,ps,af,none⟩).run P w=.ok .recover w:=by
 simp [execOp,resolve,invoke,builtin]
theorem vN (hm:P.follows .mixedOrders=true) (hT:ba P C.tbl) (hS:bM P C.spec) {g:Nat} {clo:Func} {c cc:Code} {R:RC} (hR:RCcode g R c cc) (hg:P.funcs[g]?=some clo) (hb:clo.body=some cc)
  (hd:bB clo.ntmps cc=true) (hres:clo.results=#[]) {caps:List AV} (hcl:caps.length<=clo.ntmps) (hc6:caps.length<=R.t6) {F:Fr} {s2:St} {a2:Act} {Ω2:Om} (h:Holds F s2.abs a2 Ω2) {vs:List Value} (hv:VL Ω2 caps vs)
  {u u':FrameMode} {av:AV} {v:Value} (hrc:Rcv u av Ω2 v u') {annC:An} {fin:St→Prop} (hc:tD C annC clo R caps av s2 fin) :
  CallsD P g vs.toArray u Ω2.w fun en u2 w'=>u2=u'/\en=.returned (.tuple #[])/\∃s3 Ω3 a3 T,Ω3.w=w'/\fin s3/\Holds ⟨F.w0,F.pub0,clo.ntmps,F.e0,F.dom0,[],F.tab0⟩ ⟨T,aw s3.b⟩ a3 Ω3:=by
 obtain ⟨i1,i2,ty1,ps1,af1,ty2,ps2,af2,ts2,ty3,ps3,af3,ts3,ty4,ps4,af4,_,rfl⟩:=hR
 refine callsD_of_wpS hg hb (fun c₀ cs hu=>?_)
 apply wpS_seq
 apply wpS_region
 simp only [bB,Bool.and_eq_true,List.all_cons,List.all_nil,Bool.and_true,Nat.blt_eq] at hd
 obtain ⟨⟨hd6,hd3⟩,hdc⟩:=hd
 have hvs:vs.length<=clo.ntmps:=by rw [←hv.1];exact hcl
 have hbase:Holds ⟨F.w0,F.pub0,clo.ntmps,F.e0,F.dom0,[],F.tab0⟩ ⟨b8 (cC 0 caps),aw s2.b⟩ {tmps:=vs.toArray++Array.replicate (clo.ntmps - vs.toArray.size) undef,defers:=[]} Ω2:=
  h.retmp' (fun i=>gT _ hv i) (by simp;omega) rfl
 have key:∃cs',(∃c1,cs'=c1 ::cs/\c1={c₀ with mode:=u'})/\∀Q':Exit→Act→List Frame→World→Prop,Q' .normal (({tmps:=vs.toArray++Array.replicate (clo.ntmps - vs.toArray.size) undef,defers:=[]}:Act).put (some R.t6) v |>.put (some R.t3) v) cs' Ω2.w→
   wpOpsS P #[⟨some R.t6,.call ⟨.builtin .recover,#[],ts3⟩,ty3,ps3,af3,none⟩,⟨some R.t3,.assign (.tmp R.t6),ty4,ps4,af4,none⟩] Q' [0,1] {tmps:=vs.toArray++Array.replicate (clo.ntmps - vs.toArray.size) undef,defers:=[]} (c₀ ::cs) Ω2.w:=by
  have two:∀(cs':List Frame) (Q':Exit→Act→List Frame→World→Prop),Q' .normal (({tmps:=vs.toArray++Array.replicate (clo.ntmps - vs.toArray.size) undef,defers:=[]}:Act).put (some R.t6) v |>.put (some R.t3) v) cs' Ω2.w→
    wpOpsS P #[⟨some R.t6,.call ⟨.builtin .recover,#[],ts3⟩,ty3,ps3,af3,none⟩,⟨some R.t3,.assign (.tmp R.t6),ty4,ps4,af4,none⟩] Q' [1] (({tmps:=vs.toArray++Array.replicate (clo.ntmps - vs.toArray.size) undef,defers:=[]}:Act).put (some R.t6) v) cs' Ω2.w:=by
   intro cs' Q' hq
   have he:(({tmps:=vs.toArray++Array.replicate (clo.ntmps - vs.toArray.size) undef,defers:=[]}:Act).put (some R.t6) v).eval (.tmp R.t6)=v:=by
    show (Act.put _ (some R.t6) v).tmps.getD R.t6 undef=v
    rw [ca hbase.size hd6,if_pos rfl]
   unfold wpOpsS
   simp only [List.getElem?_toArray,List.getElem?_cons_succ,List.getElem?_cons_zero,Region.wanted,if_true]
   have hr:(execOp (({tmps:=vs.toArray++Array.replicate (clo.ntmps - vs.toArray.size) undef,defers:=[]}:Act).put (some R.t6) v).eval ⟨some R.t3,.assign (.tmp R.t6),ty4,ps4,af4,none⟩).run P Ω2.w=.ok (.value v) Ω2.w:=by
    show (pure (Next.value (Act.eval _ (.tmp R.t6))):Sem Next).run P Ω2.w=_
    rw [he]
    rfl
   rw [hr]
   simp only [Oper.upon]
   exact hq
  cases hrc with
  | ret=>
   refine ⟨_,⟨c₀,rfl,by cases c₀;simp only at hu;subst hu;rfl⟩,fun Q' hq=>?_⟩
   unfold wpOpsS
   simp only [List.getElem?_toArray,List.getElem?_cons_zero,Region.wanted,if_true]
   rw [mw]
   simp only [recoverD,hu]
   exact two _ Q' hq
  | pan _ _ hv'=>
   refine ⟨_,⟨_,rfl,rfl⟩,fun Q' hq=>?_⟩
   unfold wpOpsS
   simp only [List.getElem?_toArray,List.getElem?_cons_zero,Region.wanted,if_true]
   rw [mw]
   simp only [recoverD,hu]
   exact two _ Q' hq
 obtain ⟨cs',⟨c1,rfl,hc1⟩,key⟩:=key
 refine key _ ?_
 refine wpS_of_wp ?_
 unfold tD at hc
 rw [fY,cZ] at hc
 have hav:V Ω2 av v:=by
  cases hrc <;> first | exact .nilif | assumption
 have h1:=(hbase.pure (dst:=some R.t6) (val:=.undef) (v:=v) (.undef v) (fun d e=>by cases e;exact hd6)).pure (dst:=some R.t3) (val:=av) (v:=v) hav (fun d e=>by cases e;exact hd3)
 have h2:Holds ⟨F.w0,F.pub0,clo.ntmps,F.e0,F.dom0,[],F.tab0⟩ (St.abs ⟨gY (cC 0 caps) R.t3 av,s2.b⟩) _ Ω2:=h1.weak (s':=St.abs ⟨gY (cC 0 caps) R.t3 av,s2.b⟩) (fun i=>by
  simp only [St.abs,eK,bP]
  by_cases e3:R.t3=i
  ·right;simp [e3]
  ·by_cases e6:R.t6=i
   ·left
    subst e6
    rw [if_neg e3,eM,if_pos (Nat.zero_le _),Nat.sub_zero]
    simp [List.getD_eq_getElem?_getD,List.getElem?_eq_none hc6]
   ·right;simp [e3,e6]) rfl
 refine wp_mono (jB hm hT hS _ annC R.crest _ _ _ Ω2 hc hdc h2) ?_
 intro e a' w' hq
 obtain ⟨z,s3,Ω3,q1,q2,q3,q4⟩:=hq
 have fin3:fin s3→bodyPostS P clo c₀ cs (fun en u2 w'=>u2=u'/\en=.returned (.tuple #[])/\∃s3 Ω3 a3 T,Ω3.w=w'/\fin s3/\Holds ⟨F.w0,F.pub0,clo.ntmps,F.e0,F.dom0,[],F.tab0⟩ ⟨T,aw s3.b⟩ a3 Ω3) .ret a' (c1 ::cs) w':=by
  intro hf
  refine ⟨q3.defers,u',by rw [hc1],.tuple #[],by simp [results,hres],rfl,rfl,s3,Ω3,a',_,q2,hf,q3⟩
 cases z with
 | normal=>cases q1;exact fin3 q4
 | ret=>cases q1;exact fin3 q4
 | exit id=>exact q4.elim
 | pan v=>exact q4.elim
theorem yK {w:World} {pub:Nat→Nat→Prop} {e:Nat→Option CObj} {n:Nat} {hl:∀id c,e id=some c→bw id=true} {ds:List Deferred} {ht:fT w pub e} {T:Nat→AV} {t:List (Nat × AV)} {b b':List (Nat × SObj)} {a:Act} {Ω:Om} {l:List AV} {us:List Value} {val:AV}
  (hh:Holds ⟨w,pub,n,e,hl,ds,ht⟩ ⟨T,aw b⟩ a Ω) (k2:VL Ω l us) (hend:pU (some l) ⟨t,b⟩ val b') :
  ∃pub' e',V ⟨e',Ω.w,pub'⟩ val (if h:us.toArray.size=1 then us.toArray[0] else .tuple us.toArray)/\After w pub e (aw b') Ω.w pub' e':=by
 unfold pU at hend
 split at hend
 ·rename_i x hres
  cases hres
  obtain ⟨u,rfl⟩:=gU (by rw [←k2.1];rfl)
  have h1:=hh.retmp' (T:=b8 (cC 0 [x])) (a':={tmps:=[u].toArray++Array.replicate 0 undef,defers:=[]}) (n:=1) (ds:=[]) (fun i=>gT 0 k2 i) (by simp) rfl
  obtain ⟨Ω2,e2,hh2⟩:=dq (s:=⟨[(0,x)],b⟩) h1 (fy hend)
  refine ⟨Ω2.pub,Ω2.e,?_,?_⟩
  ·have:=hh2.tmps 0
   rw [←e2]
   exact this
  ·rw [←e2]
   exact fZ hh2
 ·rename_i l' hne hres
  cases hres
  split at hend
  ·rename_i rs
   split at hend
   ·rename_i hln
    have hl2:=bG _ _ hln
    have h1:=hh.retmp' (T:=b8 (cC 0 l)) (a':={tmps:=us.toArray++Array.replicate 0 undef,defers:=[]}) (n:=us.length) (ds:=[]) (fun i=>gT 0 k2 i) (by simp) rfl
    obtain ⟨Ω2,e2,hh2⟩:=dq (s:=⟨cC 0 l,b⟩) h1 (fy hend)
    have hsz:¬us.toArray.size=1:=by
     intro h1
     obtain ⟨x,hx⟩:=gU (l:=l) (by rw [k2.1];simpa using h1)
     exact hne x hx
    rw [dif_neg hsz]
    refine ⟨Ω2.pub,Ω2.e,?_,?_⟩
    ·refine .tup rs us (by rw [←k2.1,←hl2]) (fun j c v hc hv=>?_)
     have:=hh2.tmps j
     simp only [St.abs,eM,Nat.zero_le,if_true,Nat.sub_zero,List.getD_eq_getElem?_getD,hc,Option.getD_some] at this
     have e3:(us.toArray++Array.replicate 0 undef).getD j undef=v:=by
      simp [Array.getD_eq_getD_getElem?,hv]
     rw [e3] at this
     rw [←e2]
     exact this
    ·rw [←e2]
     exact fZ hh2
   ·exact hend.elim
  ·exact hend.elim
 ·rename_i h;cases h
theorem CLe.to_box {c:CObj} {b o l:Nat} (h:CLe c (.box b o l)):c=.box b o l:=by
 cases c <;> simp [CLe] at h
 obtain ⟨rfl,rfl,rfl⟩:=h
 rfl
theorem V.ptrIn {F:Fr} {Ω2 Ω3:Om} {ks:List Nat} (h2:∀id c,F.e0 id=some c→∃c',Ω2.e id=some c'/\CLe c c') (h3:∀id c,F.e0 id=some c→∃c',Ω3.e id=some c'/\CLe c c')
  (hk:∀k∈ks,∃c,F.e0 k=some c) {a:AV} {v:Value} (h:V Ω2 a v):V Ω3 (if AL.ptrIn ks a=true then a else .undef) v:=by
 split
 ·rename_i hp
  cases h with
  | ptr i o b q len he=>
   simp only [AL.ptrIn,List.contains_eq_mem,decide_eq_true_eq] at hp
   obtain ⟨c,hc⟩:=hk i hp
   obtain ⟨c2,e2,l2⟩:=h2 i c hc
   rw [he] at e2
   cases e2
   have:=l2.to_box
   subst this
   obtain ⟨c3,e3,l3⟩:=h3 i _ hc
   have:=l3.box
   subst this
   exact .ptr i o b q len e3
  | _=>simp [AL.ptrIn] at hp
 ·exact .undef v
theorem yL (hT:ba P C.tbl) {w:World} {pub:Nat→Nat→Prop} {e:Nat→Option CObj} {n n1:Nat} {hl:∀id c,e id=some c→bw id=true} {ht:fT w pub e} {s1:St} {a1:Act} {Ω1:Om} {L:List cW} {ht1:fT Ω1.w Ω1.pub (cA L Ω1.e)} (h3:Holds ⟨w,pub,n,e,hl,[],ht⟩ s1.abs a1 Ω1)
  (hdist:b9 (L.map (·.1))=true) {S1:List (Nat × SObj)} (hS1:kz (aw s1.b) L L 900=some S1) {hl1:∀id c,cA L Ω1.e id=some c→bw id=true} (hk1:∀k∈aN S1,∃c,cA L Ω1.e k=some c)
  {ds:List Deferred} {s2:St} {a2:Act} {Ω2:Om} (q3:Holds ⟨Ω1.w,Ω1.pub,n,cA L Ω1.e,hl1,ds,ht1⟩ s2.abs a2 Ω2) {s3:St} {a3:Act} {Ω3:Om} {T:Nat→AV} (h5:Holds ⟨Ω1.w,Ω1.pub,n1,cA L Ω1.e,hl1,[],ht1⟩ ⟨T,aw s3.b⟩ a3 Ω3)
  {fn:Func} {S:List (Nat × SObj)} {A:Ans} (hpan:A.pan=none) (hf:AT C fn.results.toList L s1 S1 S A s2.t s3) :
  ∃v,(results fn a2.tmps).run P Ω3.w=.ok v Ω3.w/\∃pub' e',(∀b pv u,A.pan=some (b,pv,u)→b=false)/\V ⟨e',Ω3.w,pub'⟩ A.val v/\After w pub e (aw (bW S A.upd)) Ω3.w pub' e':=by
 unfold AT at hf
 split at hf
 ·rename_i hck
  simp only [Bool.and_eq_true,List.all_eq_true] at hck
  obtain ⟨hd3,hin⟩:=hck
  split at hf
  ·rename_i l hres
   split at hf
   ·rename_i u' l' hu' hl'
    rw [cZ] at hf
    have hR:Holds ⟨Ω1.w,Ω1.pub,n,cA L Ω1.e,hl1,ds,ht1⟩ (St.abs ⟨Co (aN S1) s2.t,s3.b⟩) a2 Ω3:=by
     have:=h5.retmp' (T:=b8 (Co (aN S1) s2.t)) (a':=a2) (n:=n) (ds:=ds) (fun i=>by
      rw [show b8 (Co (aN S1) s2.t) i=if ptrIn (aN S1) (b8 s2.t i)=true then b8 s2.t i else .undef from kK (fun x=>if ptrIn (aN S1) x=true then x else .undef) (by simp [ptrIn]) s2.t i]
      exact V.ptrIn (F:=⟨Ω1.w,Ω1.pub,n,cA L Ω1.e,hl1,ds,ht1⟩) q3.keep h5.keep hk1 (q3.tmps i)) q3.size q3.defers
     exact this
    obtain ⟨us,k1,k2⟩:=dW hT hR _ _ hres
    have hmap:(results fn a2.tmps).run P Ω3.w=.ok (if h:us.toArray.size=1 then us.toArray[0] else .tuple us.toArray) Ω3.w:=by
     rw [kg,←Array.toArray_toList (xs:=fn.results),List.mapM_toArray]
     simp only [Sem.run_bind,Sem.run_map,k1,Result.andThen_ok,Sem.run_pure]
    have hB:aw (bW S1 s3.b)=aw s3.b:=by
     funext i
     rw [lK _ _ _ hd3]
     cases h:aw s3.b i with
     | some o=>rfl
     | none=>
      cases h':aw S1 i with
      | none=>rfl
      | some o=>
       have:=hin i (List.mem_map.2 ⟨(i,o),cn _ _ _ h',rfl⟩)
       simp only [List.contains_eq_mem,decide_eq_true_eq] at this
       exact absurd this (gS _ _ h)
    have hA:After Ω1.w Ω1.pub (cA L Ω1.e) (aw (bW S1 s3.b)) Ω3.w Ω3.pub Ω3.e:=by
     rw [hB]
     exact fZ (h5.retmp' (T:=T) (a':=a3) (n:=n1) (ds:=[]) h5.tmps h5.size h5.defers)
    obtain ⟨Ω',w1,w2,w3⟩:=lx h3 (d:=998) (by omega) hdist hS1 hd3 hu' (val:=.tup l) (val':=.tup l') (by simp only [mapV,hl']) (v:=.tuple us.toArray) (V.of_tup k2) hA
    obtain ⟨us',e1,k3⟩:=w2.tup_inv
    have e2:us=us':=by
     have:=congrArg Array.toList (Value.tuple.inj e1)
     simpa using this
    subst e2
    rw [show s1.abs.B=aw s1.b from rfl,←gR] at w3
    obtain ⟨pub',e',p1,p2⟩:=yK (T:=s1.abs.T) (b:=bW s1.b u') (t:=[]) w3 k3 hf
    rw [w1] at p1 p2
    exact ⟨_,hmap,pub',e',(fun b pv u h=>by rw [hpan] at h;cases h),p1,p2⟩
   ·exact hf.elim
  ·exact hf.elim
 ·exact hf.elim
theorem fwpR_sound (hm:P.follows .mixedOrders=true) (hT:ba P C.tbl) (hS:bM P C.spec) {ann annC:An} {f g:Nat} {fn clo:Func} (hf:P.funcs[f]?=some fn) (hg:P.funcs[g]?=some clo)
  (eg:∀args w,(callFunc g args).run P w=.ok (.enter g args) w) {args:List AV} {S:List (Nat × SObj)} {A:Ans} (h:fwpR C ann annC fn g clo args S A):ay P f args S A:=by
 intro w pub e vs hp ht hv hs hdom hinj
 unfold fwpR at h
 split at h
 ·rename_i c cc hb hcb hpan
  split at h
  ·exact h.elim
  ·rename_i R hR
   split at h
   ·exact h.elim
   ·rename_i hck
    simp only [Bool.and_eq_true,List.all_eq_true,Array.isEmpty_iff,Nat.blt_eq] at hck
    obtain ⟨⟨⟨⟨⟨⟨⟨hk1,hk2⟩,hk5⟩,hk3⟩,hk4⟩,hres⟩,hcl⟩,hc6⟩:=hck
    have hlen:=dw _ _ hk3
    have hcl:=dw _ _ hcl
    have hc6:=dw _ _ hc6
    rw [fY,cZ] at h
    have hlent:∀id c,e id=some c→bw id=true:=by
     intro id c hc
     cases hg:aw S id with
     | none=>rw [hdom id hg] at hc;cases hc
     | some o=>exact hk4 id (List.mem_map.2 ⟨(id,o),cn _ _ _ hg,rfl⟩)
    have hRc:=AU hR
    obtain ⟨i1,i2,ty1,ps1,af1,ty2,ps2,af2,ts2,ty3,ps3,af3,ts3,ty4,ps4,af4,rfl,_⟩:=id hRc
    refine calls_of_wp_defers hf hb ?_
    have hh:=iy (n:=fn.ntmps) hp ht hv hlen hs hdom hinj hlent
    have hdr:bB fn.ntmps R.r0=true/\bB fn.ntmps R.rest=true:=by
     simp only [bB,Bool.and_eq_true] at hk1
     exact ⟨hk1.1,hk1.2.2⟩
    refine wp_seq (wp_mono (jB (F:=⟨w,pub,fn.ntmps,e,hlent,[],ht⟩) hm hT hS _ ann R.r0 _ _ _ _ h hdr.1 hh) ?_)
    intro en a1 w1 hq
    obtain ⟨z,s1,Ω1,q1,rfl,h3,h4⟩:=hq
    cases z with
    | exit id=>exact h4.elim
    | ret=>exact h4.elim
    | pan pv=>exact h4.elim
    | normal=>
     cases q1
     simp only at h4
     generalize hLL:(aN s1.b).map (fun i=>(i,(none:Option (Nat × Nat))))=L at h4
     split at h4
     ·rename_i as1 caps S1 hdl has hcaps hS1
      simp only [Bool.and_eq_true,Nat.ble_eq] at hdl
      obtain ⟨hdist,hL100⟩:=hdl
      split at h4
      ·rename_i hcp
       rw [cZ] at h4
       obtain ⟨k1,k2,k3⟩:=fJ L 900 S1 hS1
       refine wp_seq (wp_region ?_)
       show wpOps P _ _ [0,1] a1 Ω1.w
       refine cq (o:=⟨some R.t5,.makeFunc (.func g) #[] R.caps.toArray,ty1,ps1,af1,none⟩) rfl rfl (aG (v:=.func (.func g) #[] (R.caps.toArray.map a1.eval)) (w':=Ω1.w) (by simp [execOp,Instr.makeFunc]) ?_)
       have he5:(a1.put (some R.t5) (.func (.func g) #[] (R.caps.toArray.map a1.eval))).eval (.tmp R.t5)=.func (.func g) #[] (R.caps.toArray.map a1.eval):=by
        show (Act.put a1 (some R.t5) _).tmps.getD R.t5 undef=_
        rw [ca h3.size hk5,if_pos rfl]
       refine cq (o:=⟨none,.defer ⟨.value (.tmp R.t5),#[],ts2⟩,ty2,ps2,af2,none⟩) rfl rfl ?_
       have hrun:(execOp (a1.put (some R.t5) (.func (.func g) #[] (R.caps.toArray.map a1.eval))).eval ⟨none,.defer ⟨.value (.tmp R.t5),#[],ts2⟩,ty2,ps2,af2,none⟩).run P Ω1.w=.ok (.defer {target:=.fn (.func g) (R.caps.toArray.map a1.eval),args:=#[]}) Ω1.w:=by
        have he5':=he5
        simp only [List.map_toArray] at he5'
        simp [execOp,resolve,he5',Deferred.ofValue]
       unfold Oper.wp
       rw [hrun]
       have hcv:R.caps.toArray.map a1.eval=(R.caps.map a1.eval).toArray:=by simp
       have hdef0:a1.defers=[]:=h3.defers
       have hvl1:VL Ω1 ((List.range fn.ntmps).map (b8 s1.t)) a1.tmps.toList:=by
        have hz:a1.tmps.size=fn.ntmps:=h3.size
        refine ⟨by simp;omega,fun j c v hc hv=>?_⟩
        simp only [List.getElem?_map,Option.map_eq_some_iff] at hc
        obtain ⟨q,hq,rfl⟩:=hc
        have hqj:q=j:=by
         have:=List.getElem?_eq_some_iff.1 hq
         obtain ⟨_,e⟩:=this
         simpa using e.symm
        subst hqj
        have:=h3.tmps q
        rw [Array.getElem?_toList] at hv
        simp only [Array.getD_eq_getD_getElem?,hv,Option.getD_some] at this
        exact this
       have hvc1:VL Ω1 (R.caps.map (opd (b8 s1.t))) (R.caps.map a1.eval):=by
        refine ⟨by simp,fun j c v hc hv=>?_⟩
        simp only [List.getElem?_map,Option.map_eq_some_iff] at hc hv
        obtain ⟨x,hx,rfl⟩:=hc
        obtain ⟨y,hy,rfl⟩:=hv
        rw [hx] at hy
        cases hy
        exact bj h3 x
       have hvl:=hvl1.mapVs (j0 L Ω1.e) has
       have hvc:=hvc1.mapVs (j0 L Ω1.e) hcaps
       have hlent1:∀k i r,bd L k=some (i,r)→∃o o',s1.abs.B i=some o/\dZ L r o=some o'/\aw S1 k=some o':=by
        intro k i r hk
        obtain ⟨h1,h2⟩:=dV hk
        obtain ⟨o,o',q1,q2,q3⟩:=k2 _ i r h2
        rw [show 900+(k - 900)=k by omega] at q3
        exact ⟨o,o',q1,q2,q3⟩
       have hLs:∀q i r,nth L q=some (i,r)→∃o o',s1.abs.B i=some o/\dZ L r o=some o':=fun q i r hq=>let ⟨o,o',q1,q2,_⟩:=k2 q i r hq;⟨o,o',q1,q2⟩
       have hslots:∀id o,aw S1 id=some o→bn ⟨cA L Ω1.e,Ω1.w,Ω1.pub⟩ (fun _ _=>True) id o:=fun id o' ho'=>by
        obtain ⟨q,i,r,o2,e1,e2,e3,e4⟩:=k1 id o' ho'
        subst e1
        exact sV (cb (jy L i 900 q r hdist e2)) (h3.slots i o2 e3) e4
       have hdom1:∀id,aw S1 id=none→cA L Ω1.e id=none:=fun id hid=>by
        unfold cA
        cases hl:bd L id with
        | none=>rfl
        | some x=>
         obtain ⟨o1,o2,_,_,q3⟩:=hlent1 id x.1 x.2 hl
         rw [hid] at q3
         cases q3
       have hinj1:Inj (cA L Ω1.e):=fun i j c c' b oo hi hj ho1 ho2=>by
        obtain ⟨i1,r1,c1,p1,p2,p3⟩:=gQ h3.slots hLs hi
        obtain ⟨i2,r2,c2,p4,p5,p6⟩:=gQ h3.slots hLs hj
        have:=h3.inj i1 i2 c1 c2 b oo p2 p5 (p3 b oo ho1) (p6 b oo ho2)
        subst this
        have a1:=cN hdist p1
        have a2:=cN hdist p4
        rw [a1] at a2
        simp at a2
        exact a2.1
       have hpin:∀id c,cA L Ω1.e id=some c→bw id=true:=by
        intro id c hc
        cases hg:aw S1 id with
        | none=>rw [hdom1 id hg] at hc;cases hc
        | some o=>
         have:=k3 (id,o) (cn _ _ _ hg)
         simp only [bw,Bool.and_eq_true,Nat.ble_eq,Nat.blt_eq]
         simp only at this
         omega
       have hkS:∀k∈aN S1,∃c,cA L Ω1.e k=some c:=by
        intro k hk
        obtain ⟨x,hx,rfl⟩:=List.mem_map.1 hk
        cases hg:aw S1 x.1 with
        | none=>exact absurd (List.mem_map.2 ⟨x,hx,rfl⟩) (gS _ _ hg)
        | some o=>
         have hso:=hslots x.1 o hg
         cases o with
         | box c=>obtain ⟨_,_,e1,_⟩:=hso;exact ⟨_,e1⟩
         | tail τ n=>obtain ⟨_,_,e1,_⟩:=hso;exact ⟨_,e1⟩
         | map κ τ m=>obtain ⟨_,e1,_⟩:=hso;exact ⟨_,e1⟩
         | bld t u l=>obtain ⟨_,_,e1,_⟩:=hso;exact ⟨_,e1⟩
         | tailp τ n x=>obtain ⟨_,_,e1,_⟩:=hso;exact ⟨_,e1⟩
       have hlen1:as1.length<=fn.ntmps:=by
        have:=hvl.1
        rw [this,Array.length_toList,h3.size]
        exact Nat.le_refl _
       have hi1:=iy (n:=fn.ntmps) h3.pubok (h3.tabsC hLs) hvl hlen1 hslots hdom1 hinj1 hpin
       have hi2:=hi1.retmp' (T:=b8 (cC 0 as1)) (a':={tmps:=a1.tmps,defers:=[{target:=.fn (.func g) (R.caps.toArray.map a1.eval),args:=#[]}]}) (n:=fn.ntmps) (ds:=[{target:=.fn (.func g) (R.caps.toArray.map a1.eval),args:=#[]}])
        (fun i=>by
         have:=hi1.tmps i
         have e0:(a1.tmps.toList.toArray++Array.replicate (fn.ntmps - a1.tmps.toList.toArray.size) undef)=a1.tmps:=by
          have hz:a1.tmps.size=fn.ntmps:=h3.size
          apply Array.ext'
          simp [hz]
         rw [e0] at this
         exact this) h3.size rfl
       have hi3:=hi2.pure (dst:=some R.t5) (val:=.undef) (v:=.func (.func g) #[] (R.caps.toArray.map a1.eval)) (.undef _) (fun d e=>by cases e;exact hk5)
       have hi4:=hi3.weak (s':=St.abs ⟨gY (cC 0 as1) R.t5 .undef,S1⟩) (fun i=>by
        simp only [St.abs,eK,bP]
        by_cases e5:R.t5=i
        ·left;simp [e5]
        ·right;simp [e5]) rfl
       have hact:(({tmps:=a1.tmps,defers:=[{target:=.fn (.func g) (R.caps.toArray.map a1.eval),args:=#[]}]}:Act).put (some R.t5) (.func (.func g) #[] (R.caps.toArray.map a1.eval)))=
         ({(a1.put (some R.t5) (.func (.func g) #[] (R.caps.toArray.map a1.eval))) with defers:={target:=.fn (.func g) (R.caps.toArray.map a1.eval),args:=#[]} ::(a1.put (some R.t5) (.func (.func g) #[] (R.caps.toArray.map a1.eval))).defers}:Act).put none undef:=by
        simp [Act.put,hdef0]
       show Code.wp P R.rest _ (({(a1.put (some R.t5) (.func (.func g) #[] (R.caps.toArray.map a1.eval))) with defers:={target:=.fn (.func g) (R.caps.toArray.map a1.eval),args:=#[]} ::(a1.put (some R.t5) (.func (.func g) #[] (R.caps.toArray.map a1.eval))).defers}:Act).put none undef) Ω1.w
       rw [←hact]
       refine wp_mono (jB hm hT hS _ ann R.rest _ _ _ ⟨cA L Ω1.e,Ω1.w,Ω1.pub⟩ h4 hdr.2 hi4) ?_
       intro en a2 w2 hq
       obtain ⟨z,s2,Ω2,g1,rfl,g3,g4⟩:=hq
       have hcv2:VL Ω2 caps (R.caps.map a1.eval):=by
        refine ⟨hvc.1,fun j c v hc hv=>?_⟩
        exact V.pinned g3.keep (List.all_eq_true.1 hcp c (List.mem_of_getElem? hc)) (hvc.2 j c v hc hv)
       have hcl':caps.length<=clo.ntmps:=by rw [hvc.1,List.length_map];exact hcl
       have hc6':caps.length<=R.t6:=by rw [hvc.1,List.length_map];exact hc6
       have close:∀(u u':FrameMode) (av:AV) (v:Value),u≠.run→settle u'=.returning→Rcv u av Ω2 v u'→tD C annC clo R caps av s2 (AT C fn.results.toList L s1 S1 S A s2.t)→
         Leaves P fn a2.tmps (fun en w'=>∃pub' e',match en with
          | .returned v=>(∀b pv u,A.pan=some (b,pv,u)→b=false)/\V ⟨e',w',pub'⟩ A.val v/\After w pub e (aw (bW S A.upd)) w' pub' e'
          | .panicked ch=>∃pv u v,A.pan=some (true,pv,u)/\ch=[{v,recovered:=false}]/\V ⟨e',w',pub'⟩ pv v/\After w pub e (aw (bW S u)) w' pub' e'
          | .outgrown=>False) [{target:=.fn (.func g) (R.caps.toArray.map a1.eval),args:=#[]}] u Ω2.w:=by
        intro u u' av v hu hse hrc hcr
        refine leaves_cons (f:=g) (args:=(R.caps.map a1.eval).toArray) hu (by simp [invoke,eg]) ?_
        refine (vN hm hT hS hRc hg hcb hk2 hres hcl' hc6' g3 hcv2 hrc hcr).mono ?_
        rintro en u2 w3 ⟨rfl,rfl,s3,Ω3,a3,T3,rfl,hfin,h5⟩
        simp only [hse,Leaves]
        obtain ⟨v,r1,pub',e',r2,r3,r4⟩:=yL hT h3 hdist hS1 hkS g3 h5 hpan hfin
        exact ⟨v,r1,pub',e',r2,r3,r4⟩
       have hds:a2.defers=[{target:=.fn (.func g) (R.caps.toArray.map a1.eval),args:=#[]}]:=g3.defers
       cases z with
       | normal=>cases g1;show Leaves P fn a2.tmps _ a2.defers .returning Ω2.w;rw [hds];exact close .returning .returning .nilif .nilIface (by simp) rfl (.ret Ω2) g4
       | ret=>cases g1;show Leaves P fn a2.tmps _ a2.defers .returning Ω2.w;rw [hds];exact close .returning .returning .nilif .nilIface (by simp) rfl (.ret Ω2) g4
       | exit id=>exact g4.elim
       | pan pv=>
        obtain ⟨v,rfl,hv⟩:=g1
        show Leaves P fn a2.tmps _ a2.defers (.panicking [{v,recovered:=false}]) Ω2.w
        rw [hds]
        exact close _ (.panicking [{v,recovered:=true}]) pv v (by simp) (by simp [settle]) (.pan Ω2 pv v hv) g4
      ·exact h4.elim
     ·exact h4.elim
 ·exact h.elim
end
end Go.AL
end
section
open Go Go.AL Go.Pd
namespace Go.AL.Seat
theorem Cp (c:Int) (hc:0<=c/\c<=400) :
  inR IntKind.i64 (c+(1:Int))/\if decide ((400:Int) < c+(1:Int))=true then decide ((400:Int) < c+(1:Int))=true/\c+(1:Int)=c+(1:Int)/\True else decide ((400:Int) < c+(1:Int))=false/\c+(1:Int)=c+(1:Int)/\True:=by
 refine ⟨bJ (by omega) (by omega),ab (fun h=>?_) (fun h=>?_)⟩
 ·exact ⟨h,rfl,trivial⟩
 ·exact ⟨by simpa using h,rfl,trivial⟩
theorem Cq (n:Nat) (s:Shape) (l c:Int) (hs:Wf (.st .shape) s) (hn:sz s<=n+1) (hc:0<=c/\c<=400/\1<=l/\l<=c+1) :
  ((0:Int)<=c/\c<=(400:Int))/\if decide ((400:Int) < c+(1:Int))=true then decide ((400:Int) < c+(↑(sz s):Int))=true/\c+(1:Int)=(401:Int)/\True else (∃(x:Nat × Int),(x.1<=List.length s.parts/\c+(1:Int)+(↑(szL (List.take x.1 s.parts)):Int)<=(400:Int)/\deepL (List.drop x.1 s.parts) (l+(1:Int)) x.2=deepS s l)/\l=x.2/\(0:Int)=(↑x.1:Int)/\s=s/\l=l/\(0:Int)=(0:Int)/\s.parts=s.parts/\(↑(List.length s.parts):Int)=(↑(List.length s.parts):Int)/\c+(1:Int)=c+(1:Int)+(↑(szL (List.take x.1 s.parts)):Int)/\s=s/\True)/\∀(x:Nat × Int),x.1<=List.length s.parts/\c+(1:Int)+(↑(szL (List.take x.1 s.parts)):Int)<=(400:Int)/\deepL (List.drop x.1 s.parts) (l+(1:Int)) x.2=deepS s l→if decide ((↑x.1:Int) < (↑(List.length s.parts):Int))=true then ((0:Int)<=(↑x.1:Int)/\(↑x.1:Int) < (↑(List.length s.parts):Int))/\inR IntKind.i64 (l+(1:Int))/\(sz (List.getD s.parts (Int.toNat (↑x.1:Int)) (dfl (Ty.st SN.shape)))<=n/\(0:Int)<=c+(1:Int)+(↑(szL (List.take x.1 s.parts)):Int)/\c+(1:Int)+(↑(szL (List.take x.1 s.parts)):Int)<=(400:Int)/\(1:Int)<=l+(1:Int)/\l+(1:Int)<=c+(1:Int)+(↑(szL (List.take x.1 s.parts)):Int)+(1:Int))/\if decide ((400:Int) < c+(1:Int)+(↑(szL (List.take x.1 s.parts)):Int)+(↑(sz (List.getD s.parts (Int.toNat (↑x.1:Int)) (dfl (Ty.st SN.shape)))):Int))=true then decide ((400:Int) < c+(↑(sz s):Int))=true/\(401:Int)=(401:Int)/\True else inR IntKind.i64 ((↑x.1:Int)+(1:Int))/\∃(y:Nat × Int),(y.1<=List.length s.parts/\c+(1:Int)+(↑(szL (List.take y.1 s.parts)):Int)<=(400:Int)/\deepL (List.drop y.1 s.parts) (l+(1:Int)) y.2=deepS s l)/\List.length s.parts - y.1 < List.length s.parts - x.1/\max x.2 (deepS (List.getD s.parts (Int.toNat (↑x.1:Int)) (dfl (Ty.st SN.shape))) (l+(1:Int)))=y.2/\(↑x.1:Int)+(1:Int)=(↑y.1:Int)/\s=s/\l=l/\(0:Int)=(0:Int)/\s.parts=s.parts/\(↑(List.length s.parts):Int)=(↑(List.length s.parts):Int)/\c+(1:Int)+(↑(szL (List.take x.1 s.parts)):Int)+(↑(sz (List.getD s.parts (Int.toNat (↑x.1:Int)) (dfl (Ty.st SN.shape)))):Int)=c+(1:Int)+(↑(szL (List.take y.1 s.parts)):Int)/\s=s/\True else decide ((400:Int) < c+(↑(sz s):Int))=false/\x.2=deepS s l/\c+(1:Int)+(↑(szL (List.take x.1 s.parts)):Int)=c+(↑(sz s):Int)/\True:=by
 have ln:=hs.parts.len
 have hz:=gV s
 refine ⟨⟨hc.1,hc.2.1⟩,ab (fun h=>?_) (fun h=>?_)⟩
 ·replace h:=Xo h
  have:=eP s
  exact ⟨Xd (by omega),by omega,trivial⟩
 replace h:¬(400:Int) < c+1:=fun e=>h (Xd e)
 have hd0:deepL s.parts (l+1) l=deepS s l:=by cases s;rfl
 refine ⟨⟨(0,l),⟨Nat.zero_le _,by simp [szL];omega,by simpa using hd0⟩,rfl,rfl,rfl,rfl,rfl,rfl,rfl,by simp [szL],rfl,trivial⟩,?_⟩
 rintro ⟨k,d⟩ ⟨h1,h2,h3⟩
 simp only [Int.toNat_natCast] at h1 h2 h3 ⊢
 have hc0:(0:Int)<=(szL (s.parts.take k):Int):=by omega
 refine ab (fun hk=>?_) (fun hk=>?_)
 ·replace hk:=Xo hk
  have hk:k < s.parts.length:=by omega
  have hs1:=jU s.parts k (dfl (.st .shape)) hk
  have hm:=dG (getD_mem s.parts k (dfl (.st .shape)) hk)
  rw [aH s.parts k (dfl (.st .shape)) hk] at h3
  simp only [deepL] at h3
  have ht:=tq s.parts (k+1)
  refine ⟨by omega,bJ (by omega) (by omega),⟨by omega,by omega,h2,by omega,by omega⟩,ab (fun h=>?_) (fun h=>?_)⟩
  ·replace h:=Xo h
   exact ⟨Xd (by omega),by trivial,by trivial⟩
  ·replace h:=fun e=>h (Xd e)
   replace h:¬(400:Int) < c+1+(szL (s.parts.take k):Int)+(sz (s.parts.getD k (dfl (.st .shape))):Int):=h
   exact ⟨bg hk ln,(k+1,_),⟨by omega,by simp only;omega,h3⟩,by simp only;omega,rfl,by simp only;omega,by trivial,by trivial,by trivial,by trivial,by trivial,by simp only;omega,by trivial,by trivial⟩
 ·replace hk:¬((k:Int) < (s.parts.length:Int)):=fun e=>hk (Xd e)
  have e:k=s.parts.length:=by omega
  subst e
  rw [List.take_length] at h2 ⊢
  rw [List.drop_length] at h3
  exact ⟨Xf (by omega),h3,by omega,trivial⟩
theorem AW (s:Shape) (hs:Wf (.st .shape) s) :
  (sz s<=sz s/\(0:Int)<=(0:Int)/\(0:Int)<=(400:Int)/\(1:Int)<=(1:Int)/\(1:Int)<=(0:Int)+(1:Int))/\if decide ((400:Int) < (0:Int)+(↑(sz s):Int))=true then ((401:Int)=if sz s<=(400:Nat) then (↑(sz s):Int) else (401:Int))/\((0:Int)=if sz s<=(400:Nat) then deepS s (1:Int) else (0:Int))/\false=decide (sz s<=(400:Nat))/\True else ((0:Int)+(↑(sz s):Int)=if sz s<=(400:Nat) then (↑(sz s):Int) else (401:Int))/\(deepS s (1:Int)=if sz s<=(400:Nat) then deepS s (1:Int) else (0:Int))/\true=decide (sz s<=(400:Nat))/\True:=by
 refine ⟨by simp,ab (fun h=>?_) (fun h=>?_)⟩
 ·replace h:=Xo h
  have h':¬sz s<=400:=by omega
  rw [if_neg h',if_neg h']
  exact ⟨rfl,rfl,by simp [h'],trivial⟩
 ·replace h:¬(400:Int) < 0+(sz s:Int):=fun e=>h (Xd e)
  have h':sz s<=400:=by omega
  rw [if_pos h',if_pos h']
  exact ⟨by omega,by trivial,by simp [h'],trivial⟩
end Go.AL.Seat
end
section
namespace Go.Pd
open Go.AL
mutual
def sizeF:Shape→Int→Int
 | ⟨_,_,_,_,ps⟩,m=>sizeL ps 1 m
def sizeL:List Shape→Int→Int→Int
 | [],n,_=>n
 | p ::r,n,m=>if n<=m then sizeL r (n+sizeF p (m - n)) m else n
end
mutual
theorem sizeF_bd:∀(s:Shape) (m:Int),0<=m→1<=sizeF s m/\sizeF s m<=m+1
 | ⟨_,_,_,_,ps⟩,m,h=>by
  simp only [sizeF]
  exact sizeL_bd ps 1 m (by omega) (by omega)
theorem sizeL_bd:∀(l:List Shape) (n m:Int),1<=n→n<=m+1→1<=sizeL l n m/\sizeL l n m<=m+1
 | [],n,m,h1,h2=>by simp only [sizeL];omega
 | p ::r,n,m,h1,h2=>by
  simp only [sizeL]
  split
  ·have:=sizeF_bd p (m - n) (by omega)
   exact sizeL_bd r _ m (by omega) (by omega)
  ·omega
end
end Go.Pd
end
section
namespace Go.Pd
open Go.AL
theorem CX {K V:Type} [DecidableEq K]:∀(m:List (K × V)) (k k':K) (v:V),cY (dK m k v) k'=if k'=k then some v else cY m k'
 | [],k,k',v=>by simp [dK,cY]
 | (a,u) ::r,k,k',v=>by
  simp only [dK]
  by_cases h:k=a
  ·subst h
   rw [if_pos rfl]
   by_cases h':k'=k <;> simp [cY,h']
  ·rw [if_neg h]
   simp only [cY,CX r k k' v]
   by_cases h1:k'=a
   ·subst h1
    simp [Ne.symm h]
   ·simp [h1]
def iD:List Str→List Shape→Str→Option Shape
 | n ::r,p ::q,name=>if n=name then some p else iD r q name
 | _,_,_=>none
def aZ (s:Shape) (name:Str):Option Shape:=iD s.names s.parts name
theorem oL:∀{ns:List Str} {ps:List Shape} {n:Str} {p:Shape},iD ns ps n=some p→p∈ps
 | [],ps,n,p,h=>by cases ps <;> simp [iD] at h
 | a ::r,[],n,p,h=>by simp [iD] at h
 | a ::r,b ::q,n,p,h=>by
  simp only [iD] at h
  split at h
  ·simp at h;subst h;simp
  ·exact List.mem_cons_of_mem _ (oL h)
theorem mZ {f:Shape→Bool} {s:Shape} (h:allS f s=true):f s=true/\allL f s.parts=true:=by
 rw [gr,Bool.and_eq_true] at h
 exact h
end Go.Pd
end
section
namespace Go.Pd
open Go.AL
def p0 (A:Ans):Pat
 | [],[]=>some A
 | _,_=>none
theorem CY [Tabs] {P:Program} {f:Nat} {A:Ans} (he:aC P f) (h:ay P f [] [] A):aj P f (p0 A):=by
 intro args S A' hA _ _
 unfold p0 at hA
 split at hA
 ·simp only [Xs] at hA
  subst hA
  exact ⟨he,h⟩
 ·cases hA
end Go.Pd
end
section
namespace Go.Pd
open Go.AL
mutual
theorem eqS_refl:∀a:Shape,eqS a a=true
 | ⟨k,p,n,ns,ps⟩=>by simp [eqS,eqL_refl ps]
theorem eqL_refl:∀a:List Shape,eqL a a=true
 | []=>rfl
 | a ::r=>by simp [eqL,eqS_refl a,eqL_refl r]
end
end Go.Pd
end
section
namespace Go.Pd
open Go.AL
def my:List Bndg→Bool
 | []=>true
 | b ::r=>if 800 < sizeF b.shape 800 then false else my r
def gd (l:List Bndg):Bool:=if 60 < (l.length:Int) then false else my l
def iE (e:Envt):Bool:=gd e.types && gd e.values && gd e.own
theorem AX {l:List Bndg} (h:gd l=true):l.length<=60:=by
 unfold gd at h
 split at h
 ·cases h
 ·omega
def bA (env:Envt) (b:List Bndg):Envt:=⟨env.self,env.types,env.values++b,env.own⟩
def szB:List Bndg→Nat
 | []=>0
 | b ::r=>sz b.shape+szB r
theorem AY:∀(l:List Bndg),∀x∈l,sz x.shape<=szB l
 | [],x,h=>by cases h
 | b ::r,x,h=>by
  rcases List.mem_cons.1 h with rfl | h
  ·rw [szB];omega
  ·have:=AY r x h;rw [szB];omega
end Go.Pd
end
section
open Go Go.AL Go.Pd
namespace Go.AL.Seat
theorem yM (l:List Bndg) (hl:Wf (.lst (.st .bind)) l) (ho:l.length *120<=140737488355328) :
  ∀(b:Bool),(b=true→l=[])→if b=true then True/\l=[]/\List.length l=(0:Nat)/\True else (List.length ([]:List Bndg)=List.length ([]:List Bndg)/\(List.length ([]:List Bndg)+List.length l) *(120:Nat)<=(140737488355328:Nat))/\True/\[]++l=l/\List.length ([]++l)=List.length l/\True:=by
 intro b hb
 refine ab (fun h=>?_) (fun h=>?_)
 ·have:=hb h
  exact ⟨trivial,this,by rw [this];rfl,trivial⟩
 ·exact ⟨⟨rfl,by simp only [List.length_nil];omega⟩,trivial,rfl,rfl,trivial⟩
end Go.AL.Seat
end
section
open Go Go.AL Go.Proofs Go.Shelf Go.Pd
namespace Go.AL.Seat
open Go.Proofs.Tryz
variable [Tabs]
def nn:Nat→Bool:=fun _=>false
def cf (k:Nat→Bool) (l:Nat→List (Option Nat)) (p r m:Nat→Bool) (s:Nat→List AV→List (Nat × SObj)→Option Ans):Cfg:=⟨tbl,s,k,l,p,r,m⟩
def a0:An:=⟨[],[],[]⟩
theorem g1 (k:Nat→Bool) (l:Nat→List (Option Nat)) (p r m:Nat→Bool) {s:Nat→List AV→List (Nat × SObj)→Option Ans} (hS:bM prog s) (a:An) {f:Nat} {fn:Func} (hf:Tryz.prog.funcs[f]?=some fn)
  {args:List AV} {S:List (Nat × SObj)} {A:Ans} {Q:Prop} (q:Q) (h:fwp (cf k l p r m s) a fn args S A=Q:=by kernel_rfl):ay prog f args S A:=Aw (C:=cf k l p r m s) mixed oK hS hf q h
theorem g0 {s:Nat→List AV→List (Nat × SObj)→Option Ans} (hS:bM prog s) (a:An) {f:Nat} {fn:Func} (hf:Tryz.prog.funcs[f]?=some fn)
  {args:List AV} {S:List (Nat × SObj)} {A:Ans} {Q:Prop} (q:Q) (h:fwp (cf nn (fun _=>[]) nn nn nn s) a fn args S A=Q:=by kernel_rfl):ay prog f args S A:=Aw (C:=cf nn (fun _=>[]) nn nn nn s) mixed oK hS hf q h
theorem sc {f:Nat} {g:Pat} {l:List (Nat × Pat)} (h:aj prog f g) (hl:bM prog (gq l)):bM prog (gq ((f,g) ::l)):=om h hl
theorem sn:bM prog (gq []):=qd
theorem ee {f:Nat} {fn:Func} (h:Tryz.prog.funcs[f]?=some fn) (e:(fn.body.isNone || (fn.name == "runtime.NumGoroutine"))=false:=by kernel_rfl):aC prog f:=aC.mk' h e
theorem AZ:aj prog 108 (rF 126):=
 vG (ee func108) fun c hc=>g0 sn a0 func108 (Cp c hc)
theorem xx:aC prog 107:=ee func107
theorem vO (n:Nat) (s:AL.Shape) (l c:Int) (hs:Wf (.st .shape) s) (hn:sz s<=n+1) (hc:0<=c/\c<=400/\1<=l/\l<=c+1) (hA:aj prog 107 (mX 126 108 n)):ay prog 107 [.st .shape s,.int .i64 l,.fn 108 [.ptr 900 0]] [(900,.box (.int .i64 c))] (AD 126 s l c (sz s<=n+1)):=
 g0 (sc AZ (sc (hA) sn)) ⟨[(4,fun S0=>⟨Nat × Int,fun x=>x.1<=s.parts.length/\c+1+(szL (s.parts.take x.1):Int)<=400/\deepL (s.parts.drop x.1) (l+1) x.2=deepS s l,fun x=>[(7,.int .i64 x.2),(16,.int .i64 x.1)],fun x=>[(900,.box (.int .i64 (c+1+(szL (s.parts.take x.1):Int))))],fun x=>s.parts.length - x.1⟩)],[],[]⟩ func107 (Cq n s l c hs hn hc)
theorem B0:∀n:Nat,aj prog 107 (mX 126 108 n):=by
 intro n
 induction n with
 | zero=>exact ox xx fun s l c hs hn hc=>absurd hn (by have:=eP s;omega)
 | succ n ih=>exact ox xx fun s l c hs hn hc=>vO n s l c hs hn hc ih
theorem tE (s:AL.Shape) (hs:Wf (.st .shape) s) :ay prog 59 [.st .shape s] [] (.ret (.tup [.int .i64 (if sz s<=400 then (sz s:Int) else 401),.int .i64 (if sz s<=400 then deepS s 1 else 0),.bool (decide (sz s<=400))])):=
 fwpR_sound (C:=⟨tbl,_,fun _=>false,fun _=>[],fun _=>false,fun _=>false,fun _=>false⟩) (ann:=⟨[],[],[]⟩) (annC:=⟨[],[],[]⟩) mixed oK (om (B0 (sz s)) (qd)) func59 func106 (enters_of func106 (by kernel_rfl) rfl) (@Eq.mpr _ _ (by kernel_rfl) (AW s hs))
theorem qh:aj prog 59 (p1 (.st .shape) fun s=>.ret (.tup [.int .i64 (if sz s<=400 then (sz s:Int) else 401),.int .i64 (if sz s<=400 then deepS s 1 else 0),.bool (decide (sz s<=400))])):=
 bY (ee func59) fun s hs _=>tE s hs
theorem oM:aj prog 34 (p1 (.lst (.st .bind)) fun l=>⟨some (l.length *120<=140737488355328),none,.lst (.st .bind) l (some 5),[(5,.tail (.st .bind) l.length)]⟩):=
 bY (ee func34) fun l hl ho=>g0 sn a0 func34 (yM l hl (ho _ rfl))
end Go.AL.Seat
end
section
namespace Go.Proofs
open Go.RowKit Go.Shelf Go.AL
theorem Tryz.compare (a b:ByteArray) (w:World):Calls Tryz.prog 63 #[.string a,.string b] w fun e w'=>e=.returned (.int .i64 (Lib.compareBytes a.data.toList b.data.toList))/\w'=w:=Any.strings_Compare Tryz.lays106 a b w
set_option maxRecDepth 100000 in
set_option maxHeartbeats 2000000 in
theorem Tryz.cmp62 (W:World) (b o g off cap len i j:Nat) (si sj:Str) (h1:W.cell? ⟨b,o+3,none⟩=some (.slice (some ⟨g,off,none⟩) len cap)) (hi:i < len) (hj:j < len) (ci:W.cell? ⟨g,off+i,none⟩=some (encStr si)) (cj:W.cell? ⟨g,off+j,none⟩=some (encStr sj)) :
  Calls Tryz.prog 62 #[.int .i64 i,.int .i64 j,.pointer (some ⟨b,o,none⟩)] W fun e w'=>e=.returned (.int .i64 (Lib.compareBytes si sj))/\∃q,w'=W.drewN q:=by
 go_enter Tryz.func62,Tryz.ntmps62
 go_wp2
 go_quiet (first | (go_at_call 63;refine Calls.quiet_of_same (Tryz.compare _ _ _)))
 go_wp2
 go_ret
 exact ⟨rfl,_,rfl⟩
end Go.Proofs
end
section
namespace Go.AL.Seat
open Go Go.AL Go.Proofs Go.Shelf
variable [Tabs]
theorem kS:aj Tryz.prog 61 (dz 62):=
 ow Tryz.sortf61 rfl (enters_of Tryz.func62 (by kernel_rfl) rfl) (fun W b o g0 off cap len i j si sj h1 h2 h3 h4 h5=>Tryz.cmp62 W b o g0 off cap len i j si sj h1 h2 h3 h4 h5) (aC.mk' Tryz.func61 (by kernel_rfl))
end Go.AL.Seat
end
section
namespace Go.AL
open Go.Shelf Go.Proofs Go.RowKit
variable [Tabs] {P:Program} {ρ:Ren}
theorem After.newRow {w w':World} {pub:Nat→Nat→Prop} {e:Nat→Option CObj} (hp:iL w pub) (hd:∀id,e id=none) (hb:Below w.heap.size w w') {g:Nat} (hg:w.heap.size<=g) {p:Nat→Prop} (hc:∀o,p o→∃v,w'.cell? ⟨g,o,none⟩=some v) :
  After w pub e (aw (bW [] [])) w' (fun b o=>pub b o∨(b=g/\p o)) e where
 os:=hb.os
 tape:=hb.tape
 output:=hb.output
 size:=hb.size
 block b h _:=hb.block b h
 cell b o h _:=ar (hb.block b h) o
 kind b h _:=⟨bf (hb.block b h),fun o=>aW (hb.block b h) o⟩
 ext:=⟨fun _ c h=>⟨c,h,CLe.refl c⟩,fun _ _ h=>.inl h,fun b o h=>by obtain ⟨v,hv⟩:=hp b o h;exact ar (hb.block b (aV hv)) o⟩
 fresh b o h:=by
  rcases h with h | ⟨rfl,_⟩
  ·exact .inl h
  ·exact .inr (.inl hg)
 ok b o h:=by
  rcases h with h | ⟨rfl,h⟩
  ·obtain ⟨v,hv⟩:=hp b o h;exact ⟨v,(ar (hb.block b (aV hv)) o).trans hv⟩
  ·exact hc o h
 slots id o h:=by simp [bW,aR,aO] at h
 dom id _:=hd id
 inj i j c d b o h:=by rw [hd i] at h;cases h
theorem tF (L:Lays2.n16 P ρ) (l:List Str) (hb:l.length *16<=140737488355328) {ob:Option Prop}:ay P (ρ.f 16) [.lst .str l none] [] ⟨ob,none,.lst .str l none,[]⟩:=by
 intro w pub e vs hp ht hv hs hd hi
 have he:e=fun _=>none:=funext fun id=>hd id rfl
 subst he
 obtain ⟨v,rfl,hV⟩:=hv.one_inv
 cases hV with
 | lstNil _ _ tok=>
  refine (Any.slices_Clone_string_nil L 0 0 w).mono ?_
  rintro en w' ⟨rfl,rfl⟩
  exact ⟨pub,_,fun b pv u h=>(by cases h),.lstNil _ _ tok,After.below hp (fun _=>rfl) (Below.refl _ _)⟩
 | lstVoid _ a=>
  refine (Any.slices_Clone_string_zero L a 0 w).mono ?_
  rintro en w' ⟨v',rfl,⟨hl,hrow⟩,hn,hbw⟩
  refine ⟨pub,_,fun b pv u h=>(by cases h),?_,After.below hp (fun _=>rfl) hbw⟩
  rcases hrow with ⟨rfl,hz⟩ | ⟨g,cap,cur,rfl,hbase,hg,h1,h2,h3,h4⟩
  ·exact absurd rfl hn
  ·exact .lst .str [] none g 0 cap (fun _ _=>.bool false) (Nat.zero_le _) (by unfold maxLen at h2;unfold bq;omega) (fun id h=>by cases h) (fun i x hx=>by cases hx) (fun i x hx=>by cases hx)
 | lst _ _ _ b off cap vals h1 h2 tok hcell hval=>
  have at_:∀i (hi:i < l.length),w.cell? ⟨b,off+i,none⟩=some (.string ⟨l[i].toArray⟩)/\l[i].length<=bq:=fun i hi=>by
   have hx:l[i]?=some l[i]:=List.getElem?_eq_getElem hi
   obtain ⟨_,c1⟩:=hcell i l[i] hx 0 (.str l[i]) rfl
   have c2:=hval i l[i] hx 0 (.str l[i]) rfl
   obtain ⟨c3,c4⟩:=c2.str_inv
   rw [c3,show off+(i *ah .str+0)=off+i by rw [show ah .str=1 from rfl];omega] at c1
   exact ⟨c1,c4⟩
  refine (Any.slices_Clone_string L b off l.length cap (l.map fun s=>(⟨s.toArray⟩:ByteArray)) w (by simp) hb (fun j hj=>?_)).mono ?_
  ·have hj':j < l.length:=by simpa using hj
   rw [(at_ j hj').1,List.getD_eq_getElem?_getD,List.getElem?_map,List.getElem?_eq_getElem hj']
   rfl
  rintro en w' ⟨v',rfl,⟨hl,hrow⟩,hn,hbw⟩
  rcases hrow with ⟨rfl,hz⟩ | ⟨g,cap',cur,rfl,hbase,hg,k1,k2,k3,k4⟩
  ·exact absurd rfl hn
  have hcur:∀i (hi:i < l.length),cur[i]?=some (.string ⟨l[i].toArray⟩):=fun i hi=>by
   have:(cur.toList.take (l.length *1))[i]?=some (.string ⟨l[i].toArray⟩):=by
    rw [k4,List.getElem?_map,List.getElem?_take]
    simp [hi]
   rw [List.getElem?_take] at this
   split at this
   ·simpa using this
   ·cases this
  refine ⟨fun b o=>pub b o∨(b=g/\o < l.length),_,fun b pv u h=>(by cases h),?_,After.newRow hp (fun _=>rfl) hbw hbase (p:=fun o=>o < l.length) (fun o ho=>⟨_,by rw [aK hg];exact hcur o ho⟩)⟩
  refine .lst .str l none g 0 cap' (fun i _=>.string ⟨(l.getD i []).toArray⟩) k1 (by unfold maxLen at k2;unfold bq;omega) (fun id h=>by cases h) (fun i x hx j c hc=>?_) (fun i x hx j c hc=>?_)
  ·obtain ⟨hi,rfl⟩:=List.getElem?_eq_some_iff.1 hx
   have hj:j=0:=by
    cases j with
    | zero=>rfl
    | succ j=>simp [cells] at hc
   subst hj
   rw [show 0+(i *ah .str+0)=i by rw [show ah .str=1 from rfl];omega]
   refine ⟨.inr ⟨rfl,hi⟩,?_⟩
   show w'.cell? ⟨g,i,none⟩=_
   rw [aK hg,hcur i hi,List.getD_eq_getElem?_getD,List.getElem?_eq_getElem hi]
   rfl
  ·obtain ⟨hi,rfl⟩:=List.getElem?_eq_some_iff.1 hx
   have hj:j=0:=by
    cases j with
    | zero=>rfl
    | succ j=>simp [cells] at hc
   subst hj
   have e1:c=.str l[i]:=by simpa [cells] using hc.symm
   subst e1
   rw [List.getD_eq_getElem?_getD,List.getElem?_eq_getElem hi]
   exact .str _ (at_ i hi).2
def tG:Pat:=p1 (.lst .str) fun l=>⟨some (l.length *16<=140737488355328),none,.lst .str l none,[]⟩
theorem tH {f:Nat} (L:Lays2.n16 P ρ) (hf:ρ.f 16=f) (he:aC P f):aj P f tG:=by
 subst hf
 exact bY he fun l _ ho=>tF L l (ho _ rfl)
end Go.AL
end
section
namespace Go.Proofs
open Go.Shelf
def Tryz.lays2_16_ren:Go.Shelf.Ren:=⟨fun | 16=>64 | n=>n,fun | 24=>22 | 9=>9 | 4=>4 | n=>n,fun | n=>n⟩
theorem Tryz.lays2_16:Go.Proofs.Lays2.n16 Tryz.prog Tryz.lays2_16_ren:={
 mixed:=by kernel_rfl
 f16:=Xt Tryz.func64
 t4:=Tryz.underlying4
 a4:=Tryz.isAgg4
 z4:=Tryz.sizeOf4
 v4:=Tryz.zeroValue4
 t9:=Tryz.underlying9
 a9:=Tryz.isAgg9
 z9:=Tryz.sizeOf9
 v9:=Tryz.zeroValue9
 t24:=Tryz.underlying22
 a24:=Tryz.isAgg22
 z24:=Tryz.sizeOf22
 v24:=Tryz.zeroValue22
 i9:=by kernel_rfl}
end Go.Proofs
end
section
namespace Go.AL.Seat
open Go Go.AL Go.Proofs Go.Shelf Go.Pd
variable [Tabs]
theorem lL:aj Tryz.prog 64 tG:=tH Tryz.lays2_16 rfl (aC.mk' Tryz.func64 (by kernel_rfl))
end Go.AL.Seat
end
section
namespace Go.Pd
open Go.AL
variable {l:List Tokn} {R:PS→Trm × PS}
end Go.Pd
namespace Go.Pd
open Go.AL
structure TokG (t:Tokn):Prop where
 kind:¬t.kind=0
 name:t.kind=1→aY t.text=true
 upper:t.kind=2→ev t.text=true
 num:t.kind=3→mn t.text
 pos:0<=t.pos
end Go.Pd
namespace Go.Pd
open Go.AL
end Go.Pd
end
noncomputable section
namespace Go.Pd
open Go.AL
def dD (F:Shape→Shape→Bool) (must:Bool) (b:Shape):List Str→List Shape→Bool
 | m ::r,p ::q=>(match aZ b m with | none=>!must | some x=>F p x) && dD F must b r q
 | _,_=>true
def iM (F:Shape→Shape→Bool) (fn:Bool):List Shape→List Shape→Bool
 | p ::r,q ::s=>(if (fn && !r.isEmpty)=true then F q p else F p q) && iM F fn r s
 | _,_=>true
def aX:Nat→Shape→Shape→Bool
 | 0,_,_=>false
 | n+1,a,b=>decide (a.kind=4) || decide (b.kind=4) ||
   (decide (a.kind=b.kind) && decide (a.pkg=b.pkg) && decide (a.name=b.name) &&
    (if a.kind=6 then dD (aX n) false b a.names a.parts && b.names.all (fun m=>(aZ a m).isSome)
    else if a.kind=7 then dD (aX n) true b a.names a.parts
    else decide (a.parts.length=b.parts.length) && iM (aX n) (decide (a.kind=8)) a.parts b.parts))
def kT (a b:Shape):Bool:=decide (ax a=0) && decide (ax b=0) && aX 800 a b
theorem kU {s:Shape} (h:aq s=true):s.names=[]∨s.names.length=s.parts.length:=by
 unfold aq cr at h
 simp only at h
 repeat' split at h
 all_goals simp only [Bool.and_eq_true,decide_eq_true_eq,List.all_eq_true,Bool.false_eq_true] at h
 all_goals first
  | exact .inl h.1.2
  | exact .inr h.2.1.1.2
  | exact .inr h.2.1.1
  | skip
theorem yN {o:Shape} {m:Str} {x:Shape} (h:aZ o m=some x):True/\x∈o.parts:=⟨trivial,oL h⟩
theorem oN (m:Str) (d:Shape):∀(ns:List Str) (ps:List Shape) (k:Nat),ns.length=ps.length→
  (bO ns m (k:Int)=-1/\iD ns ps m=none)∨∃j,j < ns.length/\bO ns m (k:Int)=((k+j:Nat):Int)/\iD ns ps m=some (ps.getD j d)
 | [],ps,k,_=>.inl ⟨rfl,by cases ps <;> rfl⟩
 | a ::r,p ::q,k,h=>by
  simp only [bO,iD]
  by_cases e:a=m
  ·rw [if_pos e,if_pos e]
   exact .inr ⟨0,by simp,by simp,rfl⟩
  ·rw [if_neg e,if_neg e]
   have:=oN m d r q (k+1) (by simpa using h)
   rw [show ((k:Int)+1)=((k+1:Nat):Int) by omega]
   rcases this with h1 | ⟨j,h1,h2,h3⟩
   ·exact .inl h1
   ·exact .inr ⟨j+1,by simp;omega,by rw [h2];omega,by rw [h3];rfl⟩
theorem qi {s:Shape} (m:Str) (d:Shape) (h:s.names=[]∨s.names.length=s.parts.length):(¬0<=bO s.names m 0/\aZ s m=none)∨(0<=bO s.names m 0/\bO s.names m 0 < (s.parts.length:Int)/\aZ s m=some (s.parts.getD (bO s.names m 0).toNat d)):=by
 unfold aZ
 rcases h with e | e
 ·rw [e]
  exact .inl ⟨by simp [bO],by cases s.parts <;> rfl⟩
 ·rcases oN m d s.names s.parts 0 e with ⟨h1,h2⟩ | ⟨j,h1,h2,h3⟩
  ·have h1:bO s.names m 0=-1:=h1
   exact .inl ⟨by omega,h2⟩
  ·have h2:bO s.names m 0=((0+j:Nat):Int):=h2
   refine .inr ⟨by omega,by omega,?_⟩
   rw [h2,h3,Int.toNat_natCast,Nat.zero_add]
theorem B1 {s:Shape} (m:Str) (d:Shape) (h:aq s=true):(¬0<=bO s.names m 0/\aZ s m=none)∨(0<=bO s.names m 0/\bO s.names m 0 < (s.parts.length:Int)/\aZ s m=some (s.parts.getD (bO s.names m 0).toNat d)):=qi m d (kU h)
theorem B2 {s:Shape} (h:ax s=0):(aM s).names=[]∨(aM s).names.length=(aM s).parts.length:=by
 unfold aM
 rw [if_pos h]
 obtain ⟨k,p,n,ns,ps⟩:=s
 by_cases e:ns=[]
 ·exact .inl (by rw [sortedS,if_pos e])
 ·exact .inr (by rw [sortedS];simp [e])
def rL (g:Nat) (F:Shape→Shape→Ans):Pat:=fun args S=>
 match args,S with
 | [.ptr 900 0,a,b],[(900,.box (.agg [.fn f []]))]=>
  (match Nat.beq f g,arg (.st .shape) a,arg (.st .shape) b with
  | true,some x,some y=>some (F x y)
  | _,_,_=>none)
 | _,_=>none
theorem qj [Tabs] {P:Program} {f g:Nat} {F:Shape→Shape→Ans} (he:aC P f) (h:∀a b,Wf (.st .shape) a→Wf (.st .shape) b→(∀q,(F a b).ob=some q→q)→ay P f [.ptr 900 0,.st .shape a,.st .shape b] [(900,.box (.agg [.fn g []]))] (F a b)) :
  aj P f (rL g F):=by
 intro args S A hA ho _
 unfold rL at hA
 split at hA
 ·split at hA
  ·rename_i x y hb hx hy
   simp only [Xs] at hA
   subst hA
   have e:=Nat.eq_of_beq_eq_true hb
   subst e
   exact ⟨he,ay.args (.cons (Rd.refl _) (.cons (Rd.arg hx) (.cons (Rd.arg hy) .nil))) (ay.wf fun hw=>h _ _ hw.cons.2.cons.1 hw.cons.2.cons.2.cons.1 ho)⟩
  ·cases hA
 ·cases hA
def kV (g:Nat) (F:List Str→Shape→Ans):Pat:=fun args S=>
 match args,S with
 | [a,.fn f [.ptr 900 0]],[(900,.box (.st .shape s))]=>(match Nat.beq f g,arg (.lst .str) a with | true,some x=>some (F x s) | _,_=>none)
 | _,_=>none
theorem mz [Tabs] {P:Program} {f g:Nat} {F:List Str→Shape→Ans} (he:aC P f) (h:∀a s,Wf (.lst .str) a→(∀q,(F a s).ob=some q→q)→ay P f [.lst .str a none,.fn g [.ptr 900 0]] [(900,.box (.st .shape s))] (F a s)) :
  aj P f (kV g F):=by
 intro args S A hA ho _
 unfold kV at hA
 split at hA
 ·split at hA
  ·rename_i x hb hx
   simp only [Xs] at hA
   subst hA
   have e:=Nat.eq_of_beq_eq_true hb
   subst e
   exact ⟨he,ay.args (.cons (Rd.arg hx) (.cons (Rd.refl _) .nil)) (ay.wf fun hw=>h _ _ hw.one ho)⟩
  ·cases hA
 ·cases hA
def vP (F:Str→Shape→Ans):Pat:=fun args S=>
 match args,S with
 | [a,.ptr 900 0],[(900,.box (.st .shape s))]=>(match arg .str a with | some x=>some (F x s) | _=>none)
 | _,_=>none
theorem yO [Tabs] {P:Program} {f:Nat} {F:Str→Shape→Ans} (he:aC P f) (h:∀a s,(∀q,(F a s).ob=some q→q)→ay P f [.str a,.ptr 900 0] [(900,.box (.st .shape s))] (F a s)) :
  aj P f (vP F):=by
 intro args S A hA ho _
 unfold vP at hA
 split at hA
 ·split at hA
  ·rename_i x hx
   simp only [Xs] at hA
   subst hA
   exact ⟨he,ay.args (.cons (Rd.arg hx) (.cons (Rd.refl _) .nil)) (h _ _ ho)⟩
  ·cases hA
 ·cases hA
end Go.Pd
end
noncomputable section
namespace Go.Pd
open Go.AL
def aU:List Bndg→Str→Str→Option Shape
 | [],_,_=>none
 | b ::r,o,m=>match aU r o m with
  | some s=>some s
  | none=>if b.pkg=o/\b.name=m then some b.shape else none
def mA (l:List Bndg) (m:List (Nam × Shape)):List (Nam × Shape):=l.foldl (fun m b=>dK m ⟨b.pkg,b.name⟩ b.shape) m
def gx (l:List Bndg):List (Nam × Shape):=mA l []
def b6 (m:List (Nam × Shape)) (o n:Str):Option Shape:=cY m ⟨o,n⟩
theorem xy (k:Nam):∀(l:List Bndg) (m:List (Nam × Shape)),cY (mA l m) k=match aU l k.pkg k.name with | some s=>some s | none=>cY m k
 | [],m=>rfl
 | b ::r,m=>by
  rw [mA,List.foldl_cons,←mA,xy k r,aU]
  cases aU r k.pkg k.name with
  | some s=>rfl
  | none=>
   rw [CX]
   by_cases h:b.pkg=k.pkg/\b.name=k.name
   ·rw [if_pos h,if_pos (show k=⟨b.pkg,b.name⟩ by cases k;simp at h;rw [h.1,h.2])]
   ·rw [if_neg h,if_neg (fun e=>h (by rw [e];exact ⟨rfl,rfl⟩))]
theorem tI (l:List Bndg):b6 (gx l)=aU l:=by
 funext o n
 unfold b6 gx
 rw [xy]
 show (match aU l o n with | some s=>some s | none=>none)=_
 cases aU l o n <;> rfl
mutual
def fillS (g:Str→Str→Option Shape):Shape→Option Shape
 | ⟨k,o,m,ns,ps⟩=>if k=9 then g o m else (fillL g ps).map fun q=>⟨k,o,m,ns,q⟩
def fillL (g:Str→Str→Option Shape):List Shape→Option (List Shape)
 | []=>some []
 | p ::r=>match fillS g p with
  | none=>none
  | some q=>(fillL g r).map fun l=>q ::l
end
theorem kW (g:Str→Str→Option Shape) (s:Shape):fillS g s=if s.kind=9 then g s.pkg s.name else (fillL g s.parts).map fun q=>⟨s.kind,s.pkg,s.name,s.names,q⟩:=by cases s;rw [fillS]
def au (s:Shape) (l:List Bndg):Shape × Int:=
 if ax s=0 then
  match fillS (aU l) s with
  | none=>(ao,110)
  | some q=>if ax q=0 then (aM q,0) else (ao,ax q)
 else (ao,ax s)
def vQ (A:Option (List (Nam × Shape))→Nam→Shape→Ans):Pat:=fun args S=>
 match args,S with
 | [.ptr 900 0,k,v],(900,.box a) ::r=>
  (match arg (.st .nm) k,arg (.st .shape) v with
  | some k,some v=>(match a,r with
   | .agg [.nilm],[]=>some (A none k v)
   | .map 901,[(901,.map (.st .nm) (.st .shape) m)]=>some (A (some m) k v)
   | _,_=>none)
  | _,_=>none)
 | _,_=>none
theorem yP [Tabs] {P:Program} {f:Nat} {A:Option (List (Nam × Shape))→Nam→Shape→Ans} (he:aC P f)
  (h0:∀k v,ay P f [.ptr 900 0,.st .nm k,.st .shape v] [(900,.box (.agg [.nilm]))] (A none k v))
  (h1:∀m k v,ay P f [.ptr 900 0,.st .nm k,.st .shape v] [(900,.box (.map 901)),(901,.map (.st .nm) (.st .shape) m)] (A (some m) k v)):aj P f (vQ A):=by
 intro args S B hB ho _
 unfold vQ at hB
 split at hB
 ·split at hB
  ·rename_i k v hk hv
   split at hB
   ·cases hB
    exact ⟨he,ay.args (.cons (Rd.refl _) (.cons (Rd.arg hk) (.cons (Rd.arg hv) .nil))) (h0 _ _)⟩
   ·cases hB
    exact ⟨he,ay.args (.cons (Rd.refl _) (.cons (Rd.arg hk) (.cons (Rd.arg hv) .nil))) (h1 _ _ _)⟩
   ·cases hB
  ·cases hB
 ·cases hB
def vR (A:Option (List (Nam × Shape))→Nam→Ans):Pat:=fun args S=>
 match args,S with
 | [.ptr 900 0,k],(900,.box a) ::r=>
  (match arg (.st .nm) k with
  | some k=>(match a,r with
   | .agg [.nilm],[]=>some (A none k)
   | .map 901,[(901,.map (.st .nm) (.st .shape) m)]=>some (A (some m) k)
   | _,_=>none)
  | _=>none)
 | _,_=>none
theorem yQ [Tabs] {P:Program} {f:Nat} {A:Option (List (Nam × Shape))→Nam→Ans} (he:aC P f)
  (h0:∀k,ay P f [.ptr 900 0,.st .nm k] [(900,.box (.agg [.nilm]))] (A none k))
  (h1:∀m k,ay P f [.ptr 900 0,.st .nm k] [(900,.box (.map 901)),(901,.map (.st .nm) (.st .shape) m)] (A (some m) k)):aj P f (vR A):=by
 intro args S B hB ho _
 unfold vR at hB
 split at hB
 ·split at hB
  ·rename_i k hk
   split at hB
   ·cases hB
    exact ⟨he,ay.args (.cons (Rd.refl _) (.cons (Rd.arg hk) .nil)) (h0 _)⟩
   ·cases hB
    exact ⟨he,ay.args (.cons (Rd.refl _) (.cons (Rd.arg hk) .nil)) (h1 _ _)⟩
   ·cases hB
  ·cases hB
 ·cases hB
def kX (A:Option (List (Nam × Shape))→Shape→Ans):Pat:=fun args S=>
 match args,S with
 | [s,.ptr 900 0],(900,.box a) ::r=>
  (match arg (.st .shape) s with
  | some s=>(match a,r with
   | .agg [.nilm],[]=>some (A none s)
   | .map 901,[(901,.map (.st .nm) (.st .shape) m)]=>some (A (some m) s)
   | _,_=>none)
  | _=>none)
 | _,_=>none
theorem oO [Tabs] {P:Program} {f:Nat} {A:Option (List (Nam × Shape))→Shape→Ans} (he:aC P f)
  (h0:∀s,Wf (.st .shape) s→(∀q,(A none s).ob=some q→q)→ay P f [.st .shape s,.ptr 900 0] [(900,.box (.agg [.nilm]))] (A none s))
  (h1:∀m s,Wf (.st .shape) s→(∀q,(A (some m) s).ob=some q→q)→ay P f [.st .shape s,.ptr 900 0] [(900,.box (.map 901)),(901,.map (.st .nm) (.st .shape) m)] (A (some m) s)):aj P f (kX A):=by
 intro args S B hB ho _
 unfold kX at hB
 split at hB
 ·split at hB
  ·rename_i k hk
   split at hB
   ·cases hB
    exact ⟨he,ay.args (.cons (Rd.arg hk) (.cons (Rd.refl _) .nil)) (ay.wf fun hw=>h0 _ hw.cons.1 ho)⟩
   ·cases hB
    exact ⟨he,ay.args (.cons (Rd.arg hk) (.cons (Rd.refl _) .nil)) (ay.wf fun hw=>h1 _ _ hw.cons.1 ho)⟩
   ·cases hB
  ·cases hB
 ·cases hB
def oP (A0:Ans) (A1:Bndg→List Bndg→Ans):Pat:=fun args S=>
 match args,S with
 | [a],[]=>(match arg (.lst (.st .bind)) a with | some []=>some A0 | some (b ::r)=>some (A1 b r) | none=>none)
 | _,_=>none
theorem tJ [Tabs] {P:Program} {f:Nat} {A0:Ans} {A1:Bndg→List Bndg→Ans} (he:aC P f)
  (h0:ay P f [.lst (.st .bind) [] none] [] A0) (h1:∀b r,Wf (.lst (.st .bind)) (b ::r)→ay P f [.lst (.st .bind) (b ::r) none] [] (A1 b r)):aj P f (oP A0 A1):=by
 intro args S B hB ho _
 unfold oP at hB
 split at hB
 ·split at hB
  ·rename_i hk
   cases hB
   exact ⟨he,ay.args (.cons (Rd.arg hk) .nil) h0⟩
  ·rename_i b r hk
   cases hB
   exact ⟨he,ay.args (.cons (Rd.arg hk) .nil) (ay.wf fun hw=>h1 _ _ hw.one)⟩
  ·cases hB
 ·cases hB
end Go.Pd
end
section
namespace Go.Pd
open Go.AL
def ofK (k:Int):Shape:=⟨k,[],[],[],[]⟩
theorem jl (b:Bndg) (o m:Str):∀l:List Bndg,aU (l++[b]) o m=if b.pkg=o/\b.name=m then some b.shape else aU l o m
 | []=>rfl
 | x ::r=>by
  rw [List.cons_append,aU,jl b o m r,aU]
  by_cases h:b.pkg=o/\b.name=m
  ·rw [if_pos h,if_pos h]
  ·rw [if_neg h,if_neg h]
theorem tK (l:List Bndg) (o m:Str) (d:Bndg) {k:Nat} (h:k < l.length):aU (l.take (k+1)) o m=if (l.getD k d).pkg=o/\(l.getD k d).name=m then some (l.getD k d).shape else aU (l.take k) o m:=by
 have e:l.take (k+1)=l.take k++[l.getD k d]:=by rw [List.take_succ];simp [List.getD_eq_getElem?_getD,h]
 rw [e,jl]
def n9 (o m:Str):Shape:=⟨10,o,m,[],[]⟩
def gy (m:Str) (s:Shape):Bndg:=⟨[],m,s⟩
def ct:Flt:=⟨0,0⟩
def az (T:Trm→Envt→Shape × Flt) (p:Trm) (want:Shape) (env:Envt):Flt:=
 if (T p env).2.err=0/\kT (T p env).1 want=false then ⟨140,p.pos⟩ else (T p env).2
def dE (T:Trm→Envt→Shape × Flt) (env:Envt):List Trm→List Shape→Flt
 | p ::r,w ::q=>if (az T p w env).err=0 then dE T env r q else az T p w env
 | _,_=>ct
def cv (T:Trm→Envt→Shape × Flt) (env:Envt) (w:Shape):List Trm→Flt
 | p ::r=>if (az T p w env).err=0 then cv T env w r else az T p w env
 | []=>ct
def ae (l:List Bndg) (at_:Int):List Shape→List Shape × Flt
 | []=>([],ct)
 | s ::r=>if (au s l).2=0 then (if (ae l at_ r).2.err=0 then ((au s l).1 ::(ae l at_ r).1,ct) else ([],(ae l at_ r).2)) else ([],⟨(au s l).2,at_⟩)
def ck (T:Trm→Envt→Shape × Flt) (env:Envt):List Trm→List Shape × (Shape × Flt)
 | []=>([],(ao,ct))
 | p ::r=>if (T p env).2.err=0 then ((T p env).1 ::(ck T env r).1,(ck T env r).2) else ([],T p env)
def bH (T:Trm→Envt→Shape × Flt) (t:Trm) (env:Envt):Shape × Flt:=
 let r:=T (t.parts.getD 0 aB) env
 if r.2.err=0 then
  if r.1.kind=4 then
   (if (cv T env (ofK 4) (t.parts.drop 1)).err=0 then (r.1,ct) else (r.1,cv T env (ofK 4) (t.parts.drop 1)))
  else if r.1.kind=8/\r.1.parts.length=t.parts.length then
   (if (dE T env (t.parts.drop 1) r.1.parts).err=0 then (r.1.parts.getD (r.1.parts.length - 1) ao,ct) else (r.1,dE T env (t.parts.drop 1) r.1.parts))
  else (r.1,⟨140,t.pos⟩)
 else r
def bR (T:Trm→Envt→Shape × Flt) (t:Trm) (env:Envt):Shape × Flt:=
 let r:=T (t.parts.getD 0 aB) env
 if r.2.err=0 then
  if r.1.kind=4 then r
  else if r.1.kind=6/\(aZ r.1 t.name).isSome=true then ((aZ r.1 t.name).getD ao,ct)
  else (r.1,⟨140,t.pos⟩)
 else r
def cQ (l:List Bndg) (m:Str):Option Shape:=match l with
 | []=>none
 | b ::r=>match cQ r m with
  | some s=>some s
  | none=>if b.name=m then some b.shape else none
def cE (T:Trm→Envt→Shape × Flt) (t:Trm) (env:Envt):Shape × Flt:=
 match cQ env.own t.name with
 | none=>(ao,⟨110,t.pos⟩)
 | some s=>if t.kind=17 then (aM s,az T (t.parts.getD 0 aB) (n9 env.self t.name) env) else (n9 env.self t.name,az T (t.parts.getD 0 aB) (aM s) env)
def eC (T:Trm→Envt→Shape × Flt) (env:Envt) (w:Shape):List Trm→List Str→List Shape→Flt
 | p ::r,v ::vs,s ::ss=>if (az T p w (bA env [gy v s])).err=0 then eC T env w r vs ss else az T p w (bA env [gy v s])
 | _,_,_=>ct
def dQ:List Str→List Shape→List Bndg
 | m ::r,s ::q=>gy m s ::dQ r q
 | _,_=>[]
def aD (T:Trm→Envt→Shape × Flt) (t:Trm) (env:Envt):Shape × Flt:=
 let l:=ae env.types t.pos t.shapes
 if l.2.err=0 then
  if t.kind=6 then
   let r:=T (t.parts.getD 0 aB) (bA env (dQ t.names l.1))
   (⟨8,[],[],[],l.1++[r.1]⟩,r.2)
  else if t.kind=11 then
   (if (cv T env (l.1.getD 0 ao) t.parts).err=0 then (⟨5,[],[],[],l.1⟩,ct) else (l.1.getD 0 ao,cv T env (l.1.getD 0 ao) t.parts))
  else if t.kind=15 then (l.1.getD 0 ao,az T (t.parts.getD 0 aB) (l.1.getD 0 ao) env)
  else if t.kind=12 then
   (l.1.getD 0 ao,
    if (az T (t.parts.getD 0 aB) (ofK 2) env).err=0 then
     (if (az T (t.parts.getD 1 aB) (l.1.getD 0 ao) env).err=0 then az T (t.parts.getD 2 aB) (l.1.getD 0 ao) env else az T (t.parts.getD 1 aB) (l.1.getD 0 ao) env)
    else az T (t.parts.getD 0 aB) (ofK 2) env)
  else
   (l.1.getD (l.1.length - 1) ao,
    if (az T (t.parts.getD 0 aB) ⟨7,[],[],t.names,l.1.take (l.1.length - 1)⟩ env).err=0 then eC T env (l.1.getD (l.1.length - 1) ao) (t.parts.drop 1) t.vars l.1
    else az T (t.parts.getD 0 aB) ⟨7,[],[],t.names,l.1.take (l.1.length - 1)⟩ env)
 else (ao,l.2)
def an (T:Trm→Envt→Shape × Flt) (t:Trm) (env:Envt):Shape × Flt:=
 if t.kind=1 then (ofK 1,ct)
 else if t.kind=2 then (ofK 3,ct)
 else if t.kind=3∨t.kind=4 then (ofK 2,ct)
 else if t.kind=5 then
  match aU env.values t.pkg t.name with
  | some s=>(aM s,ct)
  | none=>(ao,⟨110,t.pos⟩)
 else if t.kind=7 then bH T t env
 else if t.kind=8 then
  (if (ck T env t.parts).2.2.err=0 then (⟨6,[],[],t.names,(ck T env t.parts).1⟩,ct) else (ck T env t.parts).2)
 else if t.kind=9 then bR T t env
 else if t.kind=10 then (⟨7,[],[],[t.name],[(T (t.parts.getD 0 aB) env).1]⟩,(T (t.parts.getD 0 aB) env).2)
 else if t.kind=14 then
  (if (T (t.parts.getD 0 aB) env).2.err=0 then T (t.parts.getD 1 aB) (bA env [gy t.name (T (t.parts.getD 0 aB) env).1]) else T (t.parts.getD 0 aB) env)
 else if t.kind=16∨t.kind=17 then cE T t env
 else aD T t env
def bS (t:Trm) (r:Shape × Flt):Shape × Flt:=
 if r.2.err=0 then (if ax r.1=0 then (aM r.1,ct) else (ao,⟨ax r.1,t.pos⟩)) else (ao,r.2)
def aa:Nat→Trm→Envt→Shape × Flt
 | 0,_,_=>(ao,ct)
 | n+1,t,env=>bS t (an (aa n) t env)
def bV (t:Trm) (env:Envt):Shape × Flt:=if bF t=0 then aa (szT t) t env else (ao,⟨bF t,0⟩)
theorem yR {n:Nat} {t:Trm} {e:Envt} (h:(aa n t e).2.err=0):(aa n t e).1.names=[]∨(aa n t e).1.names.length=(aa n t e).1.parts.length:=by
 cases n with
 | zero=>exact .inl rfl
 | succ n=>
  rw [show aa (n+1) t e=bS t (an (aa n) t e) from rfl] at h ⊢
  revert h
  generalize an (aa n) t e=r
  intro h
  unfold bS at h ⊢
  by_cases h1:r.2.err=0
  ·rw [if_pos h1] at h ⊢
   by_cases h2:ax r.1=0
   ·rw [if_pos h2];exact B2 h2
   ·rw [if_neg h2] at h;exact absurd h h2
  ·rw [if_neg h1] at h;exact absurd h h1
theorem oQ {t:Trm} {n j:Nat} (d:Trm) (hz:szT t<=n+1) (hf:allT ai t=true) (hj:j < t.parts.length) :
  szT (t.parts.getD j d)<=n/\allT ai (t.parts.getD j d)=true/\szT (t.parts.getD j d)+1<=szT t:=by
 have m:=AL.getD_mem t.parts j d hj
 have h1:=szT_mem m
 have h2:=szT_eq t
 rw [allT_eq,Bool.and_eq_true,allTL_all,List.all_eq_true] at hf
 exact ⟨by omega,hf.2 _ m,by omega⟩
theorem gz (l:List Bndg) (a:Int) (s:Shape) (r:List Shape):ae l a (s ::r)=if (au s l).2=0 then (if (ae l a r).2.err=0 then ((au s l).1 ::(ae l a r).1,ct) else ([],(ae l a r).2)) else ([],⟨(au s l).2,a⟩):=rfl
theorem qk {l:List Bndg} {a:Int}:∀{s:List Shape},(ae l a s).2.err=0→ae l a s=((ae l a s).1,ct)
 | [],_=>rfl
 | s ::r,h=>by
  rw [gz] at h ⊢
  by_cases h1:(au s l).2=0
  ·rw [if_pos h1] at h ⊢
   by_cases h2:(ae l a r).2.err=0
   ·rw [if_pos h2]
   ·rw [if_neg h2] at h;exact absurd h h2
  ·rw [if_neg h1] at h;exact absurd h h1
theorem vS {l:List Bndg} {a:Int}:∀{s:List Shape},¬(ae l a s).2.err=0→ae l a s=([],(ae l a s).2)
 | [],h=>absurd rfl h
 | s ::r,h=>by
  rw [gz] at h ⊢
  by_cases h1:(au s l).2=0
  ·rw [if_pos h1] at h ⊢
   by_cases h2:(ae l a r).2.err=0
   ·rw [if_pos h2] at h;exact absurd rfl h
   ·rw [if_neg h2]
  ·rw [if_neg h1]
theorem oR (b:Bndg) (m:Str):∀l:List Bndg,cQ (l++[b]) m=if b.name=m then some b.shape else cQ l m
 | []=>rfl
 | x ::r=>by
  rw [List.cons_append,cQ,oR b m r,cQ]
  by_cases h:b.name=m
  ·rw [if_pos h,if_pos h]
  ·rw [if_neg h,if_neg h]
theorem vT (l:List Bndg) (m:Str) (d:Bndg) {k:Nat} (h:k < l.length):cQ (l.take (k+1)) m=if (l.getD k d).name=m then some (l.getD k d).shape else cQ (l.take k) m:=by
 have e:l.take (k+1)=l.take k++[l.getD k d]:=by rw [List.take_succ];simp [List.getD_eq_getElem?_getD,h]
 rw [e,oR]
theorem jD {T:Trm→Envt→Shape × Flt} {t:Trm} {env:Envt} (h:cQ env.own t.name=none):cE T t env=(ao,⟨110,t.pos⟩):=by unfold cE;rw [h]
theorem jE {T:Trm→Envt→Shape × Flt} {t:Trm} {env:Envt} {s:Shape} (h:cQ env.own t.name=some s):cE T t env=if t.kind=17 then (aM s,az T (t.parts.getD 0 aB) (n9 env.self t.name) env) else (n9 env.self t.name,az T (t.parts.getD 0 aB) (aM s) env):=by unfold cE;rw [h]
theorem ql (e:Envt):bA e []=e:=by
 cases e
 unfold bA
 rw [List.append_nil]
theorem tL (e:Envt) (l r:List Bndg):bA (bA e l) r=bA e (l++r):=by
 unfold bA
 rw [List.append_assoc]
theorem oS {l:List Bndg} {a:Int}:∀{ss:List Shape},(ae l a ss).2.err=0→(ae l a ss).1.length=ss.length
 | [],_=>rfl
 | s ::r,h=>by
  rw [gz] at h ⊢
  by_cases h1:(au s l).2=0
  ·rw [if_pos h1] at h ⊢
   by_cases h2:(ae l a r).2.err=0
   ·rw [if_pos h2,List.length_cons,List.length_cons,oS h2]
   ·rw [if_neg h2] at h;exact absurd h h2
  ·rw [if_neg h1] at h;exact absurd h h1
theorem yS {n:Nat} {t:Trm} {e:Envt} (h:(aa n t e).2.err=0):(aa n t e).2=ct:=by
 cases n with
 | zero=>rfl
 | succ n=>
  rw [show aa (n+1) t e=bS t (an (aa n) t e) from rfl] at h ⊢
  revert h
  generalize an (aa n) t e=r
  intro h
  unfold bS at h ⊢
  by_cases h1:r.2.err=0
  ·rw [if_pos h1] at h ⊢
   by_cases h2:ax r.1=0
   ·rw [if_pos h2]
   ·rw [if_neg h2] at h;exact absurd h h2
  ·rw [if_neg h1] at h;exact absurd h h1
theorem yT {n:Nat} {t:Trm} {w:Shape} {e:Envt} (h:(az (aa n) t w e).err=0):az (aa n) t w e=ct:=by
 unfold az at h ⊢
 by_cases c:(aa n t e).2.err=0/\kT (aa n t e).1 w=false
 ·rw [if_pos c] at h;exact absurd (show (140:Int)=0 from h) (by decide)
 ·rw [if_neg c] at h ⊢;exact yS h
theorem qm {c:Prop} [Decidable c] {a b:Bool} {P:Prop} (h:(if c then a else b)=true) (f:c→a=true→P) (g:¬c→b=true→P):P:=by
 by_cases k:c
 ·rw [if_pos k] at h;exact f k h
 ·rw [if_neg k] at h;exact g k h
structure RoomR (t:Trm):Prop where
 k6:t.kind=6→t.names.length<=4096/\t.shapes.length=t.names.length/\t.parts.length=1
 k7:t.kind=7→0 < t.parts.length
 k1:t.kind=9∨t.kind=10∨t.kind=16∨t.kind=17→t.parts.length=1
 k11:t.kind=11→t.shapes.length=1
 k12:t.kind=12→t.shapes.length=1/\t.parts.length=3
 k13:t.kind=13→t.vars.length=t.names.length/\t.shapes.length=t.names.length+1/\t.parts.length=t.names.length+1
 k14:t.kind=14→t.parts.length=2
 k15:t.kind=15→t.shapes.length=1/\t.parts.length=1
 all:1<=t.kind/\t.kind<=17
theorem xz {t:Trm} (h:allT ai t=true):RoomR t:=by
 rw [allT_eq,Bool.and_eq_true] at h
 have h:=h.1
 unfold ai at h
 rw [Bool.and_eq_true] at h
 have hb:=h.2
 unfold oJ fh at hb
 repeat' (refine qm hb (fun hk hb=>?_) (fun hk hb=>?_))
 all_goals simp only [Bool.and_eq_true,decide_eq_true_eq,Bool.false_eq_true] at hb
 all_goals (refine ⟨?_,?_,?_,?_,?_,?_,?_,?_,?_⟩ <;> intros <;> (repeat' apply And.intro) <;> omega)
theorem tM (t:Trm):t.parts.length+1<=szT t:=by
 have h1:∀l:List Trm,l.length<=szTL l:=by
  intro l
  induction l with
  | nil=>exact Nat.zero_le _
  | cons a r ih=>rw [szTL];have:=szT_pos a;simp;omega
 have:=h1 t.parts
 have:=szT_eq t
 omega
theorem rM {t:Trm} {n v:Nat} (hz:szT t<=n+1) (hf:allT ai t=true) (hv:v+4096 *szT t<=100000000) {j w:Nat} (d:Trm) (hj:j < t.parts.length) (hw:w<=v+4096) :
  szT (t.parts.getD j d)<=n/\allT ai (t.parts.getD j d)=true/\w+4096 *szT (t.parts.getD j d)<=100000000:=by
 have h:=oQ d hz hf hj
 exact ⟨h.1,h.2.1,by omega⟩
theorem ndF {p:Prop} [Decidable p] (h:(!decide p)=true):¬p:=by simpa using h
theorem ndT {p:Prop} [Decidable p] (h:¬(!decide p)=true):p:=by simpa using h
end Go.Pd
end
section
namespace Go.Pd
open Go.AL
def xA (k:Int) (j:Nat):Prop:=(j=0/\¬(k=1∨k=2∨k=3∨k=4∨k=5∨k=8∨k=11))∨(j=1/\(k=14∨k=12))∨(j=2/\k=12)
theorem yU {t:Trm} (h:oJ t=true) {j:Nat} (hu:xA t.kind j):j < t.parts.length:=by
 unfold xA at hu
 unfold oJ fh at h
 repeat' (refine qm h (fun hk h=>?_) (fun hk h=>?_))
 all_goals simp only [Bool.and_eq_true,decide_eq_true_eq,Bool.false_eq_true] at h
 all_goals omega
section Agree
variable {T U:Trm→Envt→Shape × Flt} {R:Envt→Envt→Prop} {Q:Trm→Prop}
variable (hT:∀p,Q p→∀e f,R e f→T p e=U p f) (hW:∀e f l,R e f→R (bA e l) (bA f l))
include hT
theorem cM {p:Trm} (hp:Q p) {e f:Envt} (hr:R e f) (w:Shape):az T p w e=az U p w f:=by unfold az;rw [hT p hp e f hr]
theorem mB {e f:Envt} (hr:R e f):∀(ps:List Trm) (ws:List Shape),(∀p∈ps,Q p)→dE T e ps ws=dE U f ps ws
 | [],_,_=>by simp only [dE]
 | _ ::_,[],_=>by simp only [dE]
 | p ::r,w ::q,h=>by
  simp only [dE]
  rw [cM hT (h p (.head _)) hr w,mB hr r q (fun x hx=>h x (.tail _ hx))]
theorem jm {e f:Envt} (hr:R e f) (w:Shape):∀(ps:List Trm),(∀p∈ps,Q p)→cv T e w ps=cv U f w ps
 | [],_=>rfl
 | p ::r,h=>by
  simp only [cv]
  rw [cM hT (h p (.head _)) hr w,jm hr w r (fun x hx=>h x (.tail _ hx))]
theorem kY {e f:Envt} (hr:R e f):∀(ps:List Trm),(∀p∈ps,Q p)→ck T e ps=ck U f ps
 | [],_=>rfl
 | p ::r,h=>by
  simp only [ck]
  rw [hT p (h p (.head _)) e f hr,kY hr r (fun x hx=>h x (.tail _ hx))]
include hW
theorem mC {e f:Envt} (hr:R e f) (w:Shape):∀(ps:List Trm) (vs:List Str) (ss:List Shape),(∀p∈ps,Q p)→eC T e w ps vs ss=eC U f w ps vs ss
 | [],_,_,_=>by simp only [eC]
 | _ ::_,[],_,_=>by simp only [eC]
 | _ ::_,_ ::_,[],_=>by simp only [eC]
 | p ::r,v ::vs,s ::ss,h=>by
  simp only [eC]
  rw [cM hT (h p (.head _)) (hW e f [gy v s] hr) w,mC hr w r vs ss (fun x hx=>h x (.tail _ hx))]
theorem rN {t:Trm} {e f:Envt} (hq:∀j,xA t.kind j→Q (t.parts.getD j aB)) (hp:∀p∈t.parts,Q p) (hr:R e f) (e1:e.types=f.types) (hk:¬(t.kind=1∨t.kind=2∨t.kind=3∨t.kind=4∨t.kind=5∨t.kind=8)):aD T t e=aD U t f:=by
 have hd:∀p∈t.parts.drop 1,Q p:=fun p h=>hp p (List.mem_of_mem_drop h)
 unfold aD
 rw [e1]
 refine ite_congr rfl (fun _=>?_) fun _=>rfl
 refine ite_congr rfl (fun g=>?_) fun g6=>?_
 ·rw [hT _ (hq 0 (.inl ⟨rfl,by omega⟩)) _ _ (hW e f _ hr)]
 refine ite_congr rfl (fun g=>?_) fun g11=>?_
 ·rw [jm hT hr _ _ hp]
 have h0:=hq 0 (.inl ⟨rfl,by omega⟩)
 refine ite_congr rfl (fun g=>?_) fun g15=>?_
 ·rw [cM hT h0 hr]
 refine ite_congr rfl (fun g=>?_) fun g12=>?_
 ·rw [cM hT h0 hr,cM hT (hq 1 (.inr (.inl ⟨rfl,.inr g⟩))) hr,cM hT (hq 2 (.inr (.inr ⟨rfl,g⟩))) hr]
 ·rw [cM hT h0 hr,mC hT hW hr _ _ _ _ hd]
theorem rO {t:Trm} {e f:Envt} (hq:∀j,xA t.kind j→Q (t.parts.getD j aB)) (hp:∀p∈t.parts,Q p) (hr:R e f) (e1:e.types=f.types) (e2:e.own=f.own) (e3:e.self=f.self)
  (h5:t.kind=5→aU e.values t.pkg t.name=aU f.values t.pkg t.name):an T t e=an U t f:=by
 have hd:∀p∈t.parts.drop 1,Q p:=fun p h=>hp p (List.mem_of_mem_drop h)
 unfold an
 refine ite_congr rfl (fun _=>rfl) fun n1=>ite_congr rfl (fun _=>rfl) fun n2=>ite_congr rfl (fun _=>rfl) fun n3=>ite_congr rfl (fun g=>by rw [h5 g]) fun n5=>ite_congr rfl (fun g=>?_) fun n7=>
  ite_congr rfl (fun g=>?_) fun n8=>?_
 ·have h0:=hq 0 (.inl ⟨rfl,by omega⟩)
  unfold bH
  simp only [hT _ h0 e f hr,jm hT hr _ _ hd,mB hT hr _ _ hd]
 ·rw [kY hT hr _ hp]
 refine ite_congr rfl (fun g=>?_) fun _=>ite_congr rfl (fun g=>?_) fun _=>ite_congr rfl (fun g=>?_) fun _=>ite_congr rfl (fun g=>?_) fun _=>?_
 ·have h0:=hq 0 (.inl ⟨rfl,by omega⟩)
  unfold bR
  simp only [hT _ h0 e f hr]
 ·rw [hT _ (hq 0 (.inl ⟨rfl,by omega⟩)) e f hr]
 ·rw [hT _ (hq 0 (.inl ⟨rfl,by omega⟩)) e f hr,hT _ (hq 1 (.inr (.inl ⟨rfl,.inl g⟩))) _ _ (hW e f _ hr)]
 ·have k0:=fun w=>cM hT (hq 0 (.inl ⟨rfl,by omega⟩)) hr w
  cases g:cQ e.own t.name with
  | none=>rw [jD g,jD (by rw [←e2];exact g)]
  | some s=>rw [jE g,jE (by rw [←e2];exact g),k0,k0,e3]
 ·exact rN hT hW hq hp hr e1 (by omega)
end Agree
structure Alike (b:Bndg) (e f:Envt):Prop where
 types:e.types=f.types
 own:e.own=f.own
 self:e.self=f.self
 vals:∀o m,¬(o=b.pkg/\m=b.name)→aU e.values o m=aU f.values o m
theorem oT:∀(n m:Nat) (t:Trm) (e:Envt),szT t<=n→szT t<=m→allT ai t=true→aa n t e=aa m t e
 | 0,_,t,_,h,_,_=>by have:=szT_pos t;omega
 | _+1,0,t,_,_,h,_=>by have:=szT_pos t;omega
 | n+1,m+1,t,e,h,g,hf=>by
  show bS t (an (aa n) t e)=bS t (an (aa m) t e)
  rw [allT_eq,Bool.and_eq_true,allTL_all,List.all_eq_true] at hf
  have hp:∀p∈t.parts,szT p<=n/\szT p<=m/\allT ai p=true:=fun p hp=>by
   have h1:=szT_mem hp
   have h2:=szT_eq t
   exact ⟨by omega,by omega,hf.2 p hp⟩
  have hb:oJ t=true:=by have:=hf.1;unfold ai at this;exact (Bool.and_eq_true _ _ ▸ this).2
  rw [rO (T:=aa n) (U:=aa m) (Q:=fun p=>szT p<=n/\szT p<=m/\allT ai p=true) (R:=fun e f=>e=f) (fun p hp e f h=>by rw [h];exact oT n m p f hp.1 hp.2.1 hp.2.2) (fun e f l h=>by rw [h])
   (fun j hu=>hp _ (AL.getD_mem t.parts j aB (yU hb hu))) hp rfl rfl rfl rfl (fun _=>rfl)]
end Go.Pd
end
section
namespace Go.Pd
open Go.AL
abbrev SR3:=Shape × Int × Flt
abbrev TR3:=Trm × Int × Flt
end Go.Pd
end
section
namespace Go.Pd
open Go.AL
abbrev st (l:List Tokn) (a:Int):PS:=⟨l,a,0,0⟩
variable {l:List Tokn}
section
variable {l:List Tokn} {R:PS→Shape × PS} {R':Int→SR3}
end
end Go.Pd
end
section
namespace Go.Pd
open Go.AL
mutual
def dj:Trm→Int→Int
 | ⟨_,_,_,_,_,_,_,ps,_⟩,m=>sizeTL ps 1 m
def sizeTL:List Trm→Int→Int→Int
 | [],n,_=>n
 | p ::r,n,m=>if n<=m then sizeTL r (n+dj p (m - n)) m else n
end
mutual
def deepT:Trm→Nat
 | ⟨_,_,_,_,_,_,_,ps,_⟩=>maxDT ps+1
def maxDT:List Trm→Nat
 | []=>0
 | p ::r=>max (deepT p) (maxDT r)
end
mutual
theorem sizeT_bd:∀(s:Trm) (m:Int),0<=m→1<=dj s m/\dj s m<=m+1
 | ⟨_,_,_,_,_,_,_,ps,_⟩,m,h=>by
  simp only [dj]
  exact sizeTL_bd ps 1 m (by omega) (by omega)
theorem sizeTL_bd:∀(l:List Trm) (n m:Int),1<=n→n<=m+1→1<=sizeTL l n m/\sizeTL l n m<=m+1
 | [],n,m,h1,h2=>by simp only [sizeTL];omega
 | p ::r,n,m,h1,h2=>by
  simp only [sizeTL]
  split
  ·have:=sizeT_bd p (m - n) (by omega)
   exact sizeTL_bd r _ m (by omega) (by omega)
  ·omega
end
mutual
theorem countT_size:∀(s:Trm) (m:Int),0<=m→(countT s m).1=min (szT s:Int) (m+1)
 | ⟨_,_,_,_,_,_,_,ps,_⟩,m,h=>by
  simp only [countT,szT]
  rw [countL_size ps m 1 0 (by omega)]
  omega
theorem countL_size:∀(l:List Trm) (m n d:Int),n<=m+1→(countL l m n d).1=min (n+szTL l) (m+1)
 | [],m,n,d,h=>by simp only [countL,szTL];omega
 | p ::r,m,n,d,h=>by
  simp only [countL,szTL]
  have:=szT_pos p
  split
  ·show n=_;omega
  ·rw [countL_size r m _ _ (by rw [countT_size p (m - n) (by omega)];omega),countT_size p (m - n) (by omega)]
   omega
end
mutual
theorem countT_deep:∀(s:Trm) (m:Int),(szT s:Int)<=m→(countT s m).2=deepT s
 | ⟨_,_,_,_,_,_,_,ps,_⟩,m,h=>by
  simp only [szT] at h
  simp only [countT,deepT]
  rw [countL_deep ps m 1 0 (by omega) (by omega)]
  omega
theorem countL_deep:∀(l:List Trm) (m n d:Int),n+szTL l<=m→0<=d→(countL l m n d).2=max d (maxDT l)
 | [],m,n,d,h,h0=>by simp only [countL,maxDT];omega
 | p ::r,m,n,d,h,h0=>by
  simp only [szTL] at h
  simp only [countL,maxDT]
  rw [if_neg (by omega)]
  have e1:(countT p (m - n)).1=szT p:=by rw [countT_size p (m - n) (by omega)];omega
  rw [countL_deep r m _ _ (by rw [e1];omega) (by omega),countT_deep p (m - n) (by omega)]
  omega
end
end Go.Pd
end
section
namespace Go.Pd
open Go.AL
mutual
def bareT:Trm→Trm
 | ⟨k,g,n,z,ns,vs,ss,ps,_⟩=>⟨k,g,n,z,ns,vs,ss,bareTL ps,0⟩
def bareTL:List Trm→List Trm
 | []=>[]
 | p ::r=>bareT p ::bareTL r
end
theorem iF {t:Trm} (ht:bF t=0):allT ai t=true:=by
 unfold bF at ht
 by_cases a:4096 < (countT t 4096).1
 ·rw [if_pos a] at ht;exact absurd ht (by decide)
 rw [if_neg a] at ht
 by_cases b:40 < (countT t 4096).2
 ·rw [if_pos b] at ht;exact absurd ht (by decide)
 rw [if_neg b] at ht
 by_cases c:allT ai t=true
 ·exact c
 ·rw [if_neg c] at ht;exact absurd ht (by decide)
theorem oU {t:Trm} (h:bF t=0):szT t<=4096/\deepT t<=40:=by
 unfold bF at h
 by_cases a:4096 < (countT t 4096).1
 ·rw [if_pos a] at h;exact absurd h (by decide)
 rw [if_neg a] at h
 rw [countT_size t 4096 (by omega)] at a
 by_cases b:40 < (countT t 4096).2
 ·rw [if_pos b] at h;exact absurd h (by decide)
 rw [countT_deep t 4096 (by omega)] at b
 omega
theorem qn {p:Trm}:∀{l:List Trm},p∈l→deepT p<=maxDT l
 | a ::r,h=>by
  rw [maxDT]
  rcases List.mem_cons.1 h with rfl | h
  ·omega
  ·have:=qn h;omega
theorem kn {t p:Trm} (h:bF t=0) (hp:p∈t.parts):bF p=0:=by
 have hs:=oU h
 have hf:=iF h
 rw [allT_eq,Bool.and_eq_true,allTL_all,List.all_eq_true] at hf
 have h1:=szT_mem hp
 have h2:=szT_eq t
 have h3:=qn hp
 have h4:deepT t=maxDT t.parts+1:=by cases t;rw [deepT]
 unfold bF
 rw [countT_size p 4096 (by omega),countT_deep p 4096 (by omega),if_neg (by omega),if_neg (by omega),if_pos (hf.2 p hp)]
def zapF (f:Flt):Flt:=⟨f.err,0⟩
def zapR (r:Shape × Flt):Shape × Flt:=(r.1,zapF r.2)
section Bare
variable {T:Trm→Envt→Shape × Flt} (hT:∀p e,T (bareT p) e=zapR (T p e))
include hT
end Bare
section Bare2
variable {T:Trm→Envt→Shape × Flt} (hT:∀p e,T (bareT p) e=zapR (T p e))
include hT
end Bare2
end Go.Pd
end
section
namespace Go.Pd
open Go.AL
theorem pL (names:List Str) (xs:List Int):(eX names xs).Pairwise fun i j=>bK names i<=bK names j:=by
 have:=List.pairwise_mergeSort (le:=fun i j=>decide (bK names i<=bK names j)) (by
  intro a b c h1 h2
  simp only [decide_eq_true_eq] at h1 h2 ⊢
  exact List.le_trans h1 h2) (by
  intro a b
  simp only [Bool.or_eq_true,decide_eq_true_eq]
  exact List.le_total _ _) xs
 exact this.imp fun h=>by simpa using h
theorem vU {s:Shape} (h:aq s=true):s.names=[]∨s.names.length=s.parts.length/\s.names.Nodup:=by
 have:=kO h
 unfold cU at this
 simpa using this
end Go.Pd
end
section
namespace Go.Pd
open Go.AL
theorem vV {l m:List Shape} (h:l.Perm m):∀a d:Int,deepL l a d=deepL m a d:=by
 induction h with
 | nil=>exact fun _ _=>rfl
 | cons x _ ih=>exact fun a d=>by simp only [deepL];exact ih _ _
 | swap x y l=>exact fun a d=>by simp only [deepL];congr 1;omega
 | trans _ _ h1 h2=>exact fun a d=>(h1 a d).trans (h2 a d)
mutual
theorem deep_sorted:∀(s:Shape) (a:Int),deepS (sortedS s) a=deepS s a
 | ⟨k,p,n,ns,ps⟩,a=>by
  simp only [sortedS,deepS]
  rw [vV (iA k p n ns ps dt),deepL_sorted ps]
theorem deepL_sorted:∀(l:List Shape) (a d:Int),deepL (sortedL l) a d=deepL l a d
 | [],_,_=>rfl
 | x ::r,a,d=>by simp only [sortedL,deepL,deep_sorted x,deepL_sorted r]
end
theorem jn:∀l:List Shape,sortedL l=l.map sortedS
 | []=>rfl
 | a ::r=>by rw [sortedL,jn r,List.map_cons]
theorem rP {s:Shape} (h:s.names.length=s.parts.length):(sortedS s).names.Perm s.names:=by
 obtain ⟨k,p,n,ns,ps⟩:=s
 simp only [sortedS]
 split
 ·rename_i e;rw [e]
 ·have h:ns.length=ps.length:=h
  have:=(gu ⟨k,p,n,ns,ps⟩).map (bK ns)
  have e:=ez ns ([]:Str)
  rw [h] at e
  rw [show (bD (⟨k,p,n,ns,ps⟩:Shape).parts.length).map (bK ns)=ns from e] at this
  exact this
theorem iG (s:Shape):(sortedS s).parts.Perm (s.parts.map sortedS):=by
 obtain ⟨k,p,n,ns,ps⟩:=s
 simp only [sortedS]
 rw [←jn]
 exact iA k p n ns ps dt
theorem ko (s:Shape):(sortedS s).parts.length=s.parts.length:=by rw [(iG s).length_eq,List.length_map]
theorem gf {s:Shape} (h:s.names=[]):(sortedS s).names=[]:=by
 obtain ⟨k,p,n,ns,ps⟩:=s
 simp only [sortedS]
 exact if_pos h
theorem tN (s:Shape):(sortedS s).kind=s.kind/\(sortedS s).pkg=s.pkg/\(sortedS s).name=s.name:=by cases s;exact ⟨rfl,rfl,rfl⟩
theorem B3 {α:Type} {f:α→Bool} {l m:List α} (h:l.Perm m):l.all f=m.all f:=by
 induction h with
 | nil=>rfl
 | cons x _ ih=>rw [List.all_cons,List.all_cons,ih]
 | swap x y l=>rw [List.all_cons,List.all_cons,List.all_cons,List.all_cons,←Bool.and_assoc,←Bool.and_assoc,Bool.and_comm (f y)]
 | trans _ _ h1 h2=>exact h1.trans h2
theorem rQ {s:Shape} (h:cr s=true):cr (sortedS s)=true:=by
 unfold cr at h ⊢
 simp only [Bool.and_eq_true,decide_eq_true_eq] at h ⊢
 have hp:=rP h.1.1
 refine ⟨⟨?_,?_⟩,?_⟩
 ·rw [hp.length_eq,ko,h.1.1]
 ·rw [B3 hp];exact h.1.2
 ·exact hp.nodup_iff.2 h.2
theorem yV {s:Shape}:decide ((sortedS s).parts=[])=decide (s.parts=[]):=by
 have:=ko s
 refine decide_eq_decide.2 ?_
 rw [←List.length_eq_zero_iff,←List.length_eq_zero_iff,this]
theorem mD {s:Shape} (h:aq s=true):aq (sortedS s)=true:=by
 obtain ⟨e1,e2,e3⟩:=tN s
 have e4:=ko s
 have e5:=@yV s
 unfold aq at h ⊢
 simp only [e1,e2,e3,e4,e5] at h ⊢
 have sp:∀{c:Prop} [Decidable c] {a b x y:Bool},(if c then a else b)=true→(a=true→x=true)→(b=true→y=true)→(if c then x else y)=true:=fun {c} _ {a b x y} h h1 h2=>by
  by_cases k:c
  ·rw [if_pos k] at h ⊢;exact h1 h
  ·rw [if_neg k] at h ⊢;exact h2 h
 refine sp h (fun h=>?_) fun h=>sp h (fun h=>?_) fun h=>sp h (fun h=>?_) fun h=>sp h (fun h=>?_) fun h=>sp h (fun h=>?_) fun h=>sp h (fun h=>?_) fun h=>h
 ·simp only [Bool.and_eq_true,decide_eq_true_eq] at h ⊢
  exact ⟨⟨h.1.1,gf h.1.2⟩,h.2⟩
 ·simp only [Bool.and_eq_true,decide_eq_true_eq] at h ⊢
  exact ⟨⟨h.1.1,gf h.1.2⟩,h.2⟩
 ·rw [Bool.and_eq_true] at h ⊢
  exact ⟨h.1,rQ h.2⟩
 ·simp only [Bool.and_eq_true,decide_eq_true_eq] at h ⊢
  exact ⟨⟨h.1.1,gf h.1.2⟩,h.2⟩
 ·simp only [Bool.and_eq_true,decide_eq_true_eq] at h ⊢
  exact ⟨⟨h.1.1,gf h.1.2⟩,h.2⟩
 ·simp only [Bool.and_eq_true,decide_eq_true_eq] at h ⊢
  exact ⟨⟨h.1.1,gf h.1.2⟩,h.2⟩
theorem oV {f:Shape→Bool} (hf:∀s,f s=true→f (sortedS s)=true):∀(n:Nat) (s:Shape),sz s<=n→allS f s=true→allS f (sortedS s)=true
 | 0,s,h,_=>by have:=eP s;omega
 | n+1,s,h,ha=>by
  rw [gr,Bool.and_eq_true,kP,List.all_eq_true] at ha ⊢
  refine ⟨hf s ha.1,fun x hx=>?_⟩
  obtain ⟨y,hy,rfl⟩:=List.mem_map.1 ((iG s).mem_iff.1 hx)
  have h1:=dG hy
  have h2:=gV s
  exact oV hf n y (by omega) (ha.2 y hy)
theorem mE {s:Shape} (h:ax s=0):ax (aM s)=0:=by
 have h1:=cK h
 unfold aM
 rw [if_pos h]
 unfold ax
 rw [sz_sorted,deep_sorted,if_neg (by omega),if_neg (by omega),if_pos (oV (fun s hs=>mD hs) _ s (Nat.le_refl _) h1.2.2)]
theorem vW {s:Shape} (hs:s.names.Pairwise (·<= ·)) (h:s.names=[]∨s.names.length=s.parts.length/\s.names.Nodup):ak s=bD s.parts.length:=by
 unfold ak
 split
 ·rfl
 ·rename_i hne
  rcases h with h | ⟨h1,h2⟩
  ·exact absurd h hne
  letI:=nB
  refine (ot h2 (fun x hx=>?_) (.refl _) ?_).symm
  ·rw [h1];exact kj.1 hx
  ·rw [←h1]
   unfold bD
   rw [List.pairwise_map]
   refine List.Pairwise.imp_of_mem ?_ (List.pairwise_lt_range (n:=s.names.length))
   intro i j hi hj hij
   have hi:=List.mem_range.1 hi
   have hj:=List.mem_range.1 hj
   unfold bK
   simp only [Int.toNat_natCast,List.getD_eq_getElem?_getD,List.getElem?_eq_getElem hi,List.getElem?_eq_getElem hj,Option.getD_some]
   exact List.pairwise_iff_getElem.1 hs i j hi hj hij
theorem yW (s:Shape):(sortedS s).names.Pairwise (·<= ·):=by
 obtain ⟨k,p,n,ns,ps⟩:=s
 simp only [sortedS]
 split
 ·exact List.Pairwise.nil
 ·rename_i hne
  unfold ak
  rw [if_neg hne,List.pairwise_map]
  exact pL _ _
theorem B4 {s:Shape} (hs:s.names.Pairwise (·<= ·)) (h:s.names=[]∨s.names.length=s.parts.length/\s.names.Nodup) (hp:∀p∈s.parts,sortedS p=p):sortedS s=s:=by
 have hpl:=vW hs h
 obtain ⟨k,p,n,ns,ps⟩:=s
 rw [sortedS,hpl]
 have e:sortedL ps=ps:=by
  rw [jn]
  have hp:∀p∈ps,sortedS p=p:=hp
  exact (List.map_congr_left hp).trans (List.map_id ps)
 have e1:=ez ps dt
 rw [e,show (⟨k,p,n,ns,ps⟩:Shape).parts.length=ps.length from rfl,e1]
 by_cases hn:ns=[]
 ·rw [if_pos hn,hn]
 ·rw [if_neg hn]
  rcases h with h | ⟨h,_⟩
  ·exact absurd h hn
  have h:ns.length=ps.length:=h
  have e2:=ez ns ([]:Str)
  rw [h] at e2
  rw [show (bD ps.length).map (bK ns)=ns from e2]
theorem kZ:∀(n:Nat) (s:Shape),sz s<=n→allS aq s=true→sortedS (sortedS s)=sortedS s
 | 0,s,h,_=>by have:=eP s;omega
 | n+1,s,h,ha=>by
  rw [gr,Bool.and_eq_true,kP,List.all_eq_true] at ha
  refine B4 (yW s) (vU (mD ha.1)) fun x hx=>?_
  obtain ⟨y,hy,rfl⟩:=List.mem_map.1 ((iG s).mem_iff.1 hx)
  have h1:=dG hy
  have h2:=gV s
  exact kZ n y (by omega) (ha.2 y hy)
theorem vX {s:Shape} (h:ax s=0):aM (aM s)=aM s:=by
 have hc:=mE h
 rw [aM,if_pos hc,aM,if_pos h]
 exact kZ _ s (Nat.le_refl _) (cK h).2.2
theorem oW {n:Nat} {t:Trm} {e:Envt} (hn:0 < n) (h:(aa n t e).2.err=0):ax (aa n t e).1=0/\aM (aa n t e).1=(aa n t e).1/\(aa n t e).2=ct:=by
 cases n with
 | zero=>omega
 | succ n=>
  rw [show aa (n+1) t e=bS t (an (aa n) t e) from rfl] at h ⊢
  revert h
  generalize an (aa n) t e=r
  intro h
  unfold bS at h ⊢
  by_cases h1:r.2.err=0
  ·rw [if_pos h1] at h ⊢
   by_cases h2:ax r.1=0
   ·rw [if_pos h2]
    exact ⟨mE h2,vX h2,rfl⟩
   ·rw [if_neg h2] at h;exact absurd h h2
  ·rw [if_neg h1] at h;exact absurd h h1
theorem qo {n:Nat} {t:Trm} {e:Envt} (h:¬(aa n t e).2.err=0):(aa n t e).1=ao:=by
 cases n with
 | zero=>rfl
 | succ n=>
  rw [show aa (n+1) t e=bS t (an (aa n) t e) from rfl] at h ⊢
  revert h
  generalize an (aa n) t e=r
  intro h
  unfold bS at h ⊢
  by_cases h1:r.2.err=0
  ·rw [if_pos h1] at h ⊢
   by_cases h2:ax r.1=0
   ·rw [if_pos h2] at h;exact absurd rfl h
   ·rw [if_neg h2]
  ·rw [if_neg h1]
end Go.Pd
end
section
namespace Go.Pd
open Go.AL
def yX (m:Str):Trm:=⟨5,[],m,0,[],[],[],[],0⟩
def mL (m:Str) (t:Trm):Trm:=⟨14,[],m,0,[],[],[],[t,yX m],0⟩
def mM (t:Trm):Trm:=⟨6,[],[],0,[],[],[],[t],0⟩
def dF (t:Trm):Trm:=⟨7,[],[],0,[],[],[],[mM t],0⟩
theorem iH {t:Trm} {r:Shape × Flt} (h:¬r.2.err=0):bS t r=(ao,r.2):=by unfold bS;rw [if_neg h]
theorem jF {t:Trm} {s:Shape} (h:ax s=0):bS t (s,ct)=(aM s,ct):=by unfold bS;rw [if_pos (show (s,ct).2.err=0 from rfl),if_pos (show ax (s,ct).1=0 from h)]
section
variable {m:Str} {t:Trm} {e:Envt}
theorem Cr (h:bF (mL m t)=0):bV (mL m t) e=bV t e:=by
 have ht:bF t=0:=kn h (.head _)
 have hf:=iF ht
 unfold bV
 rw [if_pos h,if_pos ht]
 have hz:szT (mL m t)=szT t+1+1:=by rw [szT_eq];rfl
 rw [hz]
 show bS (mL m t) (an (aa (szT t+1)) (mL m t) e)=_
 have hp:an (aa (szT t+1)) (mL m t) e=if (aa (szT t+1) t e).2.err=0 then aa (szT t+1) (yX m) (bA e [gy m (aa (szT t+1) t e).1]) else aa (szT t+1) t e:=rfl
 rw [hp,oT (szT t+1) (szT t) t e (Nat.le_succ _) (Nat.le_refl _) hf]
 have fine:=@oW (szT t) t e (szT_pos t)
 have bad:=@qo (szT t) t e
 revert fine bad
 generalize aa (szT t) t e=r
 intro fine bad
 by_cases hr:r.2.err=0
 ·obtain ⟨c,o,f⟩:=fine hr
  rw [if_pos hr]
  have hv:aa (szT t+1) (yX m) (bA e [gy m r.1])=bS (yX m) (match aU (bA e [gy m r.1]).values [] m with | some s=>(aM s,ct) | none=>(ao,⟨110,0⟩)):=rfl
  have hb:aU (bA e [gy m r.1]).values [] m=some r.1:=by
   show aU (e.values++[gy m r.1]) [] m=_
   rw [jl,if_pos ⟨rfl,rfl⟩]
   rfl
  rw [hv,hb]
  show bS _ (bS _ (aM r.1,ct))=r
  rw [o,jF c,o,jF c,o,←f]
 ·rw [if_neg hr,iH hr,←bad hr]
theorem B5 (h:bF (dF t)=0) (hg:¬((bV (dF t) e).2.err=3∨(bV (dF t) e).2.err=91)):bV (dF t) e=bV t e:=by
 have ht:bF t=0:=kn (kn h (.head _)) (.head _)
 have hf:=iF ht
 revert hg
 unfold bV
 rw [if_pos h,if_pos ht]
 have hz:szT (dF t)=szT t+1+1:=by
  rw [szT_eq]
  show szTL [mM t]+1=_
  rw [szTL,szTL,szT_eq (mM t)]
  rfl
 rw [hz]
 have hp:aa (szT t+1+1) (dF t) e=bS (dF t) (bH (aa (szT t+1)) (dF t) e):=rfl
 have hq:aa (szT t+1) (mM t) e=bS (mM t) (⟨8,[],[],[],[(aa (szT t) t (bA e [])).1]⟩,(aa (szT t) t (bA e [])).2):=rfl
 rw [hp]
 unfold bH
 rw [show (dF t).parts.getD 0 aB=mM t from rfl,show (dF t).parts.drop 1=[] from rfl,hq,ql]
 have fine:=@oW (szT t) t e (szT_pos t)
 have bad:=@qo (szT t) t e
 revert fine bad
 generalize aa (szT t) t e=r
 intro fine bad
 by_cases hr:r.2.err=0
 ·obtain ⟨c,o,f⟩:=fine hr
  have os:sortedS r.1=r.1:=by have:=o;unfold aM at this;rwa [if_pos c] at this
  have fx:sortedS ⟨8,[],[],[],[r.1]⟩=⟨8,[],[],[],[r.1]⟩:=B4 List.Pairwise.nil (.inl rfl) (fun p hp=>by rw [List.mem_singleton] at hp;rw [hp,os])
  by_cases hc:ax ⟨8,[],[],[],[r.1]⟩=0
  ·have hx:bS (mM t) (⟨8,[],[],[],[r.1]⟩,r.2)=(⟨8,[],[],[],[r.1]⟩,ct):=by rw [f,jF hc,aM,if_pos hc,fx]
   rw [hx]
   intro _
   show bS (dF t) (r.1,ct)=r
   rw [jF c,o,←f]
  ·have hx:bS (mM t) (⟨8,[],[],[],[r.1]⟩,r.2)=(ao,⟨ax ⟨8,[],[],[],[r.1]⟩,0⟩):=by
    unfold bS
    rw [if_pos hr,if_neg hc]
    rfl
   rw [hx]
   have hy:ax ⟨8,[],[],[],[r.1]⟩=3∨ax ⟨8,[],[],[],[r.1]⟩=91:=by
    have af:allS aq ⟨8,[],[],[],[r.1]⟩=true:=by
     rw [gr,Bool.and_eq_true]
     refine ⟨rfl,?_⟩
     show allL aq [r.1]=true
     rw [allL,(cK c).2.2]
     rfl
    unfold ax at hc ⊢
    rw [if_pos af] at hc ⊢
    by_cases k1:400 < sz ⟨8,[],[],[],[r.1]⟩
    ·rw [if_pos k1];exact .inl rfl
    ·rw [if_neg k1] at hc ⊢
     by_cases k2:40 < deepS ⟨8,[],[],[],[r.1]⟩ 1
     ·rw [if_pos k2];exact .inr rfl
     ·rw [if_neg k2] at hc;exact absurd rfl hc
   revert hy hc
   generalize ax ⟨8,[],[],[],[r.1]⟩=k
   intro hc hy hg
   rw [if_neg (show ¬(ao,(⟨k,0⟩:Flt)).2.err=0 from hc),iH (show ¬(ao,(⟨k,0⟩:Flt)).2.err=0 from hc)] at hg
   exact absurd hy hg
 ·intro _
  have hx:bS (mM t) (⟨8,[],[],[],[r.1]⟩,r.2)=(ao,r.2):=iH hr
  rw [hx,if_neg (show ¬(ao,r.2).2.err=0 from hr),iH (show ¬(ao,r.2).2.err=0 from hr),←bad hr]
end
end Go.Pd
end
section
namespace Go.Pd
open Go.AL
def Cs (s:Shape):Bool:=!decide (s.kind=9)
structure ClE (e:Envt):Prop where
 types:∀b∈e.types,allS Cs b.shape=true
 values:∀b∈e.values,allS Cs b.shape=true
 own:∀b∈e.own,allS Cs b.shape=true
section
variable {T:Trm→Envt→Shape × Flt} (hT:∀p e,ClE e→(T p e).2.err=0→allS Cs (T p e).1=true)
include hT
end
end Go.Pd
end
section
namespace Go.Pd
open Go.AL
theorem Ct {m:Str} {t:Trm} (h:fewT t=true):fewT (mL m t)=true/\fewT (dF t)=true/\fewT (mM t)=true:=by
 have hv:fewT (yX m)=true:=rfl
 have hfn:fewT (mM t)=true:=by
  unfold fewT at h ⊢
  rw [allT_eq,Bool.and_eq_true,allTL_all,List.all_eq_true]
  exact ⟨rfl,fun x hx=>by rw [List.mem_singleton.1 (show x∈[t] from hx)];exact h⟩
 refine ⟨?_,?_,hfn⟩
 ·unfold fewT at h hv ⊢
  rw [allT_eq,Bool.and_eq_true,allTL_all,List.all_eq_true]
  refine ⟨rfl,fun x hx=>?_⟩
  rcases List.mem_cons.1 (show x∈[t,yX m] from hx) with rfl | hx
  ·exact h
  ·rw [List.mem_singleton.1 hx];exact hv
 ·unfold fewT at hfn ⊢
  rw [allT_eq,Bool.and_eq_true,allTL_all,List.all_eq_true]
  exact ⟨rfl,fun x hx=>by rw [List.mem_singleton.1 (show x∈[mM t] from hx)];exact hfn⟩
end Go.Pd
namespace Go.Pd
open Go.AL
theorem nc (x y:Int):(decide (x=x) && (decide (y=y) && true))=true:=by simp
theorem vY {e:Envt} (h:¬(!iE e)=true):e.values.length<=60:=by
 have h:iE e=true:=by simpa using h
 unfold iE at h
 simp only [Bool.and_eq_true] at h
 exact AX h.1.2
end Go.Pd
end
section
open Go Go.AL Go.Pd
namespace Go.AL.Seat
theorem B6 (c:Int)  :
  if decide ((97:Int)<=c)=true then True/\decide (c<=(122:Int))=cD c/\True else True/\false=cD c/\True:=by
 unfold cD;simp only [jf];split <;> simp [*]
theorem B7 (c:Int)  :
  if decide ((65:Int)<=c)=true then True/\decide (c<=(90:Int))=cO c/\True else True/\false=cO c/\True:=by
 unfold cO;simp only [jf];split <;> simp [*]
theorem B8 (c:Int)  :
  if decide ((48:Int)<=c)=true then True/\decide (c<=(57:Int))=jh c/\True else True/\false=jh c/\True:=by
 unfold jh;simp only [jf];split <;> simp [*]
theorem Cu (c:Int)  :
  if cD c=true then True/\true=ep c/\True else if cO c=true then True/\true=ep c/\True else if jh c=true then True/\true=ep c/\True else True/\decide (c=(95:Int))=ep c/\True:=by
 unfold ep;cases cD c <;> cases cO c <;> cases jh c <;> simp
theorem yY (s:Str) (hs:Wf .str s) :
  if decide (s=[])=true then True/\false=bU cD s/\True else if decide ((24:Int) < (↑(List.length s):Int))=true then True/\false=bU cD s/\True else ((0:Int)<=(0:Int)/\(0:Int) < (↑(List.length s):Int))/\if (!cD (↑(UInt8.toNat (List.getD s (Int.toNat (0:Int)) (0:UInt8))):Int))=true then True/\false=bU cD s/\True else (∃(x:Nat),(x<=List.length s/\bU cD s=List.all (List.drop x s) fun (c:UInt8) ↦ep (bI c))/\(0:Int)=(↑x:Int)/\s=s/\false=false/\(↑(List.length s):Int)=(↑(List.length s):Int)/\True)/\∀(x:Nat),(x<=List.length s/\bU cD s=List.all (List.drop x s) fun (c:UInt8) ↦ep (bI c))→if decide ((↑x:Int) < (↑(List.length s):Int))=true then ((0:Int)<=(↑x:Int)/\(↑x:Int) < (↑(List.length s):Int))/\if (!ep (↑(UInt8.toNat (List.getD s (Int.toNat (↑x:Int)) (0:UInt8))):Int))=true then True/\false=bU cD s/\True else inR IntKind.i64 ((↑x:Int)+(1:Int))/\∃(y:Nat),(y<=List.length s/\bU cD s=List.all (List.drop y s) fun (c:UInt8) ↦ep (bI c))/\List.length s - y < List.length s - x/\(↑x:Int)+(1:Int)=(↑y:Int)/\s=s/\false=false/\(↑(List.length s):Int)=(↑(List.length s):Int)/\True else True/\true=bU cD s/\True:=by
 have hlen:=hs.str
 have eb:∀b:UInt8,(b.toNat:Int)=bI b:=fun _=>rfl
 simp only [jf,Int.toNat_natCast,Int.toNat_zero,true_and,and_true,eb,bU]
 generalize cD (bI (s.getD 0 0))=f0
 by_cases h0:s=[]
 ·simp [h0]
 have hpos:0 < s.length:=List.length_pos_iff.2 h0
 by_cases h1:s.length<=24
 ·rw [if_neg h0,if_neg (by omega)]
  refine ⟨by omega,?_⟩
  cases f0 with
  | false=>simp
  | true=>
   simp only [Bool.not_true,Bool.false_eq_true,if_false,h0,h1,decide_false,decide_true,Bool.not_false,Bool.true_and]
   refine ⟨⟨0,⟨by omega,rfl⟩,rfl⟩,?_⟩
   rintro k ⟨h3,h4⟩
   split
   ·have hk:k < s.length:=by omega
    rw [aH s k 0 hk,List.all_cons] at h4
    generalize ep (bI (s.getD k 0))=r at h4 ⊢
    refine ⟨by omega,?_⟩
    cases r with
    | false=>simpa using h4.symm
    | true=>
     simp only [Bool.not_true,Bool.false_eq_true,if_false]
     exact ⟨bg hk hlen,k+1,⟨by omega,by simpa using h4⟩,by omega,by omega⟩
   ·have hk:k=s.length:=by omega
    subst hk
    simpa using h4.symm
 ·rw [if_neg h0,if_pos (by omega)]
  simp [h1]
theorem yZ (s:Str) (hs:Wf .str s) :
  if decide (s=[])=true then True/\false=bU cO s/\True else if decide ((24:Int) < (↑(List.length s):Int))=true then True/\false=bU cO s/\True else ((0:Int)<=(0:Int)/\(0:Int) < (↑(List.length s):Int))/\if (!cO (↑(UInt8.toNat (List.getD s (Int.toNat (0:Int)) (0:UInt8))):Int))=true then True/\false=bU cO s/\True else (∃(x:Nat),(x<=List.length s/\bU cO s=List.all (List.drop x s) fun (c:UInt8) ↦ep (bI c))/\(0:Int)=(↑x:Int)/\s=s/\false=false/\(↑(List.length s):Int)=(↑(List.length s):Int)/\True)/\∀(x:Nat),(x<=List.length s/\bU cO s=List.all (List.drop x s) fun (c:UInt8) ↦ep (bI c))→if decide ((↑x:Int) < (↑(List.length s):Int))=true then ((0:Int)<=(↑x:Int)/\(↑x:Int) < (↑(List.length s):Int))/\if (!ep (↑(UInt8.toNat (List.getD s (Int.toNat (↑x:Int)) (0:UInt8))):Int))=true then True/\false=bU cO s/\True else inR IntKind.i64 ((↑x:Int)+(1:Int))/\∃(y:Nat),(y<=List.length s/\bU cO s=List.all (List.drop y s) fun (c:UInt8) ↦ep (bI c))/\List.length s - y < List.length s - x/\(↑x:Int)+(1:Int)=(↑y:Int)/\s=s/\false=false/\(↑(List.length s):Int)=(↑(List.length s):Int)/\True else True/\true=bU cO s/\True:=by
 have hlen:=hs.str
 have eb:∀b:UInt8,(b.toNat:Int)=bI b:=fun _=>rfl
 simp only [jf,Int.toNat_natCast,Int.toNat_zero,true_and,and_true,eb,bU]
 generalize cO (bI (s.getD 0 0))=f0
 by_cases h0:s=[]
 ·simp [h0]
 have hpos:0 < s.length:=List.length_pos_iff.2 h0
 by_cases h1:s.length<=24
 ·rw [if_neg h0,if_neg (by omega)]
  refine ⟨by omega,?_⟩
  cases f0 with
  | false=>simp
  | true=>
   simp only [Bool.not_true,Bool.false_eq_true,if_false,h0,h1,decide_false,decide_true,Bool.not_false,Bool.true_and]
   refine ⟨⟨0,⟨by omega,rfl⟩,rfl⟩,?_⟩
   rintro k ⟨h3,h4⟩
   split
   ·have hk:k < s.length:=by omega
    rw [aH s k 0 hk,List.all_cons] at h4
    generalize ep (bI (s.getD k 0))=r at h4 ⊢
    refine ⟨by omega,?_⟩
    cases r with
    | false=>simpa using h4.symm
    | true=>
     simp only [Bool.not_true,Bool.false_eq_true,if_false]
     exact ⟨bg hk hlen,k+1,⟨by omega,by simpa using h4⟩,by omega,by omega⟩
   ·have hk:k=s.length:=by omega
    subst hk
    simpa using h4.symm
 ·rw [if_neg h0,if_pos (by omega)]
  simp [h1]
theorem Cv (s:Str)  :
  if decide (s=[(109:UInt8),(111:UInt8),(100:UInt8),(117:UInt8),(108:UInt8),(101:UInt8)])=true then True/\true=dr s/\True else if decide (s=[(105:UInt8),(109:UInt8),(112:UInt8),(111:UInt8),(114:UInt8),(116:UInt8)])=true then True/\true=dr s/\True else if decide (s=[(112:UInt8),(105:UInt8),(110:UInt8)])=true then True/\true=dr s/\True else if decide (s=[(114:UInt8),(97:UInt8),(110:UInt8),(103:UInt8),(101:UInt8)])=true then True/\true=dr s/\True else if decide (s=[(116:UInt8),(121:UInt8),(112:UInt8),(101:UInt8)])=true then True/\true=dr s/\True else if decide (s=[(111:UInt8),(112:UInt8),(97:UInt8),(113:UInt8),(117:UInt8),(101:UInt8)])=true then True/\true=dr s/\True else if decide (s=[(108:UInt8),(101:UInt8),(116:UInt8)])=true then True/\true=dr s/\True else if decide (s=[(105:UInt8),(110:UInt8)])=true then True/\true=dr s/\True else if decide (s=[(101:UInt8),(120:UInt8),(112:UInt8),(111:UInt8),(114:UInt8),(116:UInt8)])=true then True/\true=dr s/\True else if decide (s=[(102:UInt8),(117:UInt8),(110:UInt8)])=true then True/\true=dr s/\True else if decide (s=[(105:UInt8),(102:UInt8)])=true then True/\true=dr s/\True else if decide (s=[(116:UInt8),(104:UInt8),(101:UInt8),(110:UInt8)])=true then True/\true=dr s/\True else if decide (s=[(101:UInt8),(108:UInt8),(115:UInt8),(101:UInt8)])=true then True/\true=dr s/\True else if decide (s=[(99:UInt8),(97:UInt8),(115:UInt8),(101:UInt8)])=true then True/\true=dr s/\True else if decide (s=[(111:UInt8),(102:UInt8)])=true then True/\true=dr s/\True else if decide (s=[(97:UInt8),(115:UInt8)])=true then True/\true=dr s/\True else if decide (s=[(110:UInt8),(101:UInt8),(119:UInt8)])=true then True/\true=dr s/\True else if decide (s=[(114:UInt8),(97:UInt8),(119:UInt8)])=true then True/\true=dr s/\True else if decide (s=[(116:UInt8),(114:UInt8),(117:UInt8),(101:UInt8)])=true then True/\true=dr s/\True else if decide (s=[(102:UInt8),(97:UInt8),(108:UInt8),(115:UInt8),(101:UInt8)])=true then True/\true=dr s/\True else True/\false=dr s/\True:=by
 refine ab (fun h=>?_) (fun h0=>?_)
 ·rw [Xo h];exact ⟨trivial,rfl,trivial⟩
 refine ab (fun h=>?_) (fun h1=>?_)
 ·rw [Xo h];exact ⟨trivial,rfl,trivial⟩
 refine ab (fun h=>?_) (fun h2=>?_)
 ·rw [Xo h];exact ⟨trivial,rfl,trivial⟩
 refine ab (fun h=>?_) (fun h3=>?_)
 ·rw [Xo h];exact ⟨trivial,rfl,trivial⟩
 refine ab (fun h=>?_) (fun h4=>?_)
 ·rw [Xo h];exact ⟨trivial,rfl,trivial⟩
 refine ab (fun h=>?_) (fun h5=>?_)
 ·rw [Xo h];exact ⟨trivial,rfl,trivial⟩
 refine ab (fun h=>?_) (fun h6=>?_)
 ·rw [Xo h];exact ⟨trivial,rfl,trivial⟩
 refine ab (fun h=>?_) (fun h7=>?_)
 ·rw [Xo h];exact ⟨trivial,rfl,trivial⟩
 refine ab (fun h=>?_) (fun h8=>?_)
 ·rw [Xo h];exact ⟨trivial,rfl,trivial⟩
 refine ab (fun h=>?_) (fun h9=>?_)
 ·rw [Xo h];exact ⟨trivial,rfl,trivial⟩
 refine ab (fun h=>?_) (fun h10=>?_)
 ·rw [Xo h];exact ⟨trivial,rfl,trivial⟩
 refine ab (fun h=>?_) (fun h11=>?_)
 ·rw [Xo h];exact ⟨trivial,rfl,trivial⟩
 refine ab (fun h=>?_) (fun h12=>?_)
 ·rw [Xo h];exact ⟨trivial,rfl,trivial⟩
 refine ab (fun h=>?_) (fun h13=>?_)
 ·rw [Xo h];exact ⟨trivial,rfl,trivial⟩
 refine ab (fun h=>?_) (fun h14=>?_)
 ·rw [Xo h];exact ⟨trivial,rfl,trivial⟩
 refine ab (fun h=>?_) (fun h15=>?_)
 ·rw [Xo h];exact ⟨trivial,rfl,trivial⟩
 refine ab (fun h=>?_) (fun h16=>?_)
 ·rw [Xo h];exact ⟨trivial,rfl,trivial⟩
 refine ab (fun h=>?_) (fun h17=>?_)
 ·rw [Xo h];exact ⟨trivial,rfl,trivial⟩
 refine ab (fun h=>?_) (fun h18=>?_)
 ·rw [Xo h];exact ⟨trivial,rfl,trivial⟩
 refine ab (fun h=>?_) (fun h19=>?_)
 ·rw [Xo h];exact ⟨trivial,rfl,trivial⟩
 refine ⟨trivial,?_,trivial⟩
 symm
 refine Xf fun hm=>?_
 unfold CV at hm
 rcases List.mem_cons.1 hm with e | hm
 ·exact h0 (Xd e)
 rcases List.mem_cons.1 hm with e | hm
 ·exact h1 (Xd e)
 rcases List.mem_cons.1 hm with e | hm
 ·exact h2 (Xd e)
 rcases List.mem_cons.1 hm with e | hm
 ·exact h3 (Xd e)
 rcases List.mem_cons.1 hm with e | hm
 ·exact h4 (Xd e)
 rcases List.mem_cons.1 hm with e | hm
 ·exact h5 (Xd e)
 rcases List.mem_cons.1 hm with e | hm
 ·exact h6 (Xd e)
 rcases List.mem_cons.1 hm with e | hm
 ·exact h7 (Xd e)
 rcases List.mem_cons.1 hm with e | hm
 ·exact h8 (Xd e)
 rcases List.mem_cons.1 hm with e | hm
 ·exact h9 (Xd e)
 rcases List.mem_cons.1 hm with e | hm
 ·exact h10 (Xd e)
 rcases List.mem_cons.1 hm with e | hm
 ·exact h11 (Xd e)
 rcases List.mem_cons.1 hm with e | hm
 ·exact h12 (Xd e)
 rcases List.mem_cons.1 hm with e | hm
 ·exact h13 (Xd e)
 rcases List.mem_cons.1 hm with e | hm
 ·exact h14 (Xd e)
 rcases List.mem_cons.1 hm with e | hm
 ·exact h15 (Xd e)
 rcases List.mem_cons.1 hm with e | hm
 ·exact h16 (Xd e)
 rcases List.mem_cons.1 hm with e | hm
 ·exact h17 (Xd e)
 rcases List.mem_cons.1 hm with e | hm
 ·exact h18 (Xd e)
 rcases List.mem_cons.1 hm with e | hm
 ·exact h19 (Xd e)
 exact absurd hm List.not_mem_nil
theorem Cw (s:Str)  :
  if bU cD s=true then True/\(!dr s)=aY s/\True else True/\false=aY s/\True:=by
 unfold aY;cases bU cD s <;> simp
theorem B9 (s:Str)  :
  True/\bU cO s=ev s/\True:=by
 simp [ev]
theorem z6 (a:List Str) (v:Str) (ha:Wf (.lst .str) a) :
  (∃(x:Nat),(x<=List.length a/\bO a v (0:Int)=bO (List.drop x a) v (↑x:Int))/\(0:Int)=(↑x:Int)/\a=a/\v=v/\(↑(List.length a):Int)=(↑(List.length a):Int)/\True)/\∀(x:Nat),x<=List.length a/\bO a v (0:Int)=bO (List.drop x a) v (↑x:Int)→if decide ((↑x:Int) < (↑(List.length a):Int))=true then ((0:Int)<=(↑x:Int)/\(↑x:Int) < (↑(List.length a):Int))/\if decide (v=List.getD a (Int.toNat (↑x:Int)) (dfl Ty.str))=true then True/\(↑x:Int)=bO a v (0:Int)/\True else inR IntKind.i64 ((↑x:Int)+(1:Int))/\∃(y:Nat),(y<=List.length a/\bO a v (0:Int)=bO (List.drop y a) v (↑y:Int))/\List.length a - y < List.length a - x/\(↑x:Int)+(1:Int)=(↑y:Int)/\a=a/\v=v/\(↑(List.length a):Int)=(↑(List.length a):Int)/\True else True/\(-1:Int)=bO a v (0:Int)/\True:=by
 have la:=ha.len
 simp only [Int.toNat_natCast,eq_self,true_and,and_true]
 refine ⟨⟨0,⟨by omega,by simp⟩,by simp⟩,?_⟩
 rintro k ⟨h1,h3⟩
 refine ab (fun h=>?_) (fun h=>?_)
 ·replace h:=Xo h
  have hk:k < a.length:=by omega
  rw [aH a k (dfl .str) hk] at h3
  refine ⟨by omega,?_⟩
  by_cases e:a.getD k (dfl .str)=v
  ·rw [if_pos (by simpa using e.symm),h3,bO,if_pos e]
  ·rw [if_neg (by simpa using fun h=>e h.symm)]
   exact ⟨bg hk la,k+1,⟨by omega,by rw [h3,bO,if_neg e];rfl⟩,by omega,by omega⟩
 ·replace h:¬((k:Int) < (a.length:Int)):=fun e=>h (Xd e)
  have e:k=a.length:=by omega
  subst e;rw [h3];simp [bO]
theorem Ba (s:Str)  :
  if decide (s=[(73:UInt8),(110:UInt8),(116:UInt8)])=true then True/\true=gB s/\True else if decide (s=[(66:UInt8),(111:UInt8),(111:UInt8),(108:UInt8)])=true then True/\true=gB s/\True else if decide (s=[(84:UInt8),(101:UInt8),(120:UInt8),(116:UInt8)])=true then True/\true=gB s/\True else True/\decide (s=[(65:UInt8),(110:UInt8),(121:UInt8)])=gB s/\True:=by
 simp only [eq_self,true_and,and_true,gB]
 by_cases a:s=[73,110,116] <;> by_cases b:s=[66,111,111,108] <;> by_cases c:s=[84,101,120,116] <;> by_cases d:s=[65,110,121] <;> simp [a,b,c,d]
theorem z7 (a:List Str)  :
  True/\a=a/\True:=by
 trivial
theorem Bb (s:Shape) (hs:Wf (.st .shape) s) (ho:s.parts.length *16<=140737488355328) :
  if (!decide ((↑(List.length s.names):Int)=(↑(List.length s.parts):Int)))=true then True/\false=cr s/\True else (∃(x:Nat),(x<=List.length s.names/\List.length s.names=List.length s.parts/\cr s=(List.all (List.drop x s.names) aY && decide (List.Nodup s.names)))/\(0:Int)=(↑x:Int)/\s=s/\false=false/\s.names=s.names/\(↑(List.length s.names):Int)=(↑(List.length s.names):Int)/\s=s/\True)/\∀(x:Nat),x<=List.length s.names/\List.length s.names=List.length s.parts/\cr s=(List.all (List.drop x s.names) aY && decide (List.Nodup s.names))→if decide ((↑x:Int) < (↑(List.length s.names):Int))=true then ((0:Int)<=(↑x:Int)/\(↑x:Int) < (↑(List.length s.names):Int))/\if (!aY (List.getD s.names (Int.toNat (↑x:Int)) (dfl Ty.str)))=true then True/\false=cr s/\True else inR IntKind.i64 ((↑x:Int)+(1:Int))/\∃(y:Nat),(y<=List.length s.names/\List.length s.names=List.length s.parts/\cr s=(List.all (List.drop y s.names) aY && decide (List.Nodup s.names)))/\List.length s.names - y < List.length s.names - x/\(↑x:Int)+(1:Int)=(↑y:Int)/\s=s/\false=false/\s.names=s.names/\(↑(List.length s.names):Int)=(↑(List.length s.names):Int)/\s=s/\True else List.length s.names *(16:Nat)<=(140737488355328:Nat)/\List.length (List.mergeSort s.names fun (x y:Str) ↦decide (x<=y))=List.length (List.mergeSort s.names fun (x y:Str) ↦decide (x<=y))/\True/\decide ((↑(List.length (Lib.compact (List.mergeSort s.names fun (x y:Str) ↦decide (x<=y)))):Int)=(↑(List.length s.names):Int))=cr s/\True:=by
 have ln:=hs.names.len
 simp only [Int.toNat_natCast,eq_self,true_and,and_true]
 refine ab (fun h=>?_) (fun h=>?_)
 ·have:s.names.length≠s.parts.length:=by simp at h;omega
  simp [cr,this]
 have hl:s.names.length=s.parts.length:=by simp at h;omega
 refine ⟨⟨0,⟨by omega,hl,by simp [cr,hl]⟩,rfl⟩,?_⟩
 rintro k ⟨h1,_,h3⟩
 refine ab (fun h=>?_) (fun h=>?_)
 ·replace h:=Xo h
  have hk:k < s.names.length:=by omega
  rw [aH s.names k (dfl .str) hk] at h3
  refine ⟨by omega,?_⟩
  simp only [List.all_cons] at h3
  cases e:aY (s.names.getD k (dfl .str))
  ·rw [e] at h3;rw [h3];simp
  ·simp only [e,Bool.true_and] at h3
   exact ⟨bg hk ln,k+1,⟨by omega,hl,h3⟩,by omega,by omega⟩
 ·replace h:¬((k:Int) < (s.names.length:Int)):=fun e=>h (Xd e)
  have e:k=s.names.length:=by omega
  subst e
  have hc:=jg s.names
  unfold ek at hc
  refine ⟨by omega,?_⟩
  rw [h3,List.drop_length]
  simp only [List.all_nil,Bool.true_and]
  rw [decide_eq_decide,←hc]
  omega
theorem Cx (s:Shape) (hs:Wf (.st .shape) s) (ho:s.parts.length *16<=140737488355328) :
  if decide (s.pkg=[])=true then if decide (s.kind=(1:Int))=true then if decide (s.name=[])=true then if decide ((↑(List.length s.names):Int)=(0:Int))=true then True/\decide ((↑(List.length s.parts):Int)=(0:Int))=aq s/\True else True/\false=aq s/\True else True/\false=aq s/\True else if decide (s.kind=(2:Int))=true then if decide (s.name=[])=true then if decide ((↑(List.length s.names):Int)=(0:Int))=true then True/\decide ((↑(List.length s.parts):Int)=(0:Int))=aq s/\True else True/\false=aq s/\True else True/\false=aq s/\True else if decide (s.kind=(3:Int))=true then if decide (s.name=[])=true then if decide ((↑(List.length s.names):Int)=(0:Int))=true then True/\decide ((↑(List.length s.parts):Int)=(0:Int))=aq s/\True else True/\false=aq s/\True else True/\false=aq s/\True else if decide (s.kind=(4:Int))=true then if decide (s.name=[])=true then if decide ((↑(List.length s.names):Int)=(0:Int))=true then True/\decide ((↑(List.length s.parts):Int)=(0:Int))=aq s/\True else True/\false=aq s/\True else True/\false=aq s/\True else if decide (s.kind=(5:Int))=true then if decide (s.name=[])=true then if decide ((↑(List.length s.names):Int)=(0:Int))=true then True/\decide ((↑(List.length s.parts):Int)=(1:Int))=aq s/\True else True/\false=aq s/\True else True/\false=aq s/\True else if decide (s.kind=(6:Int))=true then if decide (s.name=[])=true then List.length s.parts *(16:Nat)<=(140737488355328:Nat)/\True/\cr s=aq s/\True else True/\false=aq s/\True else if decide (s.kind=(7:Int))=true then if decide (s.name=[])=true then List.length s.parts *(16:Nat)<=(140737488355328:Nat)/\True/\cr s=aq s/\True else True/\false=aq s/\True else if decide (s.kind=(8:Int))=true then if decide (s.name=[])=true then if decide ((↑(List.length s.names):Int)=(0:Int))=true then True/\decide ((0:Int) < (↑(List.length s.parts):Int))=aq s/\True else True/\false=aq s/\True else True/\false=aq s/\True else if decide (s.kind=(9:Int))=true then if ev s.name=true then if decide (s.pkg=[])=true then if (!gB s.name)=true then if decide ((↑(List.length s.names):Int)=(0:Int))=true then True/\decide ((↑(List.length s.parts):Int)=(0:Int))=aq s/\True else True/\false=aq s/\True else if aY s.pkg=true then if decide ((↑(List.length s.names):Int)=(0:Int))=true then True/\decide ((↑(List.length s.parts):Int)=(0:Int))=aq s/\True else True/\false=aq s/\True else True/\false=aq s/\True else if aY s.pkg=true then if decide ((↑(List.length s.names):Int)=(0:Int))=true then True/\decide ((↑(List.length s.parts):Int)=(0:Int))=aq s/\True else True/\false=aq s/\True else True/\false=aq s/\True else True/\false=aq s/\True else if decide (s.kind=(10:Int))=true then if ev s.name=true then if aY s.pkg=true then if decide ((↑(List.length s.names):Int)=(0:Int))=true then True/\decide ((↑(List.length s.parts):Int)=(0:Int))=aq s/\True else True/\false=aq s/\True else True/\false=aq s/\True else True/\false=aq s/\True else True/\false=aq s/\True else if decide (s.kind=(1:Int))=true then True/\false=aq s/\True else if decide (s.kind=(2:Int))=true then True/\false=aq s/\True else if decide (s.kind=(3:Int))=true then True/\false=aq s/\True else if decide (s.kind=(4:Int))=true then True/\false=aq s/\True else if decide (s.kind=(5:Int))=true then True/\false=aq s/\True else if decide (s.kind=(6:Int))=true then True/\false=aq s/\True else if decide (s.kind=(7:Int))=true then True
  /\false=aq s/\True else if decide (s.kind=(8:Int))=true then True/\false=aq s/\True else if decide (s.kind=(9:Int))=true then if ev s.name=true then if decide (s.pkg=[])=true then if (!gB s.name)=true then if decide ((↑(List.length s.names):Int)=(0:Int))=true then True/\decide ((↑(List.length s.parts):Int)=(0:Int))=aq s/\True else True/\false=aq s/\True else if aY s.pkg=true then if decide ((↑(List.length s.names):Int)=(0:Int))=true then True/\decide ((↑(List.length s.parts):Int)=(0:Int))=aq s/\True else True/\false=aq s/\True else True/\false=aq s/\True else if aY s.pkg=true then if decide ((↑(List.length s.names):Int)=(0:Int))=true then True/\decide ((↑(List.length s.parts):Int)=(0:Int))=aq s/\True else True/\false=aq s/\True else True/\false=aq s/\True else True/\false=aq s/\True else if decide (s.kind=(10:Int))=true then if ev s.name=true then if aY s.pkg=true then if decide ((↑(List.length s.names):Int)=(0:Int))=true then True/\decide ((↑(List.length s.parts):Int)=(0:Int))=aq s/\True else True/\false=aq s/\True else True/\false=aq s/\True else True/\false=aq s/\True else True/\false=aq s/\True:=by
 have n0:((s.names.length:Int)=0)↔s.names=[]:=by rw [←List.length_eq_zero_iff];omega
 have p0:((s.parts.length:Int)=0)↔s.parts=[]:=by rw [←List.length_eq_zero_iff];omega
 have p1:((s.parts.length:Int)=1)↔s.parts.length=1:=by omega
 have p2:(0 < (s.parts.length:Int))↔¬s.parts=[]:=by rw [←List.length_eq_zero_iff];omega
 simp only [n0,p0,p1,p2,decide_eq_true_eq,true_and,and_true,ho]
 have hf:aq s=aq s:=rfl
 conv at hf=>rhs;unfold aq
 revert hf
 generalize aq s=F
 generalize cr s=A
 generalize ev s.name=B
 generalize aY s.pkg=C
 generalize gB s.name=D
 generalize s.kind=K
 intro hf
 repeat' (refine ab (fun _=>?_) (fun _=>?_))
 all_goals (subst hf;simp_all)
theorem vZ (n:Nat) (s:Shape) (hs:Wf (.st .shape) s) (hn:sz s<=n+1) (hb:n<=1000000) :
  List.length s.parts *(16:Nat)<=(140737488355328:Nat)/\if (!aq s)=true then True/\false=allS aq s/\True else (∃(x:Nat),(x<=List.length s.parts/\allS aq s=allL aq (List.drop x s.parts))/\(0:Int)=(↑x:Int)/\s=s/\false=false/\s.parts=s.parts/\(↑(List.length s.parts):Int)=(↑(List.length s.parts):Int)/\s=s/\True)/\∀(x:Nat),x<=List.length s.parts/\allS aq s=allL aq (List.drop x s.parts)→if decide ((↑x:Int) < (↑(List.length s.parts):Int))=true then ((0:Int)<=(↑x:Int)/\(↑x:Int) < (↑(List.length s.parts):Int))/\sz (List.getD s.parts (Int.toNat (↑x:Int)) (dfl (Ty.st SN.shape)))<=n/\if (!allS aq (List.getD s.parts (Int.toNat (↑x:Int)) (dfl (Ty.st SN.shape))))=true then True/\false=allS aq s/\True else inR IntKind.i64 ((↑x:Int)+(1:Int))/\∃(y:Nat),(y<=List.length s.parts/\allS aq s=allL aq (List.drop y s.parts))/\List.length s.parts - y < List.length s.parts - x/\(↑x:Int)+(1:Int)=(↑y:Int)/\s=s/\false=false/\s.parts=s.parts/\(↑(List.length s.parts):Int)=(↑(List.length s.parts):Int)/\s=s/\True else True/\true=allS aq s/\True:=by
 have ln:=hs.parts.len
 have hz:=gV s
 have hl:=kN s.parts
 simp only [Int.toNat_natCast,eq_self,true_and,and_true]
 refine ⟨by omega,ab (fun h=>?_) (fun h=>?_)⟩
 ·rw [gr];simp at h;simp [h]
 refine ⟨⟨0,⟨by omega,by rw [gr];simp at h;simp [h]⟩,rfl⟩,?_⟩
 rintro k ⟨h1,h3⟩
 refine ab (fun h=>?_) (fun h=>?_)
 ·replace h:=Xo h
  have hk:k < s.parts.length:=by omega
  have hm:=dG (getD_mem s.parts k (dfl (.st .shape)) hk)
  rw [aH s.parts k (dfl (.st .shape)) hk] at h3
  simp only [allL] at h3
  refine ⟨by omega,by omega,?_⟩
  cases e:allS aq (s.parts.getD k (dfl (.st .shape)))
  ·rw [e] at h3;rw [h3];simp
  ·simp only [e,Bool.true_and] at h3
   exact ⟨bg hk ln,k+1,⟨by omega,h3⟩,by omega,by omega⟩
 ·replace h:¬((k:Int) < (s.parts.length:Int)):=fun e=>h (Xd e)
  have e:k=s.parts.length:=by omega
  subst e
  rw [h3,List.drop_length];rfl
theorem z8 (n:Nat) (s:Shape) (hs:Wf (.st .shape) s) (hn:sz s<=n+1) (ho:allS cU s=true) (hb:n<=1000000) :
  ((0:Int)<=(↑(List.length s.parts):Int)/\(↑(List.length s.parts):Int)<=(↑(List.length s.parts):Int)/\(↑(List.length s.parts):Int) *(↑(8:Nat):Int)<=(140737488355328:Int))/\(∃(x:Nat),x<=List.length s.parts/\(0:Int)=(↑x:Int)/\s=s/\Int.toNat (↑(List.length s.parts):Int)=Int.toNat (↑(List.length s.parts):Int)/\(↑(Int.toNat (↑(List.length s.parts):Int)):Int)=(↑(Int.toNat (↑(List.length s.parts):Int)):Int)/\List.replicate (Int.toNat (↑(List.length s.parts):Int)) (0:Int)=bD x++List.replicate (List.length s.parts - x) (0:Int)/\s=s/\(0:Int)=(0:Int)/\aE UInt8=aE UInt8/\aE UInt8=aE UInt8/\s.kind=s.kind/\s.pkg=s.pkg/\s.name=s.name/\True)/\∀(x:Nat),x<=List.length s.parts→if decide ((↑x:Int) < (↑(Int.toNat (↑(List.length s.parts):Int)):Int))=true then ((0:Int)<=(↑x:Int)/\(↑x:Int) < (↑(Int.toNat (↑(List.length s.parts):Int)):Int))/\Int.toNat (↑x:Int) < List.length (bD x++List.replicate (List.length s.parts - x) (0:Int))/\inR IntKind.i64 ((↑x:Int)+(1:Int))/\∃(y:Nat),y<=List.length s.parts/\List.length s.parts - y < List.length s.parts - x/\(↑x:Int)+(1:Int)=(↑y:Int)/\s=s/\Int.toNat (↑(List.length s.parts):Int)=Int.toNat (↑(List.length s.parts):Int)/\(↑(Int.toNat (↑(List.length s.parts):Int)):Int)=(↑(Int.toNat (↑(List.length s.parts):Int)):Int)/\List.set (bD x++List.replicate (List.length s.parts - x) (0:Int)) (Int.toNat (↑x:Int)) (↑x:Int)=bD y++List.replicate (List.length s.parts - y) (0:Int)/\s=s/\(0:Int)=(0:Int)/\aE UInt8=aE UInt8/\aE UInt8=aE UInt8/\s.kind=s.kind/\s.pkg=s.pkg/\s.name=s.name/\True else if decide ((0:Int) < (↑(List.length s.names):Int))=true then (Int.toNat (↑(List.length s.parts):Int)=List.length (bD x++List.replicate (List.length s.parts - x) (0:Int))/\bD x++List.replicate (List.length s.parts - x) (0:Int)≠[]/\(∀(x_1:Int),x_1∈bD x++List.replicate (List.length s.parts - x) (0:Int)→(0:Int)<=x_1/\x_1 < (↑(List.length s.names):Int))/\List.Nodup s.names/\List.length (bD x++List.replicate (List.length s.parts - x) (0:Int)) < (4611686018427387904:Nat))/\(∃(x_1:Nat),x_1<=List.length s.parts/\(0:Int)=(↑x_1:Int)/\(↑x:Int)=(↑x:Int)/\s=s/\Int.toNat (↑(List.length s.parts):Int)=Int.toNat (↑(List.length s.parts):Int)/\(↑(Int.toNat (↑(List.length s.parts):Int)):Int)=(↑(Int.toNat (↑(List.length s.parts):Int)):Int)/\false=false/\true=true/\Int.toNat (↑(List.length s.parts):Int)=Int.toNat (↑(List.length s.parts):Int)/\(↑(Int.toNat (↑(List.length s.parts):Int)):Int)=(↑(Int.toNat (↑(List.length s.parts):Int)):Int)/\s.kind=s.kind/\s.pkg=s.pkg/\s.name=s.name/\(if s.names=[] then [] else List.map (fun (i:Int) ↦List.getD s.names (Int.toNat i) []) (List.take x_1 (ak s)))=[]/\List.map (fun (i:Int) ↦List.getD (sortedL s.parts) (Int.toNat i) dt) (List.take x_1 (ak s))=[]/\(List.mergeSort (bD x++List.replicate (List.length s.parts - x) (0:Int)) fun (i j:Int) ↦decide (List.getD s.names (Int.toNat i) []<=List.getD s.names (Int.toNat j) []))=ak s/\List.length (if s.names=[] then [] else List.map (fun (i:Int) ↦List.getD s.names (Int.toNat i) []) (List.take x_1 (ak s)))=(0:Nat)/\x_1=(0:Nat)/\s=s/\(0:Int)=(0:Int)/\aE UInt8=aE UInt8/\aE UInt8=aE UInt8/\True)/\∀(x_1:Nat),x_1<=List.length s.parts→if decide ((↑x_1:Int) < (↑(Int.toNat (↑(List.length s.parts):Int)):Int))=true then ((0:Int)<=(↑x_1:Int)/\(↑x_1:Int) < (↑(Int.toNat (↑(List.length s.parts):Int)):Int))/\Int.toNat (↑x_1:Int) < List.length (ak s)/\if decide ((0:Int) < (↑(List.length s.names):Int))=true then ((0:Int)<=List.getD (ak s) (Int.toNat (↑x_1:Int)) (dfl (Ty.int IntKind.i64))
  /\List.getD (ak s) (Int.toNat (↑x_1:Int)) (dfl (Ty.int IntKind.i64)) < (↑(List.length s.names):Int))/\(List.length (if s.names=[] then [] else List.map (fun (i:Int) ↦List.getD s.names (Int.toNat i) []) (List.take x_1 (ak s)))=List.length (if s.names=[] then [] else List.map (fun (i:Int) ↦List.getD s.names (Int.toNat i) []) (List.take x_1 (ak s)))/\(List.length (if s.names=[] then [] else List.map (fun (i:Int) ↦List.getD s.names (Int.toNat i) []) (List.take x_1 (ak s)))+List.length [List.getD s.names (Int.toNat (List.getD (ak s) (Int.toNat (↑x_1:Int)) (dfl (Ty.int IntKind.i64)))) (dfl Ty.str)]) *(16:Nat)<=(140737488355328:Nat))/\((0:Int)<=List.getD (ak s) (Int.toNat (↑x_1:Int)) (dfl (Ty.int IntKind.i64))/\List.getD (ak s) (Int.toNat (↑x_1:Int)) (dfl (Ty.int IntKind.i64)) < (↑(List.length s.parts):Int))/\(sz (List.getD s.parts (Int.toNat (List.getD (ak s) (Int.toNat (↑x_1:Int)) (dfl (Ty.int IntKind.i64)))) (dfl (Ty.st SN.shape)))<=n/\allS cU (List.getD s.parts (Int.toNat (List.getD (ak s) (Int.toNat (↑x_1:Int)) (dfl (Ty.int IntKind.i64)))) (dfl (Ty.st SN.shape)))=true)/\(List.length (List.map (fun (i:Int) ↦List.getD (sortedL s.parts) (Int.toNat i) dt) (List.take x_1 (ak s)))=x_1/\(List.length (List.map (fun (i:Int) ↦List.getD (sortedL s.parts) (Int.toNat i) dt) (List.take x_1 (ak s)))+List.length [sortedS (List.getD s.parts (Int.toNat (List.getD (ak s) (Int.toNat (↑x_1:Int)) (dfl (Ty.int IntKind.i64)))) (dfl (Ty.st SN.shape)))]) *(88:Nat)<=(140737488355328:Nat))/\inR IntKind.i64 ((↑x_1:Int)+(1:Int))/\∃(y:Nat),y<=List.length s.parts/\List.length s.parts - y < List.length s.parts - x_1/\(↑x_1:Int)+(1:Int)=(↑y:Int)/\(↑x:Int)=(↑x:Int)/\s=s/\Int.toNat (↑(List.length s.parts):Int)=Int.toNat (↑(List.length s.parts):Int)/\(↑(Int.toNat (↑(List.length s.parts):Int)):Int)=(↑(Int.toNat (↑(List.length s.parts):Int)):Int)/\false=false/\true=true/\Int.toNat (↑(List.length s.parts):Int)=Int.toNat (↑(List.length s.parts):Int)/\(↑(Int.toNat (↑(List.length s.parts):Int)):Int)=(↑(Int.toNat (↑(List.length s.parts):Int)):Int)/\s.kind=s.kind/\s.pkg=s.pkg/\s.name=s.name/\((if s.names=[] then [] else List.map (fun (i:Int) ↦List.getD s.names (Int.toNat i) []) (List.take x_1 (ak s)))++[List.getD s.names (Int.toNat (List.getD (ak s) (Int.toNat (↑x_1:Int)) (dfl (Ty.int IntKind.i64)))) (dfl Ty.str)]=if s.names=[] then [] else List.map (fun (i:Int) ↦List.getD s.names (Int.toNat i) []) (List.take y (ak s)))/\List.map (fun (i:Int) ↦List.getD (sortedL s.parts) (Int.toNat i) dt) (List.take x_1 (ak s))++[sortedS (List.getD s.parts (Int.toNat (List.getD (ak s) (Int.toNat (↑x_1:Int)) (dfl (Ty.int IntKind.i64)))) (dfl (Ty.st SN.shape)))]=List.map (fun (i:Int) ↦List.getD (sortedL s.parts) (Int.toNat i) dt) (List.take y (ak s))/\ak s=ak s/\List.length ((if s.names=[] then [] else List.map (fun (i:Int) ↦List.getD s.names (Int.toNat i) []) (List.take x_1 (ak s)))++[List.getD s.names (Int.toNat (List.getD (ak s) (Int.toNat (↑x_1:Int)) (dfl (Ty.int IntKind.i64)))) (dfl Ty.str)])=List.length (if s.names=[] then [] else List.map (fun (i:Int) ↦List.getD s.names (Int.toNat i) []) (List.take y (ak s)))/\List.length (List.map (fun (i:Int) ↦List.getD (sortedL s.parts) (Int.toNat i) dt) (List.take x_1 (ak s))++[sortedS (List.getD s.parts (Int.toNat (List.getD (ak s) (Int.toNat (↑x_1:Int)) (dfl (Ty.int IntKind.i64)))) (dfl (Ty.st SN.shape)))])=y/\s=s/\(0:Int)=(0:Int)/\aE UInt8=aE UInt8/\aE UInt8=aE UInt8/\True else ((0:Int)<=List.getD (ak s) (Int.toNat (↑x_1:Int)) (dfl (Ty.int IntKind.i64))/\List.getD (ak s) (Int.toNat (↑x_1:Int)) (dfl (Ty.int IntKind.i64)) < (↑(List.length s.parts):Int))
  /\(sz (List.getD s.parts (Int.toNat (List.getD (ak s) (Int.toNat (↑x_1:Int)) (dfl (Ty.int IntKind.i64)))) (dfl (Ty.st SN.shape)))<=n/\allS cU (List.getD s.parts (Int.toNat (List.getD (ak s) (Int.toNat (↑x_1:Int)) (dfl (Ty.int IntKind.i64)))) (dfl (Ty.st SN.shape)))=true)/\(List.length (List.map (fun (i:Int) ↦List.getD (sortedL s.parts) (Int.toNat i) dt) (List.take x_1 (ak s)))=x_1/\(List.length (List.map (fun (i:Int) ↦List.getD (sortedL s.parts) (Int.toNat i) dt) (List.take x_1 (ak s)))+List.length [sortedS (List.getD s.parts (Int.toNat (List.getD (ak s) (Int.toNat (↑x_1:Int)) (dfl (Ty.int IntKind.i64)))) (dfl (Ty.st SN.shape)))]) *(88:Nat)<=(140737488355328:Nat))/\inR IntKind.i64 ((↑x_1:Int)+(1:Int))/\∃(y:Nat),y<=List.length s.parts/\List.length s.parts - y < List.length s.parts - x_1/\(↑x_1:Int)+(1:Int)=(↑y:Int)/\(↑x:Int)=(↑x:Int)/\s=s/\Int.toNat (↑(List.length s.parts):Int)=Int.toNat (↑(List.length s.parts):Int)/\(↑(Int.toNat (↑(List.length s.parts):Int)):Int)=(↑(Int.toNat (↑(List.length s.parts):Int)):Int)/\false=false/\true=true/\Int.toNat (↑(List.length s.parts):Int)=Int.toNat (↑(List.length s.parts):Int)/\(↑(Int.toNat (↑(List.length s.parts):Int)):Int)=(↑(Int.toNat (↑(List.length s.parts):Int)):Int)/\s.kind=s.kind/\s.pkg=s.pkg/\s.name=s.name/\((if s.names=[] then [] else List.map (fun (i:Int) ↦List.getD s.names (Int.toNat i) []) (List.take x_1 (ak s)))=if s.names=[] then [] else List.map (fun (i:Int) ↦List.getD s.names (Int.toNat i) []) (List.take y (ak s)))/\List.map (fun (i:Int) ↦List.getD (sortedL s.parts) (Int.toNat i) dt) (List.take x_1 (ak s))++[sortedS (List.getD s.parts (Int.toNat (List.getD (ak s) (Int.toNat (↑x_1:Int)) (dfl (Ty.int IntKind.i64)))) (dfl (Ty.st SN.shape)))]=List.map (fun (i:Int) ↦List.getD (sortedL s.parts) (Int.toNat i) dt) (List.take y (ak s))/\ak s=ak s/\List.length (if s.names=[] then [] else List.map (fun (i:Int) ↦List.getD s.names (Int.toNat i) []) (List.take x_1 (ak s)))=List.length (if s.names=[] then [] else List.map (fun (i:Int) ↦List.getD s.names (Int.toNat i) []) (List.take y (ak s)))/\List.length (List.map (fun (i:Int) ↦List.getD (sortedL s.parts) (Int.toNat i) dt) (List.take x_1 (ak s))++[sortedS (List.getD s.parts (Int.toNat (List.getD (ak s) (Int.toNat (↑x_1:Int)) (dfl (Ty.int IntKind.i64)))) (dfl (Ty.st SN.shape)))])=y/\s=s/\(0:Int)=(0:Int)/\aE UInt8=aE UInt8/\aE UInt8=aE UInt8/\True else True/\s.kind=(sortedS s).kind/\s.pkg=(sortedS s).pkg/\s.name=(sortedS s).name/\(if s.names=[] then [] else List.map (fun (i:Int) ↦List.getD s.names (Int.toNat i) []) (List.take x_1 (ak s)))=(sortedS s).names/\List.map (fun (i:Int) ↦List.getD (sortedL s.parts) (Int.toNat i) dt) (List.take x_1 (ak s))=(sortedS s).parts/\True else (∃(x_1:Nat),x_1<=List.length s.parts/\(0:Int)=(↑x_1:Int)/\(↑x:Int)=(↑x:Int)/\s=s/\Int.toNat (↑(List.length s.parts):Int)=Int.toNat (↑(List.length s.parts):Int)/\(↑(Int.toNat (↑(List.length s.parts):Int)):Int)=(↑(Int.toNat (↑(List.length s.parts):Int)):Int)/\false=false/\false=false/\Int.toNat (↑(List.length s.parts):Int)=Int.toNat (↑(List.length s.parts):Int)/\(↑(Int.toNat (↑(List.length s.parts):Int)):Int)=(↑(Int.toNat (↑(List.length s.parts):Int)):Int)/\s.kind=s.kind/\s.pkg=s.pkg/\s.name=s.name/\(if s.names=[] then [] else List.map (fun (i:Int) ↦List.getD s.names (Int.toNat i) []) (List.take x_1 (ak s)))=[]/\List.map (fun (i:Int) ↦List.getD (sortedL s.parts) (Int.toNat i) dt) (List.take x_1 (ak s))=[]/\bD x++List.replicate (List.length s.parts - x) (0:Int)=ak s/\List.length (if s.names=[] then []
  else List.map (fun (i:Int) ↦List.getD s.names (Int.toNat i) []) (List.take x_1 (ak s)))=(0:Nat)/\x_1=(0:Nat)/\s=s/\(0:Int)=(0:Int)/\aE UInt8=aE UInt8/\aE UInt8=aE UInt8/\True)/\∀(x_1:Nat),x_1<=List.length s.parts→if decide ((↑x_1:Int) < (↑(Int.toNat (↑(List.length s.parts):Int)):Int))=true then ((0:Int)<=(↑x_1:Int)/\(↑x_1:Int) < (↑(Int.toNat (↑(List.length s.parts):Int)):Int))/\Int.toNat (↑x_1:Int) < List.length (ak s)/\if decide ((0:Int) < (↑(List.length s.names):Int))=true then ((0:Int)<=List.getD (ak s) (Int.toNat (↑x_1:Int)) (dfl (Ty.int IntKind.i64))/\List.getD (ak s) (Int.toNat (↑x_1:Int)) (dfl (Ty.int IntKind.i64)) < (↑(List.length s.names):Int))/\(List.length (if s.names=[] then [] else List.map (fun (i:Int) ↦List.getD s.names (Int.toNat i) []) (List.take x_1 (ak s)))=List.length (if s.names=[] then [] else List.map (fun (i:Int) ↦List.getD s.names (Int.toNat i) []) (List.take x_1 (ak s)))/\(List.length (if s.names=[] then [] else List.map (fun (i:Int) ↦List.getD s.names (Int.toNat i) []) (List.take x_1 (ak s)))+List.length [List.getD s.names (Int.toNat (List.getD (ak s) (Int.toNat (↑x_1:Int)) (dfl (Ty.int IntKind.i64)))) (dfl Ty.str)]) *(16:Nat)<=(140737488355328:Nat))/\((0:Int)<=List.getD (ak s) (Int.toNat (↑x_1:Int)) (dfl (Ty.int IntKind.i64))/\List.getD (ak s) (Int.toNat (↑x_1:Int)) (dfl (Ty.int IntKind.i64)) < (↑(List.length s.parts):Int))/\(sz (List.getD s.parts (Int.toNat (List.getD (ak s) (Int.toNat (↑x_1:Int)) (dfl (Ty.int IntKind.i64)))) (dfl (Ty.st SN.shape)))<=n/\allS cU (List.getD s.parts (Int.toNat (List.getD (ak s) (Int.toNat (↑x_1:Int)) (dfl (Ty.int IntKind.i64)))) (dfl (Ty.st SN.shape)))=true)/\(List.length (List.map (fun (i:Int) ↦List.getD (sortedL s.parts) (Int.toNat i) dt) (List.take x_1 (ak s)))=x_1/\(List.length (List.map (fun (i:Int) ↦List.getD (sortedL s.parts) (Int.toNat i) dt) (List.take x_1 (ak s)))+List.length [sortedS (List.getD s.parts (Int.toNat (List.getD (ak s) (Int.toNat (↑x_1:Int)) (dfl (Ty.int IntKind.i64)))) (dfl (Ty.st SN.shape)))]) *(88:Nat)<=(140737488355328:Nat))/\inR IntKind.i64 ((↑x_1:Int)+(1:Int))/\∃(y:Nat),y<=List.length s.parts/\List.length s.parts - y < List.length s.parts - x_1/\(↑x_1:Int)+(1:Int)=(↑y:Int)/\(↑x:Int)=(↑x:Int)/\s=s/\Int.toNat (↑(List.length s.parts):Int)=Int.toNat (↑(List.length s.parts):Int)/\(↑(Int.toNat (↑(List.length s.parts):Int)):Int)=(↑(Int.toNat (↑(List.length s.parts):Int)):Int)/\false=false/\false=false/\Int.toNat (↑(List.length s.parts):Int)=Int.toNat (↑(List.length s.parts):Int)/\(↑(Int.toNat (↑(List.length s.parts):Int)):Int)=(↑(Int.toNat (↑(List.length s.parts):Int)):Int)/\s.kind=s.kind/\s.pkg=s.pkg/\s.name=s.name/\((if s.names=[] then [] else List.map (fun (i:Int) ↦List.getD s.names (Int.toNat i) []) (List.take x_1 (ak s)))++[List.getD s.names (Int.toNat (List.getD (ak s) (Int.toNat (↑x_1:Int)) (dfl (Ty.int IntKind.i64)))) (dfl Ty.str)]=if s.names=[] then [] else List.map (fun (i:Int) ↦List.getD s.names (Int.toNat i) []) (List.take y (ak s)))/\List.map (fun (i:Int) ↦List.getD (sortedL s.parts) (Int.toNat i) dt) (List.take x_1 (ak s))++[sortedS (List.getD s.parts (Int.toNat (List.getD (ak s) (Int.toNat (↑x_1:Int)) (dfl (Ty.int IntKind.i64)))) (dfl (Ty.st SN.shape)))]=List.map (fun (i:Int) ↦List.getD (sortedL s.parts) (Int.toNat i) dt) (List.take y (ak s))/\ak s=ak s/\List.length ((if s.names=[] then [] else List.map (fun (i:Int) ↦List.getD s.names (Int.toNat i) []) (List.take x_1 (ak s)))++[List.getD s.names (Int.toNat (List.getD (ak s) (Int.toNat (↑x_1:Int)) (dfl (Ty.int IntKind.i64)))) (dfl Ty.str)])=List.length (if s.names=[] then []
  else List.map (fun (i:Int) ↦List.getD s.names (Int.toNat i) []) (List.take y (ak s)))/\List.length (List.map (fun (i:Int) ↦List.getD (sortedL s.parts) (Int.toNat i) dt) (List.take x_1 (ak s))++[sortedS (List.getD s.parts (Int.toNat (List.getD (ak s) (Int.toNat (↑x_1:Int)) (dfl (Ty.int IntKind.i64)))) (dfl (Ty.st SN.shape)))])=y/\s=s/\(0:Int)=(0:Int)/\aE UInt8=aE UInt8/\aE UInt8=aE UInt8/\True else ((0:Int)<=List.getD (ak s) (Int.toNat (↑x_1:Int)) (dfl (Ty.int IntKind.i64))/\List.getD (ak s) (Int.toNat (↑x_1:Int)) (dfl (Ty.int IntKind.i64)) < (↑(List.length s.parts):Int))/\(sz (List.getD s.parts (Int.toNat (List.getD (ak s) (Int.toNat (↑x_1:Int)) (dfl (Ty.int IntKind.i64)))) (dfl (Ty.st SN.shape)))<=n/\allS cU (List.getD s.parts (Int.toNat (List.getD (ak s) (Int.toNat (↑x_1:Int)) (dfl (Ty.int IntKind.i64)))) (dfl (Ty.st SN.shape)))=true)/\(List.length (List.map (fun (i:Int) ↦List.getD (sortedL s.parts) (Int.toNat i) dt) (List.take x_1 (ak s)))=x_1/\(List.length (List.map (fun (i:Int) ↦List.getD (sortedL s.parts) (Int.toNat i) dt) (List.take x_1 (ak s)))+List.length [sortedS (List.getD s.parts (Int.toNat (List.getD (ak s) (Int.toNat (↑x_1:Int)) (dfl (Ty.int IntKind.i64)))) (dfl (Ty.st SN.shape)))]) *(88:Nat)<=(140737488355328:Nat))/\inR IntKind.i64 ((↑x_1:Int)+(1:Int))/\∃(y:Nat),y<=List.length s.parts/\List.length s.parts - y < List.length s.parts - x_1/\(↑x_1:Int)+(1:Int)=(↑y:Int)/\(↑x:Int)=(↑x:Int)/\s=s/\Int.toNat (↑(List.length s.parts):Int)=Int.toNat (↑(List.length s.parts):Int)/\(↑(Int.toNat (↑(List.length s.parts):Int)):Int)=(↑(Int.toNat (↑(List.length s.parts):Int)):Int)/\false=false/\false=false/\Int.toNat (↑(List.length s.parts):Int)=Int.toNat (↑(List.length s.parts):Int)/\(↑(Int.toNat (↑(List.length s.parts):Int)):Int)=(↑(Int.toNat (↑(List.length s.parts):Int)):Int)/\s.kind=s.kind/\s.pkg=s.pkg/\s.name=s.name/\((if s.names=[] then [] else List.map (fun (i:Int) ↦List.getD s.names (Int.toNat i) []) (List.take x_1 (ak s)))=if s.names=[] then [] else List.map (fun (i:Int) ↦List.getD s.names (Int.toNat i) []) (List.take y (ak s)))/\List.map (fun (i:Int) ↦List.getD (sortedL s.parts) (Int.toNat i) dt) (List.take x_1 (ak s))++[sortedS (List.getD s.parts (Int.toNat (List.getD (ak s) (Int.toNat (↑x_1:Int)) (dfl (Ty.int IntKind.i64)))) (dfl (Ty.st SN.shape)))]=List.map (fun (i:Int) ↦List.getD (sortedL s.parts) (Int.toNat i) dt) (List.take y (ak s))/\ak s=ak s/\List.length (if s.names=[] then [] else List.map (fun (i:Int) ↦List.getD s.names (Int.toNat i) []) (List.take x_1 (ak s)))=List.length (if s.names=[] then [] else List.map (fun (i:Int) ↦List.getD s.names (Int.toNat i) []) (List.take y (ak s)))/\List.length (List.map (fun (i:Int) ↦List.getD (sortedL s.parts) (Int.toNat i) dt) (List.take x_1 (ak s))++[sortedS (List.getD s.parts (Int.toNat (List.getD (ak s) (Int.toNat (↑x_1:Int)) (dfl (Ty.int IntKind.i64)))) (dfl (Ty.st SN.shape)))])=y/\s=s/\(0:Int)=(0:Int)/\aE UInt8=aE UInt8/\aE UInt8=aE UInt8/\True else True/\s.kind=(sortedS s).kind/\s.pkg=(sortedS s).pkg/\s.name=(sortedS s).name/\(if s.names=[] then [] else List.map (fun (i:Int) ↦List.getD s.names (Int.toNat i) []) (List.take x_1 (ak s)))=(sortedS s).names/\List.map (fun (i:Int) ↦List.getD (sortedL s.parts) (Int.toNat i) dt) (List.take x_1 (ak s))=(sortedS s).parts/\True:=by
 have ln:=hs.parts.len
 have hz:=gV s
 have hl:=kN s.parts
 have hor:cU s=true/\allL cU s.parts=true:=by rw [gr] at ho;simpa using ho
 simp only [Int.toNat_natCast,eq_self,true_and,and_true]
 refine ⟨by omega,⟨0,by omega,rfl,by simp [bD]⟩,?_⟩
 rintro k hk
 refine ab (fun h=>?_) (fun h=>?_)
 ·replace h:=Xo h
  exact ⟨by omega,by simp [cP];omega,bg (by omega) ln,k+1,by omega,by omega,by omega,yz (by omega)⟩
 replace h:¬((k:Int) < (s.parts.length:Int)):=fun e=>h (Xd e)
 have e:k=s.parts.length:=by omega
 subst e
 simp only [Nat.sub_self,List.replicate_zero,List.append_nil]
 have hr:bD s.parts.length=[]↔s.parts=[]:=by rw [←List.length_eq_zero_iff,cP,List.length_eq_zero_iff]
 have hp2:=pG s
 have at_:∀k,k < s.parts.length→0<=(ak s).getD k (dfl (.int .i64))/\(ak s).getD k (dfl (.int .i64)) < s.parts.length:=fun k hk=>
  vF.1 (getD_mem (ak s) k (dfl (.int .i64)) (by rw [hp2];exact hk))
 refine ab (fun h2=>?_) (fun h2=>?_)
 ·have hne:s.names≠[]:=by intro e;rw [e] at h2;simp at h2
  have ho1:s.names.length=s.parts.length/\s.names.Nodup:=by
   have:=hor.1;unfold cU at this;simpa [hne] using this
  refine ⟨⟨by rw [cP],?_,fun x hx=>?_,ho1.2,by rw [cP];omega⟩,⟨0,by omega,rfl,by simp,by simp,?_,by simp,rfl⟩,?_⟩
  ·rw [Ne,hr];intro e;rw [e] at ho1;exact hne (List.length_eq_zero_iff.1 (by simpa using ho1.1))
  ·rw [ho1.1];exact kj.1 hx
  ·unfold ak eX bK;rw [if_neg hne]
  ·rintro k hk2
   refine ab (fun h=>?_) (fun h=>?_)
   ·replace h:=Xo h
    have hk3:k < s.parts.length:=by omega
    obtain ⟨a1,a2⟩:=at_ k hk3
    refine ⟨by omega,by omega,?_⟩
    rw [if_pos h2]
    have hi:((ak s).getD k (dfl (.int .i64))).toNat < s.parts.length:=by omega
    have f1:=dG (getD_mem s.parts _ (dfl (.st .shape)) hi)
    have f2:=ew hor.2 (getD_mem s.parts _ (dfl (.st .shape)) hi)
    have t1:=qe (ak s) k (dfl (.int .i64)) (by rw [hp2];exact hk3)
    have t2:List.map (fun i:Int=>(sortedL s.parts).getD i.toNat dt) (List.take (k+1) (ak s))=List.map (fun i:Int=>(sortedL s.parts).getD i.toNat dt) (List.take k (ak s))++[sortedS (s.parts.getD ((ak s).getD k (dfl (.int .i64))).toNat (dfl (.st .shape)))]:=by rw [t1,List.map_append,List.map_singleton,iz _ _ dt (dfl (.st .shape)) hi]
    have t3:List.map (fun i:Int=>s.names.getD i.toNat []) (List.take (k+1) (ak s))=List.map (fun i:Int=>s.names.getD i.toNat []) (List.take k (ak s))++[s.names.getD ((ak s).getD k (dfl (.int .i64))).toNat []]:=by rw [t1,List.map_append,List.map_singleton]
    have tl:(List.take k (ak s)).length=k:=by rw [List.length_take,hp2];omega
    refine ⟨⟨a1,by omega⟩,?_,⟨a1,a2⟩,⟨by omega,f2⟩,⟨by rw [List.length_map,tl],by rw [List.length_map,tl];simp only [List.length_singleton];omega⟩,bg hk3 ln,k+1,by omega,by omega,by omega,?_,t2.symm,?_,?_⟩
    ·rw [if_neg hne,List.length_map,tl];simp only [List.length_singleton];omega
    ·rw [if_neg hne,if_neg hne,t3];rfl
    ·rw [if_neg hne,if_neg hne,t3];rfl
    ·rw [List.length_append,List.length_map,tl];rfl
   ·replace h:¬((k:Int) < (s.parts.length:Int)):=fun e=>h (Xd e)
    have e:k=s.parts.length:=by omega
    subst e
    rw [←hp2,List.take_length,if_neg hne]
    obtain ⟨kk,pp,nn,ns,ps⟩:=s
    simp only [sortedS]
    rw [if_neg hne]
    exact ⟨trivial,trivial,trivial,rfl,trivial⟩
 ·have hne:s.names=[]:=by
   refine Classical.byContradiction fun hc=>h2 (Xd ?_)
   have:=List.length_pos_iff.2 hc
   omega
  have hpl:ak s=bD s.parts.length:=by unfold ak;rw [if_pos hne]
  simp only [hne,if_true,List.length_nil,List.length_singleton]
  refine ⟨⟨0,by omega,rfl,trivial,by simp,hpl.symm,trivial,rfl⟩,?_⟩
  rintro k hk2
  refine ab (fun h=>?_) (fun h=>?_)
  ·replace h:=Xo h
   have hk3:k < s.parts.length:=by omega
   obtain ⟨a1,a2⟩:=at_ k hk3
   refine ⟨by omega,by omega,?_⟩
   rw [if_neg (by simp)]
   have hi:((ak s).getD k (dfl (.int .i64))).toNat < s.parts.length:=by omega
   have f1:=dG (getD_mem s.parts _ (dfl (.st .shape)) hi)
   have f2:=ew hor.2 (getD_mem s.parts _ (dfl (.st .shape)) hi)
   have t1:=qe (ak s) k (dfl (.int .i64)) (by rw [hp2];exact hk3)
   have t2:List.map (fun i:Int=>(sortedL s.parts).getD i.toNat dt) (List.take (k+1) (ak s))=List.map (fun i:Int=>(sortedL s.parts).getD i.toNat dt) (List.take k (ak s))++[sortedS (s.parts.getD ((ak s).getD k (dfl (.int .i64))).toNat (dfl (.st .shape)))]:=by rw [t1,List.map_append,List.map_singleton,iz _ _ dt (dfl (.st .shape)) hi]
   have tl:(List.take k (ak s)).length=k:=by rw [List.length_take,hp2];omega
   exact ⟨⟨a1,a2⟩,⟨by omega,f2⟩,⟨by rw [List.length_map,tl],by rw [List.length_map,tl];omega⟩,bg hk3 ln,k+1,by omega,by omega,by omega,trivial,t2.symm,trivial,by rw [List.length_append,List.length_map,tl];rfl⟩
  ·replace h:¬((k:Int) < (s.parts.length:Int)):=fun e=>h (Xd e)
   have e:k=s.parts.length:=by omega
   subst e
   rw [←hp2,List.take_length]
   obtain ⟨kk,pp,nn,ns,ps⟩:=s
   simp only at hne
   subst hne
   simp only [sortedS,if_true]
   exact ⟨trivial,trivial,trivial,trivial,trivial⟩
theorem Bc (s:Shape)  :
  if (!decide (sz s<=(400:Nat)))=true then True/\(3:Int)=ax s/\True else if decide ((40:Int) < if sz s<=(400:Nat) then deepS s (1:Int) else (0:Int))=true then True/\(91:Int)=ax s/\True else sz s<=(400:Nat)/\if (!allS aq s)=true then True/\(70:Int)=ax s/\True else True/\(0:Int)=ax s/\True:=by
 unfold ax
 by_cases h1:sz s<=400
 ·rw [if_neg (by simp [h1]),if_pos h1,if_neg (show ¬400 < sz s by omega)]
  by_cases h2:(40:Int) < deepS s 1
  ·rw [if_pos (by simp [h2]),if_pos h2];exact ⟨trivial,rfl,trivial⟩
  ·rw [if_neg (by simp [h2]),if_neg h2]
   refine ⟨h1,?_⟩
   cases allS aq s <;> simp
 ·rw [if_pos (by simp [h1]),if_pos (show 400 < sz s by omega)];exact ⟨trivial,rfl,trivial⟩
theorem Cy (s:Shape)  :
  if (!decide (ax s=(0:Int)))=true then True/\s=aM s/\True else (sz s<=(400:Nat)/\allS cU s=true)/\True/\sortedS s=aM s/\True:=by
 unfold aM
 by_cases h:ax s=0
 ·rw [if_neg (by simp [h]),if_pos h]
  exact ⟨⟨(cK h).1,oy h⟩,trivial,rfl,trivial⟩
 ·rw [if_pos (by simp [h]),if_neg h];exact ⟨trivial,rfl,trivial⟩
theorem Cz (n:Nat) (s:Shape) (m:Int) (hs:Wf (.st .shape) s) (ho:sz s<=n+1/\0<=m/\m<=1000000) :
  (∃(x:Nat × Int),(x.1<=List.length s.parts/\(1:Int)<=x.2/\x.2<=m+(1:Int)/\sizeL (List.drop x.1 s.parts) x.2 m=sizeF s m)/\(1:Int)=x.2/\(0:Int)=(↑x.1:Int)/\s=s/\m=m/\(0:Int)=(0:Int)/\s=s/\True)/\∀(x:Nat × Int),x.1<=List.length s.parts/\(1:Int)<=x.2/\x.2<=m+(1:Int)/\sizeL (List.drop x.1 s.parts) x.2 m=sizeF s m→if decide ((↑x.1:Int) < (↑(List.length s.parts):Int))=true then if decide (x.2<=m)=true then ((0:Int)<=(↑x.1:Int)/\(↑x.1:Int) < (↑(List.length s.parts):Int))/\inR IntKind.i64 (m - x.2)/\(sz (List.getD s.parts (Int.toNat (↑x.1:Int)) (dfl (Ty.st SN.shape)))<=n/\(0:Int)<=m - x.2/\m - x.2<=(1000000:Int))/\inR IntKind.i64 (x.2+sizeF (List.getD s.parts (Int.toNat (↑x.1:Int)) (dfl (Ty.st SN.shape))) (m - x.2))/\inR IntKind.i64 ((↑x.1:Int)+(1:Int))/\∃(y:Nat × Int),(y.1<=List.length s.parts/\(1:Int)<=y.2/\y.2<=m+(1:Int)/\sizeL (List.drop y.1 s.parts) y.2 m=sizeF s m)/\List.length s.parts - y.1 < List.length s.parts - x.1/\x.2+sizeF (List.getD s.parts (Int.toNat (↑x.1:Int)) (dfl (Ty.st SN.shape))) (m - x.2)=y.2/\(↑x.1:Int)+(1:Int)=(↑y.1:Int)/\s=s/\m=m/\(0:Int)=(0:Int)/\s=s/\True else True/\x.2=sizeF s m/\True else True/\x.2=sizeF s m/\True:=by
 have ln:=hs.parts.len
 have hz:=gV s
 obtain ⟨ho1,ho2,ho3⟩:=ho
 have h0:sizeL s.parts 1 m=sizeF s m:=by cases s;rfl
 simp only [Int.toNat_natCast,eq_self,true_and,and_true]
 refine ⟨⟨(0,1),⟨Nat.zero_le _,by omega,by omega,h0⟩,rfl,rfl⟩,?_⟩
 rintro ⟨k,c⟩ ⟨h1,h2,h3,h4⟩
 simp only at h1 h2 h3 h4 ⊢
 refine ab (fun hk=>?_) (fun hk=>?_)
 ·replace hk:=Xo hk
  have hk:k < s.parts.length:=by omega
  have hm:=dG (getD_mem s.parts k (dfl (.st .shape)) hk)
  rw [aH s.parts k (dfl (.st .shape)) hk] at h4
  simp only [sizeL] at h4
  refine ab (fun hc=>?_) (fun hc=>?_)
  ·replace hc:=Xo hc
   rw [if_pos hc] at h4
   have hb:=sizeF_bd (s.parts.getD k (dfl (.st .shape))) (m - c) (by omega)
   exact ⟨by omega,bJ (by omega) (by omega),by omega,bJ (by omega) (by omega),bg hk ln,(k+1,_),⟨by omega,by simp only;omega,by simp only;omega,h4⟩,by simp only;omega,rfl,rfl⟩
  ·rw [if_neg (fun e=>hc (Xd e))] at h4
   exact h4
 ·replace hk:¬((k:Int) < (s.parts.length:Int)):=fun e=>hk (Xd e)
  have e:k=s.parts.length:=by omega
  subst e
  rw [List.drop_length] at h4
  exact h4
theorem zc (n:Nat) (a b:Shape) (ha:Wf (.st .shape) a) (hb:Wf (.st .shape) b) (hn:sz a<=n+1) :
  if (!decide (a.kind=b.kind))=true then True/\false=eqS a b/\True else if (!decide (a.pkg=b.pkg))=true then True/\false=eqS a b/\True else if (!decide (a.name=b.name))=true then True/\false=eqS a b/\True else if (!decide ((↑(List.length a.names):Int)=(↑(List.length b.names):Int)))=true then True/\false=eqS a b/\True else if (!decide ((↑(List.length a.parts):Int)=(↑(List.length b.parts):Int)))=true then True/\false=eqS a b/\True else (∃(x:Nat),(x<=List.length a.names/\List.length a.names=List.length b.names/\List.length a.parts=List.length b.parts/\eqS a b=(decide (List.drop x a.names=List.drop x b.names) && eqL a.parts b.parts))/\(0:Int)=(↑x:Int)/\a=a/\b=b/\false=false/\a=a/\b=b/\True)/\∀(x:Nat),x<=List.length a.names/\List.length a.names=List.length b.names/\List.length a.parts=List.length b.parts/\eqS a b=(decide (List.drop x a.names=List.drop x b.names) && eqL a.parts b.parts)→if decide ((↑x:Int) < (↑(List.length a.names):Int))=true then ((0:Int)<=(↑x:Int)/\(↑x:Int) < (↑(List.length a.names):Int))/\((0:Int)<=(↑x:Int)/\(↑x:Int) < (↑(List.length b.names):Int))/\if (!decide (List.getD a.names (Int.toNat (↑x:Int)) (dfl Ty.str)=List.getD b.names (Int.toNat (↑x:Int)) (dfl Ty.str)))=true then True/\false=eqS a b/\True else inR IntKind.i64 ((↑x:Int)+(1:Int))/\∃(y:Nat),(y<=List.length a.names/\List.length a.names=List.length b.names/\List.length a.parts=List.length b.parts/\eqS a b=(decide (List.drop y a.names=List.drop y b.names) && eqL a.parts b.parts))/\List.length a.names - y < List.length a.names - x/\(↑x:Int)+(1:Int)=(↑y:Int)/\a=a/\b=b/\false=false/\a=a/\b=b/\True else (∃(x_1:Nat),(x_1<=List.length a.parts/\List.length a.parts=List.length b.parts/\eqS a b=eqL (List.drop x_1 a.parts) (List.drop x_1 b.parts))/\(0:Int)=(↑x_1:Int)/\(↑x:Int)=(↑x:Int)/\a=a/\b=b/\false=false/\false=false/\a=a/\b=b/\True)/\∀(x_1:Nat),x_1<=List.length a.parts/\List.length a.parts=List.length b.parts/\eqS a b=eqL (List.drop x_1 a.parts) (List.drop x_1 b.parts)→if decide ((↑x_1:Int) < (↑(List.length a.parts):Int))=true then ((0:Int)<=(↑x_1:Int)/\(↑x_1:Int) < (↑(List.length a.parts):Int))/\((0:Int)<=(↑x_1:Int)/\(↑x_1:Int) < (↑(List.length b.parts):Int))/\sz (List.getD a.parts (Int.toNat (↑x_1:Int)) (dfl (Ty.st SN.shape)))<=n/\if (!eqS (List.getD a.parts (Int.toNat (↑x_1:Int)) (dfl (Ty.st SN.shape))) (List.getD b.parts (Int.toNat (↑x_1:Int)) (dfl (Ty.st SN.shape))))=true then True/\false=eqS a b/\True else inR IntKind.i64 ((↑x_1:Int)+(1:Int))/\∃(y:Nat),(y<=List.length a.parts/\List.length a.parts=List.length b.parts/\eqS a b=eqL (List.drop y a.parts) (List.drop y b.parts))/\List.length a.parts - y < List.length a.parts - x_1/\(↑x_1:Int)+(1:Int)=(↑y:Int)/\(↑x:Int)=(↑x:Int)/\a=a/\b=b/\false=false/\false=false/\a=a/\b=b/\True else True/\true=eqS a b/\True:=by
 have lna:=ha.names.len
 have lpa:=ha.parts.len
 have hz:=gV a
 have he:eqS a b=(decide (a.kind=b.kind) && decide (a.pkg=b.pkg) && decide (a.name=b.name) && decide (a.names=b.names) && eqL a.parts b.parts):=by cases a;cases b;rfl
 simp only [Int.toNat_natCast,eq_self,true_and,and_true]
 refine ab (fun h=>?_) (fun h1=>ab (fun h=>?_) (fun h2=>ab (fun h=>?_) (fun h3=>ab (fun h=>?_) (fun h4=>ab (fun h=>?_) (fun h5=>?_)))))
 ·rw [he];simp only [Bool.not_eq_true'] at h;rw [h];simp
 ·rw [he];simp only [Bool.not_eq_true'] at h;rw [h];simp
 ·rw [he];simp only [Bool.not_eq_true'] at h;rw [h];simp
 ·have:¬a.names=b.names:=by intro e;rw [e] at h;simp at h
  rw [he];simp [this]
 ·have:a.parts.length≠b.parts.length:=by intro e;rw [e] at h;simp at h
  rw [he,xr this];simp
 have l4:a.names.length=b.names.length:=by simp at h4;omega
 have l5:a.parts.length=b.parts.length:=by simp at h5;omega
 have he':eqS a b=(decide (a.names=b.names) && eqL a.parts b.parts):=by
  rw [he];simp only [Bool.not_eq_true,Bool.not_eq_false'] at h1 h2 h3;rw [h1,h2,h3];simp
 refine ⟨⟨0,⟨Nat.zero_le _,l4,l5,by simpa using he'⟩,rfl⟩,?_⟩
 rintro k ⟨k1,_,_,k4⟩
 refine ab (fun h=>?_) (fun h=>?_)
 ·replace h:=Xo h
  have hk:k < a.names.length:=by omega
  have hk':k < b.names.length:=by omega
  rw [aH a.names k (dfl .str) hk,aH b.names k (dfl .str) hk'] at k4
  refine ⟨by omega,by omega,ab (fun c=>?_) (fun c=>?_)⟩
  ·have c':¬a.names.getD k (dfl .str)=b.names.getD k (dfl .str):=by simpa using c
   rw [k4]
   have:¬(a.names.getD k (dfl .str) ::a.names.drop (k+1)=b.names.getD k (dfl .str) ::b.names.drop (k+1)):=fun e=>c' (List.cons.inj e).1
   simp only [this,decide_false,Bool.false_and]
  ·have c':a.names.getD k (dfl .str)=b.names.getD k (dfl .str):=by simpa using c
   refine ⟨bg hk lna,k+1,⟨by omega,l4,l5,?_⟩,by omega,by omega⟩
   rw [k4,c']
   congr 1
   rw [decide_eq_decide]
   simp
 ·replace h:¬((k:Int) < (a.names.length:Int)):=fun e=>h (Xd e)
  have e:k=a.names.length:=by omega
  subst e
  have k4':eqS a b=eqL a.parts b.parts:=by rw [k4,List.drop_length,l4,List.drop_length];simp
  refine ⟨⟨0,⟨Nat.zero_le _,l5,by simpa using k4'⟩,rfl⟩,?_⟩
  rintro j ⟨j1,_,j3⟩
  refine ab (fun h=>?_) (fun h=>?_)
  ·replace h:=Xo h
   have hj:j < a.parts.length:=by omega
   have hj':j < b.parts.length:=by omega
   have hm:=dG (getD_mem a.parts j (dfl (.st .shape)) hj)
   rw [aH a.parts j (dfl (.st .shape)) hj,aH b.parts j (dfl (.st .shape)) hj'] at j3
   simp only [eqL] at j3
   refine ⟨by omega,by omega,by omega,ab (fun c=>?_) (fun c=>?_)⟩
   ·have c':eqS (a.parts.getD j (dfl (.st .shape))) (b.parts.getD j (dfl (.st .shape)))=false:=by simpa using c
    rw [j3,c'];rfl
   ·have c':eqS (a.parts.getD j (dfl (.st .shape))) (b.parts.getD j (dfl (.st .shape)))=true:=by simpa using c
    rw [c',Bool.true_and] at j3
    exact ⟨bg hj lpa,j+1,⟨by omega,l5,j3⟩,by omega,by omega⟩
  ·replace h:¬((j:Int) < (a.parts.length:Int)):=fun e=>h (Xd e)
   have e:j=a.parts.length:=by omega
   subst e
   rw [j3,List.drop_length,l5,List.drop_length];rfl
theorem zd (l:List Bndg) (N:Nat) (hl:Wf (.lst (.st .bind)) l) (hN:∀x∈l,sz x.shape<=N) :
  if decide ((60:Int) < (↑(List.length l):Int))=true then True/\false=gd l/\True else (∃(x:Nat),(x<=List.length l/\my (List.drop x l)=gd l)/\(0:Int)=(↑x:Int)/\l=l/\false=false/\True)/\∀(x:Nat),x<=List.length l/\my (List.drop x l)=gd l→if decide ((↑x:Int) < (↑(List.length l):Int))=true then ((0:Int)<=(↑x:Int)/\(↑x:Int) < (↑(List.length l):Int))/\(sz (List.getD l (Int.toNat (↑x:Int)) (dfl (Ty.st SN.bind))).shape<=N/\(0:Int)<=(800:Int)/\(800:Int)<=(1000000:Int))/\if decide ((800:Int) < sizeF (List.getD l (Int.toNat (↑x:Int)) (dfl (Ty.st SN.bind))).shape (800:Int))=true then True/\false=gd l/\True else inR IntKind.i64 ((↑x:Int)+(1:Int))/\∃(y:Nat),(y<=List.length l/\my (List.drop y l)=gd l)/\List.length l - y < List.length l - x/\(↑x:Int)+(1:Int)=(↑y:Int)/\l=l/\false=false/\True else True/\true=gd l/\True:=by
 have ln:=hl.len
 simp only [Int.toNat_natCast,eq_self,true_and,and_true]
 refine ab (fun h=>?_) (fun h=>?_)
 ·unfold gd
  rw [if_pos (Xo h)]
 have h:¬(60:Int) < (l.length:Int):=fun e=>h (Xd e)
 have hF:gd l=my l:=by unfold gd;rw [if_neg h]
 refine ⟨⟨0,⟨Nat.zero_le _,by rw [List.drop_zero,hF]⟩,rfl⟩,?_⟩
 rintro k ⟨h1,h2⟩
 refine ab (fun hk=>?_) (fun hk=>?_)
 ·replace hk:=Xo hk
  have hk:k < l.length:=by omega
  have hm:=hN _ (getD_mem l k (dfl (.st .bind)) hk)
  rw [aH l k (dfl (.st .bind)) hk,my] at h2
  refine ⟨by omega,⟨hm,by omega,by omega⟩,ab (fun hc=>?_) (fun hc=>?_)⟩
  ·rw [if_pos (Xo hc)] at h2
   exact h2
  ·rw [if_neg (fun e=>hc (Xd e))] at h2
   exact ⟨bg hk ln,k+1,⟨by omega,h2⟩,by omega,by omega⟩
 ·have e:k=l.length:=by
   have:¬((k:Int) < (l.length:Int)):=fun e=>hk (Xd e)
   omega
  subst e
  rw [List.drop_length] at h2
  exact h2
theorem w8 (e:Envt) (he:Wf (.st .env) e) :
  if gd e.types=true then if gd e.values=true then True/\gd e.own=iE e/\True else True/\false=iE e/\True else True/\false=iE e/\True:=by
 unfold iE
 cases gd e.types <;> cases gd e.values <;> cases gd e.own <;> simp
theorem CA (e:Envt) (l:List Bndg) (he:Wf (.st .env) e) (hl:Wf (.lst (.st .bind)) l) (ho:e.values.length<=1000000000/\l.length<=1000) :
  List.length e.values *(120:Nat)<=(140737488355328:Nat)/\(List.length e.values=List.length e.values/\(List.length e.values+List.length l) *(120:Nat)<=(140737488355328:Nat))/\True/\e.self=(bA e l).self/\e.types=(bA e l).types/\e.values++l=e.values++l/\e.own=(bA e l).own/\True:=by
 obtain ⟨h1,h2⟩:=ho
 exact ⟨by omega,⟨rfl,by omega⟩,trivial,rfl,rfl,rfl,rfl,trivial⟩
theorem ze (n:Nat) (t:Trm) (m:Int) (hs:Wf (.st .term) t) (hz:szT t<=n+1) (h0:0<=m) (h1:m<=1000000) :
  (∃(x:Nat × Int × Int),(x.1<=List.length t.parts/\(1:Int)<=x.2.1/\x.2.1<=m+(1:Int)/\(0:Int)<=x.2.2/\x.2.2+(1:Int)<=x.2.1/\countL (List.drop x.1 t.parts) m x.2.1 x.2.2=countL t.parts m (1:Int) (0:Int))/\(1:Int)=x.2.1/\(0:Int)=x.2.2/\(0:Int)=(↑x.1:Int)/\t=t/\m=m/\(0:Int)=(0:Int)/\(0:Int)=(0:Int)/\t.parts=t.parts/\(↑(List.length t.parts):Int)=(↑(List.length t.parts):Int)/\t=t/\True)/\∀(x:Nat × Int × Int),x.1<=List.length t.parts/\(1:Int)<=x.2.1/\x.2.1<=m+(1:Int)/\(0:Int)<=x.2.2/\x.2.2+(1:Int)<=x.2.1/\countL (List.drop x.1 t.parts) m x.2.1 x.2.2=countL t.parts m (1:Int) (0:Int)→if decide ((↑x.1:Int) < (↑(List.length t.parts):Int))=true then ((0:Int)<=(↑x.1:Int)/\(↑x.1:Int) < (↑(List.length t.parts):Int))/\if decide (m < x.2.1)=true then inR IntKind.i64 (x.2.2+(1:Int))/\True/\x.2.1=(countT t m).1/\x.2.2+(1:Int)=(countT t m).2/\True else inR IntKind.i64 (m - x.2.1)/\(szT (List.getD t.parts (Int.toNat (↑x.1:Int)) (dfl (Ty.st SN.term)))<=n/\(0:Int)<=m - x.2.1/\m - x.2.1<=(1000000:Int))/\inR IntKind.i64 (x.2.1+(countT (List.getD t.parts (Int.toNat (↑x.1:Int)) (dfl (Ty.st SN.term))) (m - x.2.1)).1)/\inR IntKind.i64 ((↑x.1:Int)+(1:Int))/\∃(y:Nat × Int × Int),(y.1<=List.length t.parts/\(1:Int)<=y.2.1/\y.2.1<=m+(1:Int)/\(0:Int)<=y.2.2/\y.2.2+(1:Int)<=y.2.1/\countL (List.drop y.1 t.parts) m y.2.1 y.2.2=countL t.parts m (1:Int) (0:Int))/\List.length t.parts - y.1 < List.length t.parts - x.1/\x.2.1+(countT (List.getD t.parts (Int.toNat (↑x.1:Int)) (dfl (Ty.st SN.term))) (m - x.2.1)).1=y.2.1/\max x.2.2 (countT (List.getD t.parts (Int.toNat (↑x.1:Int)) (dfl (Ty.st SN.term))) (m - x.2.1)).2=y.2.2/\(↑x.1:Int)+(1:Int)=(↑y.1:Int)/\t=t/\m=m/\(0:Int)=(0:Int)/\(0:Int)=(0:Int)/\t.parts=t.parts/\(↑(List.length t.parts):Int)=(↑(List.length t.parts):Int)/\t=t/\True else inR IntKind.i64 (x.2.2+(1:Int))/\True/\x.2.1=(countT t m).1/\x.2.2+(1:Int)=(countT t m).2/\True:=by
 have ln:=hs.term_parts.len
 rw [yA]
 refine ⟨⟨(0,1,0),⟨Nat.zero_le _,by decide,by show (1:Int)<=m+1;omega,by decide,by decide,rfl⟩,rfl,rfl,rfl,?_⟩,?_⟩
 ·exact Xr
 rintro ⟨k,a,d⟩ ⟨h1,h2,h3,h4,h5,h6⟩
 simp only [Int.toNat_natCast] at h1 h2 h3 h4 h5 h6 ⊢
 refine ab (fun h=>?_) (fun h=>?_)
 ·replace h:=Xo h
  have hk:k < t.parts.length:=by omega
  rw [aH t.parts k (dfl (.st .term)) hk,countL] at h6
  refine ⟨by omega,ab (fun c=>?_) (fun c=>?_)⟩
  ·replace c:=Xo c
   rw [if_pos c] at h6
   rw [←h6]
   refine ⟨bJ (by omega) (by omega),?_⟩
   exact Xr
  ·replace c:¬m < a:=fun e=>c (Xd e)
   rw [if_neg c] at h6
   have hm:=szT_mem (getD_mem t.parts k (dfl (.st .term)) hk)
   have he:=szT_eq t
   have hb:=countT_bound (t.parts.getD k (dfl (.st .term))) (m - a) (by omega)
   refine ⟨bJ (by omega) (by omega),⟨by omega,by omega,by omega⟩,bJ (by omega) (by omega),bg hk ln,(k+1,_,_),⟨by show k+1<=_;omega,?_,?_,?_,?_,h6⟩,by show _ - (k+1) < _;omega,rfl,rfl,by show _=((k+1:Nat):Int);omega,?_⟩
   ·show (1:Int)<=a+_;omega
   ·show a+_<=m+1;omega
   ·show (0:Int)<=max d _;omega
   ·show max d _+1<=a+_;omega
   exact Xr
 ·replace h:¬((k:Int) < (t.parts.length:Int)):=fun e=>h (Xd e)
  have e:k=t.parts.length:=by omega
  subst e
  rw [List.drop_length,countL] at h6
  rw [←h6]
  refine ⟨bJ (by omega) (by omega),?_⟩
  exact Xr
theorem w9  (x:Str)  :
  True/\(!aY x)=!aY x/\True:=by
 exact ⟨trivial,by trivial,trivial⟩
theorem wa  (l:List Str)  (hl:Wf (.lst .str) l) :
  (∃(x:Nat),(x<=List.length l/\bp aY (List.drop x l) x=bp aY l (0:Nat))/\(0:Int)=(↑x:Int)/\l=l/\(↑(List.length l):Int)=(↑(List.length l):Int)/\True)/\∀(x:Nat),x<=List.length l/\bp aY (List.drop x l) x=bp aY l (0:Nat)→if decide ((↑x:Int) < (↑(List.length l):Int))=true then ((0:Int)<=(↑x:Int)/\(↑x:Int) < (↑(List.length l):Int))/\if (!aY (List.getD l (Int.toNat (↑x:Int)) (dfl Ty.str)))=true then True/\(↑x:Int)=bp aY l (0:Nat)/\True else inR IntKind.i64 ((↑x:Int)+(1:Int))/\∃(y:Nat),(y<=List.length l/\bp aY (List.drop y l) y=bp aY l (0:Nat))/\List.length l - y < List.length l - x/\(↑x:Int)+(1:Int)=(↑y:Int)/\l=l/\(↑(List.length l):Int)=(↑(List.length l):Int)/\True else True/\(-1:Int)=bp aY l (0:Nat)/\True:=by
 have ln:=hl.len
 simp only [Int.toNat_natCast]
 refine ⟨⟨0,⟨Nat.zero_le _,by simp⟩,rfl,by trivial,by trivial,trivial⟩,?_⟩
 rintro k ⟨h1,h2⟩
 refine ab (fun h=>?_) (fun h=>?_)
 ·replace h:=Xo h
  have hk:k < l.length:=by omega
  rw [aH l k (dfl .str) hk,bp] at h2
  refine ⟨by omega,ab (fun c=>?_) (fun c=>?_)⟩
  ·have c:aY (l.getD k (dfl .str))=false:=by simpa using c
   rw [c,if_neg Bool.false_ne_true] at h2
   rw [←h2]
   exact ⟨trivial,rfl,trivial⟩
  ·have c:aY (l.getD k (dfl .str))=true:=by simpa using c
   rw [if_pos c] at h2
   refine ⟨bg hk ln,k+1,⟨by omega,h2⟩,by omega,by omega,by trivial,by trivial,trivial⟩
 ·replace h:¬((k:Int) < (l.length:Int)):=fun e=>h (Xd e)
  have e:k=l.length:=by omega
  subst e
  rw [List.drop_length,bp] at h2
  rw [←h2]
  exact ⟨trivial,rfl,trivial⟩
theorem wb  (l:List Str)  :
  True/\decide ((0:Int)<=bp aY l (0:Nat))=!List.all l aY/\True:=by
 exact ⟨trivial,gW aY l 0,trivial⟩
theorem Bd  (l:List Str)  :
  True/\(!!List.all l aY)=List.all l aY/\True:=by
 exact ⟨trivial,Bool.not_not _,trivial⟩
theorem Be (l:List Str) (ho:l.length *16<=140737488355328) :
  List.length l *(16:Nat)<=(140737488355328:Nat)/\if List.all l aY=true then List.length (List.mergeSort l fun (x y:Str) ↦decide (x<=y))=List.length (List.mergeSort l fun (x y:Str) ↦decide (x<=y))/\True/\decide ((↑(List.length (Lib.compact (List.mergeSort l fun (x y:Str) ↦decide (x<=y)))):Int)=(↑(List.length l):Int))=(List.all l aY && decide (List.Nodup l))/\True else True/\false=(List.all l aY && decide (List.Nodup l))/\True:=by
 have hc:=jg l
 unfold ek at hc
 refine ⟨ho,ab (fun h=>?_) (fun h=>?_)⟩
 ·refine ⟨by trivial,trivial,?_,trivial⟩
  rw [h,Bool.true_and,decide_eq_decide,←hc]
  omega
 ·have h:l.all aY=false:=by simpa using h
  exact ⟨trivial,by rw [h];rfl,trivial⟩
theorem wc (n:Nat) (x:Shape)  (ho:sz x<=n) :
  sz x<=n/\True/\(!allS bk x)=!allS bk x/\True:=by
 exact ⟨ho,trivial,by trivial,trivial⟩
theorem we (n:Nat) (l:List Shape)  (hl:Wf (.lst (.st .shape)) l) (ho:∀x∈l,sz x<=n) :
  (∃(x:Nat),(x<=List.length l/\bp (allS bk) (List.drop x l) x=bp (allS bk) l (0:Nat))/\(0:Int)=(↑x:Int)/\l=l/\(↑(List.length l):Int)=(↑(List.length l):Int)/\True)/\∀(x:Nat),x<=List.length l/\bp (allS bk) (List.drop x l) x=bp (allS bk) l (0:Nat)→if decide ((↑x:Int) < (↑(List.length l):Int))=true then ((0:Int)<=(↑x:Int)/\(↑x:Int) < (↑(List.length l):Int))/\sz (List.getD l (Int.toNat (↑x:Int)) (dfl (Ty.st SN.shape)))<=n/\if (!allS bk (List.getD l (Int.toNat (↑x:Int)) (dfl (Ty.st SN.shape))))=true then True/\(↑x:Int)=bp (allS bk) l (0:Nat)/\True else inR IntKind.i64 ((↑x:Int)+(1:Int))/\∃(y:Nat),(y<=List.length l/\bp (allS bk) (List.drop y l) y=bp (allS bk) l (0:Nat))/\List.length l - y < List.length l - x/\(↑x:Int)+(1:Int)=(↑y:Int)/\l=l/\(↑(List.length l):Int)=(↑(List.length l):Int)/\True else True/\(-1:Int)=bp (allS bk) l (0:Nat)/\True:=by
 have ln:=hl.len
 simp only [Int.toNat_natCast]
 refine ⟨⟨0,⟨Nat.zero_le _,by simp⟩,rfl,by trivial,by trivial,trivial⟩,?_⟩
 rintro k ⟨h1,h2⟩
 refine ab (fun h=>?_) (fun h=>?_)
 ·replace h:=Xo h
  have hk:k < l.length:=by omega
  rw [aH l k (dfl (.st .shape)) hk,bp] at h2
  refine ⟨by omega,ho _ (getD_mem l k _ hk),ab (fun c=>?_) (fun c=>?_)⟩
  ·have c:(allS bk) (l.getD k (dfl (.st .shape)))=false:=by simpa using c
   rw [c,if_neg Bool.false_ne_true] at h2
   rw [←h2]
   exact ⟨trivial,rfl,trivial⟩
  ·have c:(allS bk) (l.getD k (dfl (.st .shape)))=true:=by simpa using c
   rw [if_pos c] at h2
   refine ⟨bg hk ln,k+1,⟨by omega,h2⟩,by omega,by omega,by trivial,by trivial,trivial⟩
 ·replace h:¬((k:Int) < (l.length:Int)):=fun e=>h (Xd e)
  have e:k=l.length:=by omega
  subst e
  rw [List.drop_length,bp] at h2
  rw [←h2]
  exact ⟨trivial,rfl,trivial⟩
theorem wg (n:Nat) (l:List Shape)  (ho:∀x∈l,sz x<=n) :
  (∀(x:Shape),x∈l→sz x<=n)/\True/\decide ((0:Int)<=bp (allS bk) l (0:Nat))=!List.all l (allS bk)/\True:=by
 exact ⟨ho,trivial,gW (allS bk) l 0,trivial⟩
theorem Bf (n:Nat) (l:List Shape)  (ho:∀x∈l,sz x<=n) :
  (∀(x:Shape),x∈l→sz x<=n)/\True/\(!!List.all l (allS bk))=List.all l (allS bk)/\True:=by
 exact ⟨ho,trivial,Bool.not_not _,trivial⟩
theorem CB (n:Nat) (s:Shape) (ho:sz s<=n+1) :
  if (!decide (s.kind=(10:Int)))=true then (∀(x:Shape),x∈s.parts→sz x<=n)/\True/\List.all s.parts (allS bk)=allS bk s/\True else True/\false=allS bk s/\True:=by
 have e0:allS bk s=(bk s && s.parts.all (allS bk)):=by rw [gr,kP]
 have h0:=gV s
 have hm:∀x∈s.parts,sz x<=n:=fun x hx=>by have:=dG hx;omega
 rw [e0]
 refine ab (fun h=>?_) (fun h=>?_)
 ·have h:bk s=true:=h
  rw [h,Bool.true_and]
  exact ⟨hm,trivial,rfl,trivial⟩
 ·have h:bk s=false:=by simpa [bk] using h
  rw [h]
  exact ⟨trivial,rfl,trivial⟩
theorem zf (s:Shape)  :
  if decide (ax s=(0:Int))=true then sz s<=(400:Nat)/\True/\allS bk s=(decide (ax s=(0:Int)) && allS bk s)/\True else True/\false=(decide (ax s=(0:Int)) && allS bk s)/\True:=by
 refine ab (fun h=>?_) (fun h=>?_)
 ·have h:ax s=0:=by simpa using h
  refine ⟨?_,trivial,by simp [h],trivial⟩
  unfold ax at h
  by_cases c:400 < sz s
  ·rw [if_pos c] at h;exact absurd h (by decide)
  ·omega
 ·have h:¬ax s=0:=by simpa using h
  exact ⟨trivial,by simp [h],trivial⟩
theorem Dv (t:Trm)  :
  True/\(↑(List.length t.names):Int)=(↑(List.length t.names):Int)/\(↑(List.length t.vars):Int)=(↑(List.length t.vars):Int)/\(↑(List.length t.shapes):Int)=(↑(List.length t.shapes):Int)/\(↑(List.length t.parts):Int)=(↑(List.length t.parts):Int)/\True:=by
 exact Xr
theorem Bg (s:Str) (hs:Wf .str s) :
  (∃(x:Nat),(x<=List.length s/\List.all s eB=List.all (List.drop x s) eB)/\(0:Int)=(↑x:Int)/\s=s/\bh s=bh s/\(↑(List.length (bh s)):Int)=(↑(List.length (bh s)):Int)/\True)/\∀(x:Nat),x<=List.length s/\List.all s eB=List.all (List.drop x s) eB→if decide ((↑x:Int) < (↑(List.length (bh s)):Int))=true then ((0:Int)<=(↑x:Int)/\(↑x:Int) < (↑(List.length (bh s)):Int))/\if decide (List.getD (bh s) (Int.toNat (↑x:Int)) (dfl (Ty.int IntKind.u8)) < (32:Int))=true then if (!decide (List.getD (bh s) (Int.toNat (↑x:Int)) (dfl (Ty.int IntKind.u8))=(10:Int)))=true then if (!decide (List.getD (bh s) (Int.toNat (↑x:Int)) (dfl (Ty.int IntKind.u8))=(9:Int)))=true then True/\false=oI s/\True else inR IntKind.i64 ((↑x:Int)+(1:Int))/\∃(y:Nat),(y<=List.length s/\List.all s eB=List.all (List.drop y s) eB)/\List.length s - y < List.length s - x/\(↑x:Int)+(1:Int)=(↑y:Int)/\s=s/\bh s=bh s/\(↑(List.length (bh s)):Int)=(↑(List.length (bh s)):Int)/\True else inR IntKind.i64 ((↑x:Int)+(1:Int))/\∃(y:Nat),(y<=List.length s/\List.all s eB=List.all (List.drop y s) eB)/\List.length s - y < List.length s - x/\(↑x:Int)+(1:Int)=(↑y:Int)/\s=s/\bh s=bh s/\(↑(List.length (bh s)):Int)=(↑(List.length (bh s)):Int)/\True else inR IntKind.i64 ((↑x:Int)+(1:Int))/\∃(y:Nat),(y<=List.length s/\List.all s eB=List.all (List.drop y s) eB)/\List.length s - y < List.length s - x/\(↑x:Int)+(1:Int)=(↑y:Int)/\s=s/\bh s=bh s/\(↑(List.length (bh s)):Int)=(↑(List.length (bh s)):Int)/\True else True/\Option.isNone (oz s)=oI s/\True:=by
 have ln:=hs.str
 have hbl:(bh s).length=s.length:=List.length_map _
 simp only [hbl,Int.toNat_natCast]
 refine ⟨⟨0,⟨Nat.zero_le _,rfl⟩,?_⟩,?_⟩
 ·exact Xr
 rintro k ⟨h1,h2⟩
 refine ab (fun h=>?_) (fun h=>?_)
 ·have hk:k < s.length:=by have:=Xo h;omega
  rw [aH s k 0 hk,List.all_cons] at h2
  have hq:=yI (s.getD k 0)
  simp only [tC s k hk]
  have yes:¬(bI (s.getD k 0) < 32/\bI (s.getD k 0)≠10/\bI (s.getD k 0)≠9)→s.all eB=(s.drop (k+1)).all eB:=fun e=>by
   have:eB (s.getD k 0)=true:=by
    cases hh:eB (s.getD k 0) with
    | true=>rfl
    | false=>exact absurd (hq.1 hh) e
   rw [h2,this,Bool.true_and]
  refine ⟨⟨by omega,by omega⟩,?_⟩
  repeat' (refine ab (fun _=>?_) (fun _=>?_))
  all_goals (simp only [decide_eq_true_eq,Bool.not_eq_true',decide_eq_false_iff_not] at *)
  all_goals first
   | (refine ⟨trivial,?_,trivial⟩;unfold oI;rw [h2,hq.2 (by omega),Bool.false_and,Bool.false_and])
   | (refine ⟨bg hk ln,k+1,⟨by omega,yes (by omega)⟩,by omega,by omega,?_⟩;exact Xr)
 ·have hk:k=s.length:=by
   have:¬((k:Int) < (s.length:Int)):=fun e=>h (Xd e)
   omega
  refine ⟨trivial,?_,trivial⟩
  unfold oI
  rw [h2,hk,List.drop_length]
  rfl
theorem tO  (x:Shape)  :
  True/\(!(decide (ax x=(0:Int)) && allS bk x))=!bQ x/\True:=by
 exact ⟨trivial,by trivial,trivial⟩
theorem tP  (l:List Shape)  (hl:Wf (.lst (.st .shape)) l) :
  (∃(x:Nat),(x<=List.length l/\bp bQ (List.drop x l) x=bp bQ l (0:Nat))/\(0:Int)=(↑x:Int)/\l=l/\(↑(List.length l):Int)=(↑(List.length l):Int)/\True)/\∀(x:Nat),x<=List.length l/\bp bQ (List.drop x l) x=bp bQ l (0:Nat)→if decide ((↑x:Int) < (↑(List.length l):Int))=true then ((0:Int)<=(↑x:Int)/\(↑x:Int) < (↑(List.length l):Int))/\if (!bQ (List.getD l (Int.toNat (↑x:Int)) (dfl (Ty.st SN.shape))))=true then True/\(↑x:Int)=bp bQ l (0:Nat)/\True else inR IntKind.i64 ((↑x:Int)+(1:Int))/\∃(y:Nat),(y<=List.length l/\bp bQ (List.drop y l) y=bp bQ l (0:Nat))/\List.length l - y < List.length l - x/\(↑x:Int)+(1:Int)=(↑y:Int)/\l=l/\(↑(List.length l):Int)=(↑(List.length l):Int)/\True else True/\(-1:Int)=bp bQ l (0:Nat)/\True:=by
 have ln:=hl.len
 simp only [Int.toNat_natCast]
 refine ⟨⟨0,⟨Nat.zero_le _,by simp⟩,rfl,by trivial,by trivial,trivial⟩,?_⟩
 rintro k ⟨h1,h2⟩
 refine ab (fun h=>?_) (fun h=>?_)
 ·replace h:=Xo h
  have hk:k < l.length:=by omega
  rw [aH l k (dfl (.st .shape)) hk,bp] at h2
  refine ⟨by omega,ab (fun c=>?_) (fun c=>?_)⟩
  ·have c:bQ (l.getD k (dfl (.st .shape)))=false:=by simpa using c
   rw [c,if_neg Bool.false_ne_true] at h2
   rw [←h2]
   exact ⟨trivial,rfl,trivial⟩
  ·have c:bQ (l.getD k (dfl (.st .shape)))=true:=by simpa using c
   rw [if_pos c] at h2
   refine ⟨bg hk ln,k+1,⟨by omega,h2⟩,by omega,by omega,by trivial,by trivial,trivial⟩
 ·replace h:¬((k:Int) < (l.length:Int)):=fun e=>h (Xd e)
  have e:k=l.length:=by omega
  subst e
  rw [List.drop_length,bp] at h2
  rw [←h2]
  exact ⟨trivial,rfl,trivial⟩
theorem tQ  (l:List Shape)  :
  True/\decide ((0:Int)<=bp bQ l (0:Nat))=!List.all l bQ/\True:=by
 exact ⟨trivial,gW bQ l 0,trivial⟩
theorem zg  (l:List Shape)  :
  True/\(!!List.all l bQ)=List.all l bQ/\True:=by
 exact ⟨trivial,Bool.not_not _,trivial⟩
theorem Bh (t:Trm) (ht:Wf (.st .term) t) (ho:t.names.length<=8796093022208) :
  (if decide (t.pos < (0:Int))=true then true=!gw t/\t=t/\false=false/\t=t/\(↑(List.length t.names):Int)=(↑(List.length t.names):Int)/\(↑(List.length t.vars):Int)=(↑(List.length t.vars):Int)/\(↑(List.length t.shapes):Int)=(↑(List.length t.shapes):Int)/\(↑(List.length t.parts):Int)=(↑(List.length t.parts):Int)/\True else if (!decide (t.n=(0:Int)))=true then if (!decide (t.kind=(1:Int)))=true then true=!gw t/\t=t/\false=false/\t=t/\(↑(List.length t.names):Int)=(↑(List.length t.names):Int)/\(↑(List.length t.vars):Int)=(↑(List.length t.vars):Int)/\(↑(List.length t.shapes):Int)=(↑(List.length t.shapes):Int)/\(↑(List.length t.parts):Int)=(↑(List.length t.parts):Int)/\True else if (!decide (t.pkg=[]))=true then if (!decide (t.kind=(5:Int)))=true then true=!gw t/\t=t/\false=false/\t=t/\(↑(List.length t.names):Int)=(↑(List.length t.names):Int)/\(↑(List.length t.vars):Int)=(↑(List.length t.vars):Int)/\(↑(List.length t.shapes):Int)=(↑(List.length t.shapes):Int)/\(↑(List.length t.parts):Int)=(↑(List.length t.parts):Int)/\True else (!List.all t.shapes bQ)=!gw t/\t=t/\false=false/\t=t/\(↑(List.length t.names):Int)=(↑(List.length t.names):Int)/\(↑(List.length t.vars):Int)=(↑(List.length t.vars):Int)/\(↑(List.length t.shapes):Int)=(↑(List.length t.shapes):Int)/\(↑(List.length t.parts):Int)=(↑(List.length t.parts):Int)/\True else (!List.all t.shapes bQ)=!gw t/\t=t/\false=false/\t=t/\(↑(List.length t.names):Int)=(↑(List.length t.names):Int)/\(↑(List.length t.vars):Int)=(↑(List.length t.vars):Int)/\(↑(List.length t.shapes):Int)=(↑(List.length t.shapes):Int)/\(↑(List.length t.parts):Int)=(↑(List.length t.parts):Int)/\True else if (!decide (t.pkg=[]))=true then if (!decide (t.kind=(5:Int)))=true then true=!gw t/\t=t/\false=false/\t=t/\(↑(List.length t.names):Int)=(↑(List.length t.names):Int)/\(↑(List.length t.vars):Int)=(↑(List.length t.vars):Int)/\(↑(List.length t.shapes):Int)=(↑(List.length t.shapes):Int)/\(↑(List.length t.parts):Int)=(↑(List.length t.parts):Int)/\True else (!List.all t.shapes bQ)=!gw t/\t=t/\false=false/\t=t/\(↑(List.length t.names):Int)=(↑(List.length t.names):Int)/\(↑(List.length t.vars):Int)=(↑(List.length t.vars):Int)/\(↑(List.length t.shapes):Int)=(↑(List.length t.shapes):Int)/\(↑(List.length t.parts):Int)=(↑(List.length t.parts):Int)/\True else (!List.all t.shapes bQ)=!gw t/\t=t/\false=false/\t=t/\(↑(List.length t.names):Int)=(↑(List.length t.names):Int)/\(↑(List.length t.vars):Int)=(↑(List.length t.vars):Int)/\(↑(List.length t.shapes):Int)=(↑(List.length t.shapes):Int)/\(↑(List.length t.parts):Int)=(↑(List.length t.parts):Int)/\True)/\if (!gw t)=true then True/\false=ai t/\True else if decide (t.kind=(1:Int))=true then if decide (t.name=[])=true then if decide ((0:Int)<=t.n)=true then if decide (t.n<=(999999999999999:Int))=true then True/\(decide ((↑(List.length t.names):Int)=(0:Int)) && (decide ((↑(List.length t.vars):Int)=(0:Int)) && (decide ((↑(List.length t.shapes):Int)=(0:Int)) && (decide ((↑(List.length t.parts):Int)=(0:Int)) && true))))=ai t/\True else True/\false=ai t/\True else True/\false=ai t/\True else True/\false=ai t/\True else if decide (t.kind=(2:Int))=true then if oI t.name=true then True/\(decide ((↑(List.length t.names):Int)=(0:Int)) && (decide ((↑(List.length t.vars):Int)=(0:Int)) && (decide ((↑(List.length t.shapes):Int)=(0:Int)) && (decide ((↑(List.length t.parts):Int)=(0:Int)) && true))))=ai t/\True else True/\false=ai t/\True else if decide (t.kind=(3:Int))=true
  then if decide (t.name=[])=true then True/\(decide ((↑(List.length t.names):Int)=(0:Int)) && (decide ((↑(List.length t.vars):Int)=(0:Int)) && (decide ((↑(List.length t.shapes):Int)=(0:Int)) && (decide ((↑(List.length t.parts):Int)=(0:Int)) && true))))=ai t/\True else True/\false=ai t/\True else if decide (t.kind=(4:Int))=true then if decide (t.name=[])=true then True/\(decide ((↑(List.length t.names):Int)=(0:Int)) && (decide ((↑(List.length t.vars):Int)=(0:Int)) && (decide ((↑(List.length t.shapes):Int)=(0:Int)) && (decide ((↑(List.length t.parts):Int)=(0:Int)) && true))))=ai t/\True else True/\false=ai t/\True else if decide (t.kind=(5:Int))=true then if aY t.name=true then if decide (t.pkg=[])=true then True/\(decide ((↑(List.length t.names):Int)=(0:Int)) && (decide ((↑(List.length t.vars):Int)=(0:Int)) && (decide ((↑(List.length t.shapes):Int)=(0:Int)) && (decide ((↑(List.length t.parts):Int)=(0:Int)) && true))))=ai t/\True else if aY t.pkg=true then True/\(decide ((↑(List.length t.names):Int)=(0:Int)) && (decide ((↑(List.length t.vars):Int)=(0:Int)) && (decide ((↑(List.length t.shapes):Int)=(0:Int)) && (decide ((↑(List.length t.parts):Int)=(0:Int)) && true))))=ai t/\True else True/\false=ai t/\True else True/\false=ai t/\True else if decide (t.kind=(6:Int))=true then if decide (t.name=[])=true then if decide ((↑(List.length t.names):Int)<=(4096:Int))=true then List.length t.names *(16:Nat)<=(140737488355328:Nat)/\if (List.all t.names aY && decide (List.Nodup t.names))=true then True/\(decide ((↑(List.length t.names):Int)=(↑(List.length t.names):Int)) && (decide ((↑(List.length t.vars):Int)=(0:Int)) && (decide ((↑(List.length t.shapes):Int)=(↑(List.length t.names):Int)) && (decide ((↑(List.length t.parts):Int)=(1:Int)) && true))))=ai t/\True else True/\false=ai t/\True else True/\false=ai t/\True else True/\false=ai t/\True else if decide (t.kind=(7:Int))=true then if decide (t.name=[])=true then if decide ((0:Int) < (↑(List.length t.parts):Int))=true then True/\(decide ((↑(List.length t.names):Int)=(0:Int)) && (decide ((↑(List.length t.vars):Int)=(0:Int)) && (decide ((↑(List.length t.shapes):Int)=(0:Int)) && (decide ((↑(List.length t.parts):Int)=(↑(List.length t.parts):Int)) && true))))=ai t/\True else True/\false=ai t/\True else True/\false=ai t/\True else if decide (t.kind=(8:Int))=true then if decide (t.name=[])=true then List.length t.names *(16:Nat)<=(140737488355328:Nat)/\if (List.all t.names aY && decide (List.Nodup t.names))=true then True/\(decide ((↑(List.length t.names):Int)=(↑(List.length t.names):Int)) && (decide ((↑(List.length t.vars):Int)=(0:Int)) && (decide ((↑(List.length t.shapes):Int)=(0:Int)) && (decide ((↑(List.length t.parts):Int)=(↑(List.length t.names):Int)) && true))))=ai t/\True else True/\false=ai t/\True else True/\false=ai t/\True else if decide (t.kind=(9:Int))=true then if aY t.name=true then True/\(decide ((↑(List.length t.names):Int)=(0:Int)) && (decide ((↑(List.length t.vars):Int)=(0:Int)) && (decide ((↑(List.length t.shapes):Int)=(0:Int)) && (decide ((↑(List.length t.parts):Int)=(1:Int)) && true))))=ai t/\True else True/\false=ai t/\True else if decide (t.kind=(10:Int))=true then if aY t.name=true then True/\(decide ((↑(List.length t.names):Int)=(0:Int)) && (decide ((↑(List.length t.vars):Int)=(0:Int)) && (decide ((↑(List.length t.shapes):Int)=(0:Int)) && (decide ((↑(List.length t.parts):Int)=(1:Int)) && true))))=ai t/\True else True/\false=ai t/\True else if decide (t.kind=(11:Int))=true
  then if decide (t.name=[])=true then True/\(decide ((↑(List.length t.names):Int)=(0:Int)) && (decide ((↑(List.length t.vars):Int)=(0:Int)) && (decide ((↑(List.length t.shapes):Int)=(1:Int)) && (decide ((↑(List.length t.parts):Int)=(↑(List.length t.parts):Int)) && true))))=ai t/\True else True/\false=ai t/\True else if decide (t.kind=(12:Int))=true then if decide (t.name=[])=true then True/\(decide ((↑(List.length t.names):Int)=(0:Int)) && (decide ((↑(List.length t.vars):Int)=(0:Int)) && (decide ((↑(List.length t.shapes):Int)=(1:Int)) && (decide ((↑(List.length t.parts):Int)=(3:Int)) && true))))=ai t/\True else True/\false=ai t/\True else if decide (t.kind=(13:Int))=true then if decide (t.name=[])=true then List.length t.names *(16:Nat)<=(140737488355328:Nat)/\if (List.all t.names aY && decide (List.Nodup t.names))=true then if List.all t.vars aY=true then inR IntKind.i64 ((↑(List.length t.names):Int)+(1:Int))/\inR IntKind.i64 ((↑(List.length t.names):Int)+(1:Int))/\True/\(decide ((↑(List.length t.names):Int)=(↑(List.length t.names):Int)) && (decide ((↑(List.length t.vars):Int)=(↑(List.length t.names):Int)) && (decide ((↑(List.length t.shapes):Int)=(↑(List.length t.names):Int)+(1:Int)) && (decide ((↑(List.length t.parts):Int)=(↑(List.length t.names):Int)+(1:Int)) && true))))=ai t/\True else True/\false=ai t/\True else True/\false=ai t/\True else True/\false=ai t/\True else if decide (t.kind=(14:Int))=true then if aY t.name=true then True/\(decide ((↑(List.length t.names):Int)=(0:Int)) && (decide ((↑(List.length t.vars):Int)=(0:Int)) && (decide ((↑(List.length t.shapes):Int)=(0:Int)) && (decide ((↑(List.length t.parts):Int)=(2:Int)) && true))))=ai t/\True else True/\false=ai t/\True else if decide (t.kind=(15:Int))=true then if decide (t.name=[])=true then True/\(decide ((↑(List.length t.names):Int)=(0:Int)) && (decide ((↑(List.length t.vars):Int)=(0:Int)) && (decide ((↑(List.length t.shapes):Int)=(1:Int)) && (decide ((↑(List.length t.parts):Int)=(1:Int)) && true))))=ai t/\True else True/\false=ai t/\True else if decide (t.kind=(16:Int))=true then if ev t.name=true then True/\(decide ((↑(List.length t.names):Int)=(0:Int)) && (decide ((↑(List.length t.vars):Int)=(0:Int)) && (decide ((↑(List.length t.shapes):Int)=(0:Int)) && (decide ((↑(List.length t.parts):Int)=(1:Int)) && true))))=ai t/\True else True/\false=ai t/\True else if decide (t.kind=(17:Int))=true then if ev t.name=true then True/\(decide ((↑(List.length t.names):Int)=(0:Int)) && (decide ((↑(List.length t.vars):Int)=(0:Int)) && (decide ((↑(List.length t.shapes):Int)=(0:Int)) && (decide ((↑(List.length t.parts):Int)=(1:Int)) && true))))=ai t/\True else True/\false=ai t/\True else True/\false=ai t/\True:=by
 refine ⟨?_,ab (fun h=>?_) (fun h=>?_)⟩
 ·unfold gw
  repeat' (refine ab (fun _=>?_) (fun _=>?_))
  all_goals simp_all
 ·have h:gw t=false:=by simpa using h
  unfold ai
  rw [h]
  exact ⟨trivial,rfl,trivial⟩
 have h:gw t=true:=by simpa using h
 have e0:ai t=oJ t:=by unfold ai;rw [h,Bool.true_and]
 rw [e0]
 clear h e0
 unfold oJ fh rK
 simp only [dnZ,dn1,dn2,dn3,dnN,dnS,dnL,dnP]
 generalize t.names.all aY=na
 generalize t.vars.all aY=va
 repeat' (first | refine ab (fun _=>?_) (fun _=>?_) | refine ⟨by omega,?_⟩ | refine ⟨bJ (by omega) (by omega),?_⟩ | fail)
 all_goals (refine ⟨trivial,?_,trivial⟩;try simp_all)
 all_goals first | (simp only [Bool.and_assoc];done) | (intros;omega)
theorem tR (n:Nat) (x:Trm)  (ho:szT x<=n/\fewT x=true) :
  (szT x<=n/\fewT x=true)/\True/\(!allT ai x)=!allT ai x/\True:=by
 exact ⟨ho,trivial,by trivial,trivial⟩
theorem tS (n:Nat) (l:List Trm)  (hl:Wf (.lst (.st .term)) l) (ho:∀x∈l,szT x<=n/\fewT x=true) :
  (∃(x:Nat),(x<=List.length l/\bp (allT ai) (List.drop x l) x=bp (allT ai) l (0:Nat))/\(0:Int)=(↑x:Int)/\l=l/\(↑(List.length l):Int)=(↑(List.length l):Int)/\True)/\∀(x:Nat),x<=List.length l/\bp (allT ai) (List.drop x l) x=bp (allT ai) l (0:Nat)→if decide ((↑x:Int) < (↑(List.length l):Int))=true then ((0:Int)<=(↑x:Int)/\(↑x:Int) < (↑(List.length l):Int))/\(szT (List.getD l (Int.toNat (↑x:Int)) (dfl (Ty.st SN.term)))<=n/\fewT (List.getD l (Int.toNat (↑x:Int)) (dfl (Ty.st SN.term)))=true)/\if (!allT ai (List.getD l (Int.toNat (↑x:Int)) (dfl (Ty.st SN.term))))=true then True/\(↑x:Int)=bp (allT ai) l (0:Nat)/\True else inR IntKind.i64 ((↑x:Int)+(1:Int))/\∃(y:Nat),(y<=List.length l/\bp (allT ai) (List.drop y l) y=bp (allT ai) l (0:Nat))/\List.length l - y < List.length l - x/\(↑x:Int)+(1:Int)=(↑y:Int)/\l=l/\(↑(List.length l):Int)=(↑(List.length l):Int)/\True else True/\(-1:Int)=bp (allT ai) l (0:Nat)/\True:=by
 have ln:=hl.len
 simp only [Int.toNat_natCast]
 refine ⟨⟨0,⟨Nat.zero_le _,by simp⟩,rfl,by trivial,by trivial,trivial⟩,?_⟩
 rintro k ⟨h1,h2⟩
 refine ab (fun h=>?_) (fun h=>?_)
 ·replace h:=Xo h
  have hk:k < l.length:=by omega
  rw [aH l k (dfl (.st .term)) hk,bp] at h2
  refine ⟨by omega,ho _ (getD_mem l k _ hk),ab (fun c=>?_) (fun c=>?_)⟩
  ·have c:(allT ai) (l.getD k (dfl (.st .term)))=false:=by simpa using c
   rw [c,if_neg Bool.false_ne_true] at h2
   rw [←h2]
   exact ⟨trivial,rfl,trivial⟩
  ·have c:(allT ai) (l.getD k (dfl (.st .term)))=true:=by simpa using c
   rw [if_pos c] at h2
   refine ⟨bg hk ln,k+1,⟨by omega,h2⟩,by omega,by omega,by trivial,by trivial,trivial⟩
 ·replace h:¬((k:Int) < (l.length:Int)):=fun e=>h (Xd e)
  have e:k=l.length:=by omega
  subst e
  rw [List.drop_length,bp] at h2
  rw [←h2]
  exact ⟨trivial,rfl,trivial⟩
theorem tT (n:Nat) (l:List Trm)  (ho:∀x∈l,szT x<=n/\fewT x=true) :
  (∀(x:Trm),x∈l→szT x<=n/\fewT x=true)/\True/\decide ((0:Int)<=bp (allT ai) l (0:Nat))=!List.all l (allT ai)/\True:=by
 exact ⟨ho,trivial,gW (allT ai) l 0,trivial⟩
theorem zh (n:Nat) (l:List Trm)  (ho:∀x∈l,szT x<=n/\fewT x=true) :
  (∀(x:Trm),x∈l→szT x<=n/\fewT x=true)/\True/\(!!List.all l (allT ai))=List.all l (allT ai)/\True:=by
 exact ⟨ho,trivial,Bool.not_not _,trivial⟩
theorem zi (n:Nat) (t:Trm) (ho:szT t<=n+1/\fewT t=true) :
  List.length t.names<=(8796093022208:Nat)/\if ai t=true then (∀(x:Trm),x∈t.parts→szT x<=n/\fewT x=true)/\True/\List.all t.parts (allT ai)=allT ai t/\True else True/\false=allT ai t/\True:=by
 obtain ⟨h1,h2⟩:=ho
 have e0:allT ai t=(ai t && t.parts.all (allT ai)):=by rw [allT_eq,allTL_all]
 have h0:=szT_eq t
 rw [e0]
 refine ⟨vL h2,ab (fun h=>?_) (fun h=>?_)⟩
 ·rw [h,Bool.true_and]
  exact ⟨fun x hx=>⟨by have:=szT_mem hx;omega,yH h2 hx⟩,trivial,rfl,trivial⟩
 ·have h:ai t=false:=by simpa using h
  rw [h]
  exact ⟨trivial,rfl,trivial⟩
theorem zj (x:Trm) (ho:fewT x=true) :
  (szT x<=szT x/\(0:Int)<=(4096:Int)/\(4096:Int)<=(1000000:Int))/\if decide ((4096:Int) < (countT x (4096:Int)).1)=true then True/\(3:Int)=bF x/\True else if decide ((40:Int) < (countT x (4096:Int)).2)=true then True/\(91:Int)=bF x/\True else (szT x<=szT x/\fewT x=true)/\if (!allT ai x)=true then True/\(80:Int)=bF x/\True else True/\(0:Int)=bF x/\True:=by
 refine ⟨⟨Nat.le_refl _,by omega,by omega⟩,ab (fun h=>?_) (fun h=>?_)⟩
 ·replace h:=Xo h
  unfold bF
  rw [if_pos h]
  exact ⟨trivial,rfl,trivial⟩
 have h:¬_:=fun e=>h (Xd e)
 have e1:bF x=if 40 < (countT x 4096).2 then 91 else if allT ai x=true then 0 else 80:=by unfold bF;rw [if_neg h]
 refine ab (fun k=>?_) (fun k=>?_)
 ·rw [if_pos (Xo k)] at e1
  rw [e1]
  exact ⟨trivial,rfl,trivial⟩
 rw [if_neg (fun e=>k (Xd e))] at e1
 refine ⟨⟨Nat.le_refl _,ho⟩,ab (fun j=>?_) (fun j=>?_)⟩
 ·have j:allT ai x=false:=by simpa using j
  rw [j,if_neg Bool.false_ne_true] at e1
  rw [e1]
  exact ⟨trivial,rfl,trivial⟩
 ·have j:allT ai x=true:=by simpa using j
  rw [if_pos j] at e1
  rw [e1]
  exact ⟨trivial,rfl,trivial⟩
theorem Bi (n:Nat) (s:Trm) (m:Int) (hs:Wf (.st .term) s) (ho:szT s<=n+1/\0<=m/\m<=1000000) :
  (∃(x:Nat × Int),(x.1<=List.length s.parts/\(1:Int)<=x.2/\x.2<=m+(1:Int)/\sizeTL (List.drop x.1 s.parts) x.2 m=dj s m)/\(1:Int)=x.2/\(0:Int)=(↑x.1:Int)/\s=s/\m=m/\(0:Int)=(0:Int)/\s=s/\True)/\∀(x:Nat × Int),x.1<=List.length s.parts/\(1:Int)<=x.2/\x.2<=m+(1:Int)/\sizeTL (List.drop x.1 s.parts) x.2 m=dj s m→if decide ((↑x.1:Int) < (↑(List.length s.parts):Int))=true then if decide (x.2<=m)=true then ((0:Int)<=(↑x.1:Int)/\(↑x.1:Int) < (↑(List.length s.parts):Int))/\inR IntKind.i64 (m - x.2)/\(szT (List.getD s.parts (Int.toNat (↑x.1:Int)) (dfl (Ty.st SN.term)))<=n/\(0:Int)<=m - x.2/\m - x.2<=(1000000:Int))/\inR IntKind.i64 (x.2+dj (List.getD s.parts (Int.toNat (↑x.1:Int)) (dfl (Ty.st SN.term))) (m - x.2))/\inR IntKind.i64 ((↑x.1:Int)+(1:Int))/\∃(y:Nat × Int),(y.1<=List.length s.parts/\(1:Int)<=y.2/\y.2<=m+(1:Int)/\sizeTL (List.drop y.1 s.parts) y.2 m=dj s m)/\List.length s.parts - y.1 < List.length s.parts - x.1/\x.2+dj (List.getD s.parts (Int.toNat (↑x.1:Int)) (dfl (Ty.st SN.term))) (m - x.2)=y.2/\(↑x.1:Int)+(1:Int)=(↑y.1:Int)/\s=s/\m=m/\(0:Int)=(0:Int)/\s=s/\True else True/\x.2=dj s m/\True else True/\x.2=dj s m/\True:=by
 have ln:=hs.term_parts.len
 have hz:=szT_eq s
 obtain ⟨ho1,ho2,ho3⟩:=ho
 have h0:sizeTL s.parts 1 m=dj s m:=by cases s;rw [dj]
 simp only [Int.toNat_natCast,eq_self,true_and,and_true]
 refine ⟨⟨(0,1),⟨Nat.zero_le _,by omega,by omega,h0⟩,rfl,rfl⟩,?_⟩
 rintro ⟨k,c⟩ ⟨h1,h2,h3,h4⟩
 simp only at h1 h2 h3 h4 ⊢
 refine ab (fun hk=>?_) (fun hk=>?_)
 ·replace hk:=Xo hk
  have hk:k < s.parts.length:=by omega
  have hm:=szT_mem (getD_mem s.parts k (dfl (.st .term)) hk)
  rw [aH s.parts k (dfl (.st .term)) hk] at h4
  simp only [sizeTL] at h4
  refine ab (fun hc=>?_) (fun hc=>?_)
  ·replace hc:=Xo hc
   rw [if_pos hc] at h4
   have hb:=sizeT_bd (s.parts.getD k (dfl (.st .term))) (m - c) (by omega)
   exact ⟨by omega,bJ (by omega) (by omega),by omega,bJ (by omega) (by omega),bg hk ln,(k+1,_),⟨by omega,by simp only;omega,by simp only;omega,h4⟩,by simp only;omega,rfl,rfl⟩
  ·rw [if_neg (fun e=>hc (Xd e))] at h4
   exact h4
 ·replace hk:¬((k:Int) < (s.parts.length:Int)):=fun e=>hk (Xd e)
  have e:k=s.parts.length:=by omega
  subst e
  rw [List.drop_length] at h4
  simp only [sizeTL] at h4
  exact h4
theorem zk (a b:Shape) (f:Bool)  :
  True/\(f ==decide (a.kind=(6:Int)))=decide (f=decide (a.kind=(6:Int)))/\True:=by
 exact ⟨trivial,rfl,trivial⟩
theorem Bj   :
  True/\True:=by
 exact ⟨trivial,trivial⟩
theorem Bk (s:Shape) (m:Str) (hs:Wf (.st .shape) s) (ho:aq s=true) :
  if decide ((0:Int)<=bO s.names m (0:Int))=true then ((0:Int)<=bO s.names m (0:Int)/\bO s.names m (0:Int) < (↑(List.length s.parts):Int))/\True/\some (List.getD s.parts (Int.toNat (bO s.names m (0:Int))) (dfl (Ty.st SN.shape)))=aZ s m/\True else True/\aZ s m=none/\True:=by
 rcases B1 m (dfl (.st .shape)) ho with ⟨h1,h2⟩ | ⟨h1,h2,h3⟩
 ·refine ab (fun h=>absurd (Xo h) h1) (fun _=>⟨trivial,h2,trivial⟩)
 ·exact ab (fun _=>⟨⟨h1,h2⟩,trivial,h3.symm,trivial⟩) (fun h=>absurd (Xd h1) h)
theorem zl (m:Str) (s:Shape) (ho:aq s=true) :
  aq s=true/\True/\Option.isNone (aZ s m)=Option.isNone (aZ s m)/\s=s/\True:=by
 exact ⟨ho,trivial,rfl,rfl,trivial⟩
theorem Bl (a b:Shape)  :
  if decide (ax a=(0:Int))=true then True/\decide (ax b=(0:Int))=(decide (ax a=(0:Int)) && decide (ax b=(0:Int)))/\True else True/\false=(decide (ax a=(0:Int)) && decide (ax b=(0:Int)))/\True:=by
 cases decide (ax a=0) <;> simp
theorem CC (l:List Str) (s:Shape) (hl:Wf (.lst .str) l) (ho:aq s=true) :
  (∃(x:Nat),(x<=List.length l/\bp (fun (m:Str) ↦Option.isSome (aZ s m)) (List.drop x l) x=bp (fun (m:Str) ↦Option.isSome (aZ s m)) l (0:Nat))/\(0:Int)=(↑x:Int)/\l=l/\(↑(List.length l):Int)=(↑(List.length l):Int)/\s=s/\True)/\∀(x:Nat),x<=List.length l/\bp (fun (m:Str) ↦Option.isSome (aZ s m)) (List.drop x l) x=bp (fun (m:Str) ↦Option.isSome (aZ s m)) l (0:Nat)→if decide ((↑x:Int) < (↑(List.length l):Int))=true then ((0:Int)<=(↑x:Int)/\(↑x:Int) < (↑(List.length l):Int))/\aq s=true/\if Option.isNone (aZ s (List.getD l (Int.toNat (↑x:Int)) (dfl Ty.str)))=true then True/\(↑x:Int)=bp (fun (m:Str) ↦Option.isSome (aZ s m)) l (0:Nat)/\s=s/\True else inR IntKind.i64 ((↑x:Int)+(1:Int))/\∃(y:Nat),(y<=List.length l/\bp (fun (m:Str) ↦Option.isSome (aZ s m)) (List.drop y l) y=bp (fun (m:Str) ↦Option.isSome (aZ s m)) l (0:Nat))/\List.length l - y < List.length l - x/\(↑x:Int)+(1:Int)=(↑y:Int)/\l=l/\(↑(List.length l):Int)=(↑(List.length l):Int)/\s=s/\True else True/\(-1:Int)=bp (fun (m:Str) ↦Option.isSome (aZ s m)) l (0:Nat)/\s=s/\True:=by
 have ln:=hl.len
 simp only [Int.toNat_natCast,eq_self,true_and,and_true]
 refine ⟨⟨0,⟨Nat.zero_le _,by simp⟩,rfl⟩,?_⟩
 rintro k ⟨h1,h2⟩
 refine ab (fun h=>?_) (fun h=>?_)
 ·replace h:=Xo h
  have hk:k < l.length:=by omega
  rw [aH l k (dfl .str) hk,bp] at h2
  refine ⟨by omega,ho,ab (fun c=>?_) (fun c=>?_)⟩
  ·have c:(aZ s (l.getD k (dfl .str))).isSome=false:=by rw [Option.isNone_iff_eq_none] at c;rw [c];rfl
   rw [c,if_neg Bool.false_ne_true] at h2
   exact h2
  ·have c:(aZ s (l.getD k (dfl .str))).isSome=true:=by cases hp:aZ s (l.getD k (dfl .str)) with | none=>rw [hp] at c;exact absurd rfl c | some x=>rfl
   rw [if_pos c] at h2
   exact ⟨bg hk ln,k+1,⟨by omega,h2⟩,by omega,by omega⟩
 ·replace h:¬((k:Int) < (l.length:Int)):=fun e=>h (Xd e)
  have e:k=l.length:=by omega
  subst e
  rw [List.drop_length,bp] at h2
  exact h2
theorem CD (l:List Str) (s:Shape) (ho:aq s=true) :
  aq s=true/\True/\(decide ((0:Int)<=bp (fun (m:Str) ↦Option.isSome (aZ s m)) l (0:Nat))=!List.all l fun (m:Str) ↦Option.isSome (aZ s m))/\s=s/\True:=by
 exact ⟨ho,trivial,gW _ l 0,rfl,trivial⟩
theorem Bm (n:Nat) (a b:Shape) (ha:Wf (.st .shape) a) (hb:Wf (.st .shape) b) (hn:sz a+sz b<=n+1) (oa:allS aq a=true) (ob:allS aq b=true) :
  if decide (a.kind=(4:Int))=true then True/\true=aX (n+(1:Nat)) a b/\True else if decide (b.kind=(4:Int))=true then True/\true=aX (n+(1:Nat)) a b/\True else if (!decide (a.kind=b.kind))=true then True/\false=aX (n+(1:Nat)) a b/\True else if (!decide (a.pkg=b.pkg))=true then True/\false=aX (n+(1:Nat)) a b/\True else if (!decide (a.name=b.name))=true then True/\false=aX (n+(1:Nat)) a b/\True else (if decide (a.kind=(6:Int))=true then true=(decide (a.kind=(6:Int)) || decide (a.kind=(7:Int)))/\a=a/\b=b/\false=false/\false=false/\false=false/\a=a/\b=b/\True else decide (a.kind=(7:Int))=(decide (a.kind=(6:Int)) || decide (a.kind=(7:Int)))/\a=a/\b=b/\false=false/\false=false/\false=false/\a=a/\b=b/\True)/\if (decide (a.kind=(6:Int)) || decide (a.kind=(7:Int)))=true then (∃(x:Nat),(x<=List.length a.names/\dD (aX n) (decide (a.kind=(7:Int))) b (List.drop x a.names) (List.drop x a.parts)=dD (aX n) (decide (a.kind=(7:Int))) b a.names a.parts)/\(0:Int)=(↑x:Int)/\true=true/\a=a/\b=b/\false=false/\false=false/\a.names=a.names/\(↑(List.length a.names):Int)=(↑(List.length a.names):Int)/\a=a/\b=b/\True)/\∀(x:Nat),x<=List.length a.names/\dD (aX n) (decide (a.kind=(7:Int))) b (List.drop x a.names) (List.drop x a.parts)=dD (aX n) (decide (a.kind=(7:Int))) b a.names a.parts→if decide ((↑x:Int) < (↑(List.length a.names):Int))=true then ((0:Int)<=(↑x:Int)/\(↑x:Int) < (↑(List.length a.names):Int))/\aq b=true/\if Option.isNone (aZ b (List.getD a.names (Int.toNat (↑x:Int)) (dfl Ty.str)))=true then if (!decide (true=decide (a.kind=(6:Int))))=true then True/\false=aX (n+(1:Nat)) a b/\True else if Option.isSome (aZ b (List.getD a.names (Int.toNat (↑x:Int)) (dfl Ty.str)))=true then ((0:Int)<=(↑x:Int)/\(↑x:Int) < (↑(List.length a.parts):Int))/\Option.isSome (aZ b (List.getD a.names (Int.toNat (↑x:Int)) (dfl Ty.str)))=true/\(sz (List.getD a.parts (Int.toNat (↑x:Int)) (dfl (Ty.st SN.shape)))+sz (Option.getD (aZ b (List.getD a.names (Int.toNat (↑x:Int)) (dfl Ty.str))) (dfl (Ty.st SN.shape)))<=n/\allS aq (List.getD a.parts (Int.toNat (↑x:Int)) (dfl (Ty.st SN.shape)))=true/\allS aq (Option.getD (aZ b (List.getD a.names (Int.toNat (↑x:Int)) (dfl Ty.str))) (dfl (Ty.st SN.shape)))=true)/\if (!aX n (List.getD a.parts (Int.toNat (↑x:Int)) (dfl (Ty.st SN.shape))) (Option.getD (aZ b (List.getD a.names (Int.toNat (↑x:Int)) (dfl Ty.str))) (dfl (Ty.st SN.shape))))=true then True/\false=aX (n+(1:Nat)) a b/\True else inR IntKind.i64 ((↑x:Int)+(1:Int))/\∃(y:Nat),(y<=List.length a.names/\dD (aX n) (decide (a.kind=(7:Int))) b (List.drop y a.names) (List.drop y a.parts)=dD (aX n) (decide (a.kind=(7:Int))) b a.names a.parts)/\List.length a.names - y < List.length a.names - x/\(↑x:Int)+(1:Int)=(↑y:Int)/\true=true/\a=a/\b=b/\false=false/\false=false/\a.names=a.names/\(↑(List.length a.names):Int)=(↑(List.length a.names):Int)/\a=a/\b=b/\True else inR IntKind.i64 ((↑x:Int)+(1:Int))/\∃(y:Nat),(y<=List.length a.names/\dD (aX n) (decide (a.kind=(7:Int))) b (List.drop y a.names) (List.drop y a.parts)=dD (aX n) (decide (a.kind=(7:Int))) b a.names a.parts)/\List.length a.names - y < List.length a.names - x/\(↑x:Int)+(1:Int)=(↑y:Int)/\true=true/\a=a/\b=b/\false=false/\false=false/\a.names=a.names/\(↑(List.length a.names):Int)=(↑(List.length a.names):Int)/\a=a/\b=b/\True else if Option.isSome (aZ b (List.getD a.names (Int.toNat (↑x:Int)) (dfl Ty.str)))=true then ((0:Int)<=(↑x:Int)/\(↑x:Int) < (↑(List.length a.parts):Int))
  /\Option.isSome (aZ b (List.getD a.names (Int.toNat (↑x:Int)) (dfl Ty.str)))=true/\(sz (List.getD a.parts (Int.toNat (↑x:Int)) (dfl (Ty.st SN.shape)))+sz (Option.getD (aZ b (List.getD a.names (Int.toNat (↑x:Int)) (dfl Ty.str))) (dfl (Ty.st SN.shape)))<=n/\allS aq (List.getD a.parts (Int.toNat (↑x:Int)) (dfl (Ty.st SN.shape)))=true/\allS aq (Option.getD (aZ b (List.getD a.names (Int.toNat (↑x:Int)) (dfl Ty.str))) (dfl (Ty.st SN.shape)))=true)/\if (!aX n (List.getD a.parts (Int.toNat (↑x:Int)) (dfl (Ty.st SN.shape))) (Option.getD (aZ b (List.getD a.names (Int.toNat (↑x:Int)) (dfl Ty.str))) (dfl (Ty.st SN.shape))))=true then True/\false=aX (n+(1:Nat)) a b/\True else inR IntKind.i64 ((↑x:Int)+(1:Int))/\∃(y:Nat),(y<=List.length a.names/\dD (aX n) (decide (a.kind=(7:Int))) b (List.drop y a.names) (List.drop y a.parts)=dD (aX n) (decide (a.kind=(7:Int))) b a.names a.parts)/\List.length a.names - y < List.length a.names - x/\(↑x:Int)+(1:Int)=(↑y:Int)/\true=true/\a=a/\b=b/\false=false/\false=false/\a.names=a.names/\(↑(List.length a.names):Int)=(↑(List.length a.names):Int)/\a=a/\b=b/\True else inR IntKind.i64 ((↑x:Int)+(1:Int))/\∃(y:Nat),(y<=List.length a.names/\dD (aX n) (decide (a.kind=(7:Int))) b (List.drop y a.names) (List.drop y a.parts)=dD (aX n) (decide (a.kind=(7:Int))) b a.names a.parts)/\List.length a.names - y < List.length a.names - x/\(↑x:Int)+(1:Int)=(↑y:Int)/\true=true/\a=a/\b=b/\false=false/\false=false/\a.names=a.names/\(↑(List.length a.names):Int)=(↑(List.length a.names):Int)/\a=a/\b=b/\True else if decide (false=decide (b.kind=(6:Int)))=true then True/\true=aX (n+(1:Nat)) a b/\True else aq a=true/\True/\(!!List.all b.names fun (m:Str) ↦Option.isSome (aZ a m))=aX (n+(1:Nat)) a b/\True else if (!decide ((↑(List.length a.parts):Int)=(↑(List.length b.parts):Int)))=true then True/\false=aX (n+(1:Nat)) a b/\True else (∃(x:Nat),(x<=List.length a.parts/\aX (n+(1:Nat)) a b=iM (aX n) (decide (a.kind=(8:Int))) (List.drop x a.parts) (List.drop x b.parts))/\(0:Int)=(↑x:Int)/\false=false/\a=a/\b=b/\false=false/\false=false/\false=false/\(↑(List.length a.parts):Int)=(↑(List.length a.parts):Int)/\a=a/\b=b/\True)/\∀(x:Nat),x<=List.length a.parts/\aX (n+(1:Nat)) a b=iM (aX n) (decide (a.kind=(8:Int))) (List.drop x a.parts) (List.drop x b.parts)→if decide ((↑x:Int) < (↑(List.length a.parts):Int))=true then ((0:Int)<=(↑x:Int)/\(↑x:Int) < (↑(List.length a.parts):Int))/\((0:Int)<=(↑x:Int)/\(↑x:Int) < (↑(List.length b.parts):Int))/\if decide (a.kind=(8:Int))=true then inR IntKind.i64 ((↑(List.length a.parts):Int) - (1:Int))/\if decide ((↑x:Int) < (↑(List.length a.parts):Int) - (1:Int))=true then (sz (List.getD b.parts (Int.toNat (↑x:Int)) (dfl (Ty.st SN.shape)))+sz (List.getD a.parts (Int.toNat (↑x:Int)) (dfl (Ty.st SN.shape)))<=n/\allS aq (List.getD b.parts (Int.toNat (↑x:Int)) (dfl (Ty.st SN.shape)))=true/\allS aq (List.getD a.parts (Int.toNat (↑x:Int)) (dfl (Ty.st SN.shape)))=true)/\if (!aX n (List.getD b.parts (Int.toNat (↑x:Int)) (dfl (Ty.st SN.shape))) (List.getD a.parts (Int.toNat (↑x:Int)) (dfl (Ty.st SN.shape))))=true then True/\false=aX (n+(1:Nat)) a b/\True else inR IntKind.i64 ((↑x:Int)+(1:Int))/\∃(y:Nat),(y<=List.length a.parts/\aX (n+(1:Nat)) a b=iM (aX n) (decide (a.kind=(8:Int))) (List.drop y a.parts) (List.drop y b.parts))/\List.length a.parts - y < List.length a.parts - x/\(↑x:Int)+(1:Int)=(↑y:Int)/\false=false/\a=a/\b=b/\false=false/\false=false/\false=false
  /\(↑(List.length a.parts):Int)=(↑(List.length a.parts):Int)/\a=a/\b=b/\True else (sz (List.getD a.parts (Int.toNat (↑x:Int)) (dfl (Ty.st SN.shape)))+sz (List.getD b.parts (Int.toNat (↑x:Int)) (dfl (Ty.st SN.shape)))<=n/\allS aq (List.getD a.parts (Int.toNat (↑x:Int)) (dfl (Ty.st SN.shape)))=true/\allS aq (List.getD b.parts (Int.toNat (↑x:Int)) (dfl (Ty.st SN.shape)))=true)/\if (!aX n (List.getD a.parts (Int.toNat (↑x:Int)) (dfl (Ty.st SN.shape))) (List.getD b.parts (Int.toNat (↑x:Int)) (dfl (Ty.st SN.shape))))=true then True/\false=aX (n+(1:Nat)) a b/\True else inR IntKind.i64 ((↑x:Int)+(1:Int))/\∃(y:Nat),(y<=List.length a.parts/\aX (n+(1:Nat)) a b=iM (aX n) (decide (a.kind=(8:Int))) (List.drop y a.parts) (List.drop y b.parts))/\List.length a.parts - y < List.length a.parts - x/\(↑x:Int)+(1:Int)=(↑y:Int)/\false=false/\a=a/\b=b/\false=false/\false=false/\false=false/\(↑(List.length a.parts):Int)=(↑(List.length a.parts):Int)/\a=a/\b=b/\True else (sz (List.getD a.parts (Int.toNat (↑x:Int)) (dfl (Ty.st SN.shape)))+sz (List.getD b.parts (Int.toNat (↑x:Int)) (dfl (Ty.st SN.shape)))<=n/\allS aq (List.getD a.parts (Int.toNat (↑x:Int)) (dfl (Ty.st SN.shape)))=true/\allS aq (List.getD b.parts (Int.toNat (↑x:Int)) (dfl (Ty.st SN.shape)))=true)/\if (!aX n (List.getD a.parts (Int.toNat (↑x:Int)) (dfl (Ty.st SN.shape))) (List.getD b.parts (Int.toNat (↑x:Int)) (dfl (Ty.st SN.shape))))=true then True/\false=aX (n+(1:Nat)) a b/\True else inR IntKind.i64 ((↑x:Int)+(1:Int))/\∃(y:Nat),(y<=List.length a.parts/\aX (n+(1:Nat)) a b=iM (aX n) (decide (a.kind=(8:Int))) (List.drop y a.parts) (List.drop y b.parts))/\List.length a.parts - y < List.length a.parts - x/\(↑x:Int)+(1:Int)=(↑y:Int)/\false=false/\a=a/\b=b/\false=false/\false=false/\false=false/\(↑(List.length a.parts):Int)=(↑(List.length a.parts):Int)/\a=a/\b=b/\True else True/\true=aX (n+(1:Nat)) a b/\True:=by
 have la:=ha.parts.len
 have lb:=hb.parts.len
 have za:=gV a
 have zb:=gV b
 have fa:=mZ oa
 have fb:=mZ ob
 simp only [Int.toNat_natCast,eq_self,true_and,and_true]
 refine ab (fun h4=>by rw [aX,h4];rfl) (fun h4=>?_)
 refine ab (fun h5=>by rw [aX,h5];simp) (fun h5=>?_)
 refine ab (fun hk=>?_) (fun hk=>?_)
 ·rw [aX];simp at h4 h5 hk;simp [h4,h5,hk]
 refine ab (fun hp=>?_) (fun hp=>?_)
 ·rw [aX];simp at h4 h5 hp;simp [h4,h5,hp]
 refine ab (fun hm=>?_) (fun hm=>?_)
 ·rw [aX];simp at h4 h5 hm;simp [h4,h5,hm]
 simp at h4 h5 hk hp hm
 have hU:aX (n+1) a b=(if a.kind=6 then dD (aX n) false b a.names a.parts && b.names.all (fun m=>(aZ a m).isSome)
    else if a.kind=7 then dD (aX n) true b a.names a.parts
    else decide (a.parts.length=b.parts.length) && iM (aX n) (decide (a.kind=8)) a.parts b.parts):=by
  rw [aX];simp [h4,h5,hk,hp,hm]
 have lna:=ha.names.len
 refine ⟨ab (fun h=>by simp at h;simp [h]) (fun h=>by simp at h;simp [h]),ab (fun h67=>?_) (fun h67=>?_)⟩
 ·have hV:aX (n+1) a b=(dD (aX n) (decide (a.kind=7)) b a.names a.parts && (if b.kind=6 then b.names.all (fun m=>(aZ a m).isSome) else true)):=by
   rw [hU,←hk]
   by_cases h6:a.kind=6
   ·simp [h6]
   ·simp at h67
    simp [h67.resolve_left h6]
  refine ⟨⟨0,⟨Nat.zero_le _,by simp⟩,rfl⟩,?_⟩
  rintro k ⟨k1,k2⟩
  refine ab (fun h=>?_) (fun h=>?_)
  ·replace h:=Xo h
   have hk':k < a.names.length:=by omega
   have nl:a.names.length=a.parts.length:=(kU fa.1).resolve_left (fun e=>by rw [e] at hk';simp at hk')
   have hkp:k < a.parts.length:=by omega
   rw [aH a.names k (dfl .str) hk',aH a.parts k (dfl (.st .shape)) hkp] at k2
   simp only [dD] at k2
   refine ⟨by omega,fb.1,?_⟩
   cases hq:aZ b (a.names.getD k (dfl .str)) with
   | none=>
    rw [hq] at k2
    simp only [Option.isNone,Option.isSome,if_true,Bool.false_eq_true,if_false]
    refine ab (fun c=>?_) (fun c=>?_)
    ·rw [hV,←k2]
     simp at c h67
     simp [h67.resolve_left c]
    ·simp at c
     refine ⟨bg hk' lna,k+1,⟨by omega,?_⟩,by omega,by omega⟩
     rw [←k2]
     simp [c]
   | some x=>
    rw [hq] at k2
    simp only [Option.isNone,Option.isSome,if_true,Bool.false_eq_true,if_false,Option.getD,true_and]
    have m1:=getD_mem a.parts k (dfl (.st .shape)) hkp
    have m2:=(yN hq).2
    have s1:=dG m1
    have s2:=dG m2
    refine ⟨by omega,⟨by omega,ew fa.2 m1,ew fb.2 m2⟩,ab (fun c=>?_) (fun c=>?_)⟩
    ·simp only [Bool.not_eq_true'] at c
     rw [hV,←k2]
     simp only [c,Bool.false_and]
    ·simp only [Bool.not_eq_true',Bool.not_eq_false] at c
     refine ⟨bg hk' lna,k+1,⟨by omega,?_⟩,by omega,by omega⟩
     rw [←k2]
     simp only [c,Bool.true_and]
  ·replace h:¬((k:Int) < (a.names.length:Int)):=fun e=>h (Xd e)
   have e:k=a.names.length:=by omega
   subst e
   rw [List.drop_length] at k2
   simp only [dD] at k2
   rw [hV,←k2]
   refine ab (fun c=>?_) (fun c=>?_)
   ·simp at c
    simp [c]
   ·simp at c
    exact ⟨fa.1,by simp [c]⟩
 ·simp at h67
  have hW:aX (n+1) a b=(decide (a.parts.length=b.parts.length) && iM (aX n) (decide (a.kind=8)) a.parts b.parts):=by
   rw [hU,if_neg h67.1,if_neg h67.2]
  refine ab (fun c=>?_) (fun c=>?_)
  ·rw [hW]
   simp at c
   have c':¬a.parts.length=b.parts.length:=by omega
   simp [c']
  simp at c
  have c':a.parts.length=b.parts.length:=by omega
  rw [Xd c',Bool.true_and] at hW
  refine ⟨⟨0,⟨Nat.zero_le _,by simpa using hW⟩,rfl⟩,?_⟩
  rintro k ⟨k1,k2⟩
  refine ab (fun h=>?_) (fun h=>?_)
  ·replace h:=Xo h
   have ka:k < a.parts.length:=by omega
   have kb:k < b.parts.length:=by omega
   rw [aH a.parts k (dfl (.st .shape)) ka,aH b.parts k (dfl (.st .shape)) kb] at k2
   simp only [iM] at k2
   have m1:=getD_mem a.parts k (dfl (.st .shape)) ka
   have m2:=getD_mem b.parts k (dfl (.st .shape)) kb
   have s1:=dG m1
   have s2:=dG m2
   have f1:=ew fa.2 m1
   have f2:=ew fb.2 m2
   refine ⟨by omega,by omega,ab (fun h8=>?_) (fun h8=>?_)⟩
   ·simp at h8
    refine ⟨bJ (by omega) (by omega),ab (fun l=>?_) (fun l=>?_)⟩
    ·replace l:=Xo l
     have le:(decide (a.kind=8) && !(a.parts.drop (k+1)).isEmpty)=true:=by
      simp [h8];omega
     rw [if_pos le] at k2
     refine ⟨⟨by omega,f2,f1⟩,ab (fun c=>?_) (fun c=>?_)⟩
     ·simp only [Bool.not_eq_true'] at c;rw [k2,c];rfl
     ·simp only [Bool.not_eq_true',Bool.not_eq_false] at c
      exact ⟨bg ka la,k+1,⟨by omega,by rw [k2,c];rfl⟩,by omega,by omega⟩
    ·replace l:¬((k:Int) < (a.parts.length:Int) - 1):=fun e=>l (Xd e)
     have le:¬(decide (a.kind=8) && !(a.parts.drop (k+1)).isEmpty)=true:=by
      simp;omega
     rw [if_neg le] at k2
     refine ⟨⟨by omega,f1,f2⟩,ab (fun c=>?_) (fun c=>?_)⟩
     ·simp only [Bool.not_eq_true'] at c;rw [k2,c];rfl
     ·simp only [Bool.not_eq_true',Bool.not_eq_false] at c
      exact ⟨bg ka la,k+1,⟨by omega,by rw [k2,c];rfl⟩,by omega,by omega⟩
   ·simp at h8
    have le:¬(decide (a.kind=8) && !(a.parts.drop (k+1)).isEmpty)=true:=by simp [h8]
    rw [if_neg le] at k2
    refine ⟨⟨by omega,f1,f2⟩,ab (fun c=>?_) (fun c=>?_)⟩
    ·simp only [Bool.not_eq_true'] at c;rw [k2,c];rfl
    ·simp only [Bool.not_eq_true',Bool.not_eq_false] at c
     exact ⟨bg ka la,k+1,⟨by omega,by rw [k2,c];rfl⟩,by omega,by omega⟩
  ·replace h:¬((k:Int) < (a.parts.length:Int)):=fun e=>h (Xd e)
   have e:k=a.parts.length:=by omega
   subst e
   rw [List.drop_length] at k2
   rw [k2]
   simp [iM]
theorem CE (a b:Shape) (ha:Wf (.st .shape) a) (hb:Wf (.st .shape) b) :
  if (decide (ax a=(0:Int)) && decide (ax b=(0:Int)))=true then (sz a+sz b<=(800:Nat)/\allS aq a=true/\allS aq b=true)/\True/\aX (800:Nat) a b=kT a b/\True else True/\false=kT a b/\True:=by
 refine ab (fun h=>?_) (fun h=>?_)
 ·simp only [Bool.and_eq_true,decide_eq_true_eq] at h
  have c1:=cK h.1
  have c2:=cK h.2
  refine ⟨⟨by omega,c1.2.2,c2.2.2⟩,trivial,?_,trivial⟩
  rw [kT,h.1,h.2]
  rfl
 ·refine ⟨trivial,?_,trivial⟩
  rw [kT,Bool.eq_false_iff.2 h]
  rfl
theorem CF (k:Nam) (v:Shape)  :
  True/\dK [] k v=dK [] k v/\True:=by
 exact ⟨trivial,rfl,trivial⟩
theorem CG (m:List (Nam × Shape)) (k:Nam) (v:Shape)  :
  True/\dK m k v=dK m k v/\True:=by
 exact ⟨trivial,rfl,trivial⟩
theorem CH (k:Nam)  :
  True/\{kind:=(0:Int),pkg:=[],name:=[],names:=[],parts:=[]:Shape}=ao/\false=Option.isSome (b6 [] k.pkg k.name)/\True:=by
 exact ⟨trivial,rfl,rfl,trivial⟩
theorem CI (m:List (Nam × Shape)) (k:Nam)  :
  True/\Option.getD (cY m k) {kind:=(0:Int),pkg:=[],name:=[],names:=[],parts:=[]:Shape}=Option.getD (b6 m k.pkg k.name) ao/\Option.isSome (cY m k)=Option.isSome (b6 m k.pkg k.name)/\m=m/\True:=by
 exact ⟨trivial,rfl,rfl,rfl,trivial⟩
theorem Bn (n:Nat) (s:Shape) (hs:Wf (.st .shape) s) (hn:sz s<=n+1) (h4:n+1<=400) (os:allS aq s=true) :
  if decide (s.kind=(9:Int))=true then True/\ao=Option.getD (fillS (b6 []) s) ao/\Option.isSome (b6 [] s.pkg s.name)=Option.isSome (fillS (b6 []) s)/\True else ((0:Int)<=(↑(List.length s.parts):Int)/\(↑(List.length s.parts):Int) *(↑(88:Nat):Int)<=(140737488355328:Int))/\(∃(x:Nat × List Shape),(x.1<=List.length s.parts/\List.length x.2=x.1/\fillL (b6 []) s.parts=Option.map (fun (x_1:List Shape) ↦x.2++x_1) (fillL (b6 []) (List.drop x.1 s.parts)))/\(0:Int)=(↑x.1:Int)/\[]=x.2/\s=s/\false=false/\s.parts=s.parts/\(↑(List.length s.parts):Int)=(↑(List.length s.parts):Int)/\(0:Nat)=List.length x.2/\s=s/\(0:Int)=(0:Int)/\aE UInt8=aE UInt8/\aE UInt8=aE UInt8/\True)/\∀(x:Nat × List Shape),x.1<=List.length s.parts/\List.length x.2=x.1/\fillL (b6 []) s.parts=Option.map (fun (x_1:List Shape) ↦x.2++x_1) (fillL (b6 []) (List.drop x.1 s.parts))→if decide ((↑x.1:Int) < (↑(List.length s.parts):Int))=true then ((0:Int)<=(↑x.1:Int)/\(↑x.1:Int) < (↑(List.length s.parts):Int))/\(sz (List.getD s.parts (Int.toNat (↑x.1:Int)) (dfl (Ty.st SN.shape)))<=n/\n<=(400:Nat)/\allS aq (List.getD s.parts (Int.toNat (↑x.1:Int)) (dfl (Ty.st SN.shape)))=true)/\if (!Option.isSome (fillS (b6 []) (List.getD s.parts (Int.toNat (↑x.1:Int)) (dfl (Ty.st SN.shape)))))=true then True/\(0:Int)=(Option.getD (fillS (b6 []) s) ao).kind/\[]=(Option.getD (fillS (b6 []) s) ao).pkg/\[]=(Option.getD (fillS (b6 []) s) ao).name/\(Option.getD (fillS (b6 []) s) ao).names=[]/\(Option.getD (fillS (b6 []) s) ao).parts=[]/\false=Option.isSome (fillS (b6 []) s)/\True else (List.length x.2=List.length x.2/\(List.length x.2+List.length [Option.getD (fillS (b6 []) (List.getD s.parts (Int.toNat (↑x.1:Int)) (dfl (Ty.st SN.shape)))) ao]) *(88:Nat)<=(140737488355328:Nat))/\inR IntKind.i64 ((↑x.1:Int)+(1:Int))/\∃(y:Nat × List Shape),(y.1<=List.length s.parts/\List.length y.2=y.1/\fillL (b6 []) s.parts=Option.map (fun (x:List Shape) ↦y.2++x) (fillL (b6 []) (List.drop y.1 s.parts)))/\List.length s.parts - y.1 < List.length s.parts - x.1/\(↑x.1:Int)+(1:Int)=(↑y.1:Int)/\x.2++[Option.getD (fillS (b6 []) (List.getD s.parts (Int.toNat (↑x.1:Int)) (dfl (Ty.st SN.shape)))) ao]=y.2/\s=s/\false=false/\s.parts=s.parts/\(↑(List.length s.parts):Int)=(↑(List.length s.parts):Int)/\List.length (x.2++[Option.getD (fillS (b6 []) (List.getD s.parts (Int.toNat (↑x.1:Int)) (dfl (Ty.st SN.shape)))) ao])=List.length y.2/\s=s/\(0:Int)=(0:Int)/\aE UInt8=aE UInt8/\aE UInt8=aE UInt8/\True else List.length s.names *(16:Nat)<=(140737488355328:Nat)/\True/\s.kind=(Option.getD (fillS (b6 []) s) ao).kind/\s.pkg=(Option.getD (fillS (b6 []) s) ao).pkg/\s.name=(Option.getD (fillS (b6 []) s) ao).name/\s.names=(Option.getD (fillS (b6 []) s) ao).names/\x.2=(Option.getD (fillS (b6 []) s) ao).parts/\true=Option.isSome (fillS (b6 []) s)/\True:=by
 have fs:=mZ os
 have zs:=gV s
 have ln:=hs.parts.len
 have lz:=kN s.parts
 simp only [Int.toNat_natCast,eq_self,true_and,and_true]
 refine ab (fun h9=>?_) (fun h9=>?_)
 ·simp only [decide_eq_true_eq] at h9
  rw [kW,if_pos h9]
  exact ⟨rfl,rfl⟩
 simp only [decide_eq_true_eq] at h9
 have hf:fillS (b6 []) s=(fillL (b6 []) s.parts).map fun q=>⟨s.kind,s.pkg,s.name,s.names,q⟩:=by rw [kW,if_neg h9]
 refine ⟨⟨by omega,by omega⟩,⟨(0,[]),⟨Nat.zero_le _,rfl,by simp⟩,rfl,rfl,rfl⟩,?_⟩
 rintro ⟨k,q⟩ ⟨h1,h2,h3⟩
 dsimp only at h1 h2 h3 ⊢
 refine ab (fun h=>?_) (fun h=>?_)
 ·replace h:=Xo h
  have hk:k < s.parts.length:=by omega
  rw [aH s.parts k (dfl (.st .shape)) hk] at h3
  simp only [fillL] at h3
  have m1:=getD_mem s.parts k (dfl (.st .shape)) hk
  have s1:=dG m1
  refine ⟨by omega,⟨by omega,by omega,ew fs.2 m1⟩,?_⟩
  cases hx:fillS (b6 []) (s.parts.getD k (dfl (.st .shape))) with
  | none=>
   rw [hx] at h3
   refine ab (fun c=>?_) (fun c=>absurd rfl c)
   rw [hf,h3]
   exact ⟨rfl,rfl,rfl,rfl,rfl,rfl⟩
  | some x=>
   rw [hx] at h3
   refine ab (fun c=>absurd c Bool.false_ne_true) (fun c=>?_)
   refine ⟨by simp only [Option.getD,List.length_cons,List.length_nil];omega,bg hk ln,(k+1,q++[x]),⟨by omega,by simp [h2],?_⟩,by dsimp only;omega,by dsimp only;omega,rfl,rfl⟩
   rw [h3]
   cases fillL (b6 []) (s.parts.drop (k+1)) with
   | none=>rfl
   | some l=>simp
 ·replace h:¬((k:Int) < (s.parts.length:Int)):=fun e=>h (Xd e)
  have e:k=s.parts.length:=by omega
  subst e
  rw [List.drop_length] at h3
  simp only [fillL,Option.map,List.append_nil] at h3
  rw [hf,h3]
  refine ⟨?_,rfl,rfl,rfl,rfl,rfl,rfl⟩
  rcases kU fs.1 with g | g
  ·rw [g];simp
  ·omega
theorem Bp (n:Nat) (m:List (Nam × Shape)) (s:Shape) (hs:Wf (.st .shape) s) (hn:sz s<=n+1) (h4:n+1<=400) (os:allS aq s=true) :
  if decide (s.kind=(9:Int))=true then True/\Option.getD (b6 m s.pkg s.name) ao=Option.getD (fillS (b6 m) s) ao/\Option.isSome (b6 m s.pkg s.name)=Option.isSome (fillS (b6 m) s)/\m=m/\True else ((0:Int)<=(↑(List.length s.parts):Int)/\(↑(List.length s.parts):Int) *(↑(88:Nat):Int)<=(140737488355328:Int))/\(∃(x:Nat × List Shape),(x.1<=List.length s.parts/\List.length x.2=x.1/\fillL (b6 m) s.parts=Option.map (fun (x_1:List Shape) ↦x.2++x_1) (fillL (b6 m) (List.drop x.1 s.parts)))/\(0:Int)=(↑x.1:Int)/\[]=x.2/\s=s/\false=false/\s.parts=s.parts/\(↑(List.length s.parts):Int)=(↑(List.length s.parts):Int)/\(0:Nat)=List.length x.2/\m=m/\s=s/\(0:Int)=(0:Int)/\aE UInt8=aE UInt8/\aE UInt8=aE UInt8/\True)/\∀(x:Nat × List Shape),x.1<=List.length s.parts/\List.length x.2=x.1/\fillL (b6 m) s.parts=Option.map (fun (x_1:List Shape) ↦x.2++x_1) (fillL (b6 m) (List.drop x.1 s.parts))→if decide ((↑x.1:Int) < (↑(List.length s.parts):Int))=true then ((0:Int)<=(↑x.1:Int)/\(↑x.1:Int) < (↑(List.length s.parts):Int))/\(sz (List.getD s.parts (Int.toNat (↑x.1:Int)) (dfl (Ty.st SN.shape)))<=n/\n<=(400:Nat)/\allS aq (List.getD s.parts (Int.toNat (↑x.1:Int)) (dfl (Ty.st SN.shape)))=true)/\if (!Option.isSome (fillS (b6 m) (List.getD s.parts (Int.toNat (↑x.1:Int)) (dfl (Ty.st SN.shape)))))=true then True/\(0:Int)=(Option.getD (fillS (b6 m) s) ao).kind/\[]=(Option.getD (fillS (b6 m) s) ao).pkg/\[]=(Option.getD (fillS (b6 m) s) ao).name/\(Option.getD (fillS (b6 m) s) ao).names=[]/\(Option.getD (fillS (b6 m) s) ao).parts=[]/\false=Option.isSome (fillS (b6 m) s)/\m=m/\True else (List.length x.2=List.length x.2/\(List.length x.2+List.length [Option.getD (fillS (b6 m) (List.getD s.parts (Int.toNat (↑x.1:Int)) (dfl (Ty.st SN.shape)))) ao]) *(88:Nat)<=(140737488355328:Nat))/\inR IntKind.i64 ((↑x.1:Int)+(1:Int))/\∃(y:Nat × List Shape),(y.1<=List.length s.parts/\List.length y.2=y.1/\fillL (b6 m) s.parts=Option.map (fun (x:List Shape) ↦y.2++x) (fillL (b6 m) (List.drop y.1 s.parts)))/\List.length s.parts - y.1 < List.length s.parts - x.1/\(↑x.1:Int)+(1:Int)=(↑y.1:Int)/\x.2++[Option.getD (fillS (b6 m) (List.getD s.parts (Int.toNat (↑x.1:Int)) (dfl (Ty.st SN.shape)))) ao]=y.2/\s=s/\false=false/\s.parts=s.parts/\(↑(List.length s.parts):Int)=(↑(List.length s.parts):Int)/\List.length (x.2++[Option.getD (fillS (b6 m) (List.getD s.parts (Int.toNat (↑x.1:Int)) (dfl (Ty.st SN.shape)))) ao])=List.length y.2/\m=m/\s=s/\(0:Int)=(0:Int)/\aE UInt8=aE UInt8/\aE UInt8=aE UInt8/\True else List.length s.names *(16:Nat)<=(140737488355328:Nat)/\True/\s.kind=(Option.getD (fillS (b6 m) s) ao).kind/\s.pkg=(Option.getD (fillS (b6 m) s) ao).pkg/\s.name=(Option.getD (fillS (b6 m) s) ao).name/\s.names=(Option.getD (fillS (b6 m) s) ao).names/\x.2=(Option.getD (fillS (b6 m) s) ao).parts/\true=Option.isSome (fillS (b6 m) s)/\m=m/\True:=by
 have fs:=mZ os
 have zs:=gV s
 have ln:=hs.parts.len
 have lz:=kN s.parts
 simp only [Int.toNat_natCast,eq_self,true_and,and_true]
 refine ab (fun h9=>?_) (fun h9=>?_)
 ·simp only [decide_eq_true_eq] at h9
  rw [kW,if_pos h9]
  exact ⟨rfl,rfl⟩
 simp only [decide_eq_true_eq] at h9
 have hf:fillS (b6 m) s=(fillL (b6 m) s.parts).map fun q=>⟨s.kind,s.pkg,s.name,s.names,q⟩:=by rw [kW,if_neg h9]
 refine ⟨⟨by omega,by omega⟩,⟨(0,[]),⟨Nat.zero_le _,rfl,by simp⟩,rfl,rfl,rfl⟩,?_⟩
 rintro ⟨k,q⟩ ⟨h1,h2,h3⟩
 dsimp only at h1 h2 h3 ⊢
 refine ab (fun h=>?_) (fun h=>?_)
 ·replace h:=Xo h
  have hk:k < s.parts.length:=by omega
  rw [aH s.parts k (dfl (.st .shape)) hk] at h3
  simp only [fillL] at h3
  have m1:=getD_mem s.parts k (dfl (.st .shape)) hk
  have s1:=dG m1
  refine ⟨by omega,⟨by omega,by omega,ew fs.2 m1⟩,?_⟩
  cases hx:fillS (b6 m) (s.parts.getD k (dfl (.st .shape))) with
  | none=>
   rw [hx] at h3
   refine ab (fun c=>?_) (fun c=>absurd rfl c)
   rw [hf,h3]
   exact ⟨rfl,rfl,rfl,rfl,rfl,rfl⟩
  | some x=>
   rw [hx] at h3
   refine ab (fun c=>absurd c Bool.false_ne_true) (fun c=>?_)
   refine ⟨by simp only [Option.getD,List.length_cons,List.length_nil];omega,bg hk ln,(k+1,q++[x]),⟨by omega,by simp [h2],?_⟩,by dsimp only;omega,by dsimp only;omega,rfl,rfl⟩
   rw [h3]
   cases fillL (b6 m) (s.parts.drop (k+1)) with
   | none=>rfl
   | some l=>simp
 ·replace h:¬((k:Int) < (s.parts.length:Int)):=fun e=>h (Xd e)
  have e:k=s.parts.length:=by omega
  subst e
  rw [List.drop_length] at h3
  simp only [fillL,Option.map,List.append_nil] at h3
  rw [hf,h3]
  refine ⟨?_,rfl,rfl,rfl,rfl,rfl,rfl⟩
  rcases kU fs.1 with g | g
  ·rw [g];simp
  ·omega
theorem zm   :
  (∃(x:Nat),True/\(0:Int)=(0:Int)/\aE (den (Ty.st SN.bind))=aE (den (Ty.st SN.bind))/\aE (den (Ty.st SN.bind))=aE (den (Ty.st SN.bind))/\(↑(List.length ([]:List Bndg)):Int)=(↑(List.length ([]:List Bndg)):Int)/\True)/\∀(x:Nat),True→True/\True:=by
 exact ⟨⟨0,trivial,rfl,rfl,rfl,rfl,trivial⟩,fun _ _=>⟨trivial,trivial⟩⟩
theorem zn (b:Bndg) (r:List Bndg) (hl:Wf (.lst (.st .bind)) (b ::r)) :
  if decide ((0:Int) < (↑(List.length (b ::r)):Int))=true then ((0:Int)<=(0:Int)/\(0:Int) < (↑(List.length (b ::r)):Int))/\inR IntKind.i64 ((0:Int)+(1:Int))/\(∃(x:Nat × List (Nam × Shape)),(x.1<=List.length (b ::r)/\mA (List.drop x.1 (b ::r)) x.2=gx (b ::r))/\(0:Int)+(1:Int)=(↑x.1:Int)/\b ::r=b ::r/\b ::r=b ::r/\(↑(List.length (b ::r)):Int)=(↑(List.length (b ::r)):Int)/\dK [] {pkg:=(List.getD (b ::r) (Int.toNat (0:Int)) (dfl (Ty.st SN.bind))).pkg,name:=(List.getD (b ::r) (Int.toNat (0:Int)) (dfl (Ty.st SN.bind))).name:Nam} (List.getD (b ::r) (Int.toNat (0:Int)) (dfl (Ty.st SN.bind))).shape=x.2/\True)/\∀(x:Nat × List (Nam × Shape)),x.1<=List.length (b ::r)/\mA (List.drop x.1 (b ::r)) x.2=gx (b ::r)→if decide ((↑x.1:Int) < (↑(List.length (b ::r)):Int))=true then ((0:Int)<=(↑x.1:Int)/\(↑x.1:Int) < (↑(List.length (b ::r)):Int))/\inR IntKind.i64 ((↑x.1:Int)+(1:Int))/\∃(y:Nat × List (Nam × Shape)),(y.1<=List.length (b ::r)/\mA (List.drop y.1 (b ::r)) y.2=gx (b ::r))/\List.length (b ::r) - y.1 < List.length (b ::r) - x.1/\(↑x.1:Int)+(1:Int)=(↑y.1:Int)/\b ::r=b ::r/\b ::r=b ::r/\(↑(List.length (b ::r)):Int)=(↑(List.length (b ::r)):Int)/\dK x.2 {pkg:=(List.getD (b ::r) (Int.toNat (↑x.1:Int)) (dfl (Ty.st SN.bind))).pkg,name:=(List.getD (b ::r) (Int.toNat (↑x.1:Int)) (dfl (Ty.st SN.bind))).name:Nam} (List.getD (b ::r) (Int.toNat (↑x.1:Int)) (dfl (Ty.st SN.bind))).shape=y.2/\True else True/\x.2=gx (b ::r)/\True else True/\False:=by
 have ln:=hl.len
 refine ab (fun _=>?_) (fun h=>absurd (Xd (by simp only [List.length_cons];omega)) h)
 simp only [Int.toNat_natCast,eq_self,true_and,and_true]
 refine ⟨by simp only [List.length_cons];omega,bJ (by omega) (by omega),⟨(1,dK [] ⟨b.pkg,b.name⟩ b.shape),⟨by simp,rfl⟩,rfl,rfl⟩,?_⟩
 rintro ⟨k,m⟩ ⟨h1,h2⟩
 dsimp only at h1 h2 ⊢
 refine ab (fun h=>?_) (fun h=>?_)
 ·replace h:=Xo h
  have hk:k < (b ::r).length:=by omega
  rw [aH (b ::r) k (dfl (.st .bind)) hk] at h2
  exact ⟨by omega,bg hk ln,(k+1,_),⟨by omega,h2⟩,by dsimp only;omega,by dsimp only;omega,rfl⟩
 ·replace h:¬((k:Int) < ((b ::r).length:Int)):=fun e=>h (Xd e)
  have e:k=(b ::r).length:=by omega
  subst e
  rw [List.drop_length] at h2
  exact h2
end Go.AL.Seat
end
