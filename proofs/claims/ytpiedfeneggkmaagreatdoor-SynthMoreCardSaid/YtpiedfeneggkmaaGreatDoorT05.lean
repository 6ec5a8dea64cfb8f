/- Plain facts. The layer: Go code as conditions, and that they are sound. What the functions' conditions say, proved. The contracts of the functions. No condition. -/
import Derived.Test.YtpiedfeneggkmaaGreatDoorT04
import Derived.BigQuiet
import Derived.Deep.QuietTactic
import Derived.KernelRfl
import Derived.Recover
import Derived.Shelf.SlSortCmp.Whole1
import Derived.Shelf.Slices.Clone
import Derived.Shelf.Small.Strs
import Derived.Sort.Walk0
import Derived.Test.YtpiedfeneggkmaaGreatDoorProg
set_option linter.all false
set_option maxRecDepth 100000
section
namespace Go.Proofs.YtpiedfeneggkmaaGreatDoor.Join
open Go.AL Go.AL.Seat Go.ChangeShapes Go.WideShapes Go.RowKit Go.Lib Go.Shelf
set_option maxRecDepth 1000000
theorem CX:TermAt Tryz.prog 26:=⟨_,_,_,_,_,_,_,_,_,9,34,Tryz.underlying26,by kernel_rfl,⟨rfl,rfl,rfl,rfl,rfl,rfl,rfl,rfl,rfl⟩,⟨by kernel_rfl,by kernel_rfl,by kernel_rfl,by kernel_rfl,by kernel_rfl,by kernel_rfl,by kernel_rfl,by kernel_rfl,by kernel_rfl⟩,
 ⟨by kernel_rfl,by kernel_rfl,by kernel_rfl,by kernel_rfl,by kernel_rfl,by kernel_rfl,by kernel_rfl,by kernel_rfl,by kernel_rfl⟩,⟨by kernel_rfl,by kernel_rfl,by kernel_rfl⟩,wU⟩
theorem Ds:48 < Tryz.prog.types.size:=Xo (by kernel_rfl)
theorem Dt:Tryz.prog.readableRec 26=true:=by kernel_rfl
theorem Du:Tryz.prog.readableRec 48=true:=by kernel_rfl
end Go.Proofs.YtpiedfeneggkmaaGreatDoor.Join
end
section
open Go Go.AL Go.Proofs
namespace Go.AL.Seat
variable [Tabs]
def r1:TR:=⟨.other,1,8,[.undef],none⟩
def r2:TR:=⟨.int .i64,1,8,[.int .i64 0],some (.int .i64)⟩
def r5:TR:=⟨.int .u8,1,1,[.int .u8 0],some (.int .u8)⟩
def r7:TR:=⟨.strct true [(0,2),(1,3),(2,4),(3,6)],4,24,[.int .i64 0,.int .i64 0,.bool false,.int .u8 0],none⟩
def r9:TR:=⟨.str,1,16,[.str []],some .str⟩
def r12:TR:=⟨.int .u64,1,8,[.int .u64 0],some (.int .u64)⟩
def r13:TR:=⟨.strct false [(0,9),(1,12)],2,24,[.str [],.int .u64 0],none⟩
def r18:TR:=⟨.strct false [(0,17)],1,8,[.nilp],none⟩
def r20:TR:=⟨.iface,1,16,[.nilif],none⟩
def r21:TR:=⟨.int .i32,1,4,[.int .i32 0],some (.int .i32)⟩
def r90:TR:=⟨.strct true [(0,9),(1,3)],2,24,[.str [],.int .i64 0],none⟩
def r92:TR:=⟨.strct false [(0,91),(2,70),(3,37)],5,64,[.str [],.int .i64 0,.nils,.int .i64 0,.int .i64 0],none⟩
def r118:TR:=⟨.strct true [(0,3),(1,3),(2,3),(3,3)],4,32,[.int .i64 0,.int .i64 0,.int .i64 0,.int .i64 0],none⟩
def r125:TR:=⟨.strct false [],0,0,[],none⟩
def r222:TR:=⟨.strct true [(0,5),(1,5)],2,2,[.int .u8 0,.int .u8 0],none⟩
def r257:TR:=⟨.strct false [(0,256)],1,8,[.undef],none⟩
def r265:TR:=⟨.strct false [(0,264)],1,8,[.nilm],none⟩
def r279:TR:=⟨.strct false [(0,9),(1,9),(2,197)],3,48,[.str [],.str [],.nilif],none⟩
def r289:TR:=⟨.strct true [(0,9)],1,16,[.str []],none⟩
def r303:TR:=⟨.strct false [(0,17),(1,17),(2,17),(3,9)],4,40,[.nilp,.nilp,.nilp,.str []],none⟩
def r314:TR:=⟨.strct false [(0,12),(1,12),(2,180),(3,309),(4,5),(5,5),(6,310),(7,311),(8,287),(9,312),(10,313)],11,48,[.int .u64 0,.int .u64 0,.int .u32 0,.int .u8 0,.int .u8 0,.int .u8 0,.int .u8 0,.undef,.nilp,.int .i32 0,.int .i32 0],none⟩
def tbl:List (Nat × TR):=[(1,r1),
 (2,r2),
 (3,r2),
 (4,⟨.bool,1,1,[.bool false],some .bool⟩),
 (5,r5),
 (6,r5),
 (7,r7),
 (8,r7),
 (9,r9),
 (10,r9),
 (11,r9),
 (12,r12),
 (13,r13),
 (14,r13),
 (15,⟨.ptr 304,1,8,[.nilp],none⟩),
 (16,⟨.ptr 307,1,8,[.nilp],none⟩),
 (17,⟨.ptr 315,1,8,[.nilp],none⟩),
 (18,r18),
 (19,r18),
 (20,r20),
 (21,r21),
 (22,⟨.slice 9,1,24,[.nils],some (.lst .str)⟩),
 (23,⟨.slice 34,1,24,[.nils],some (.lst (.st .shape))⟩),
 (24,⟨.slice 26,1,24,[.nils],some (.lst (.st .term))⟩),
 (25,⟨.strct false [(0,3),(1,9),(2,9),(3,3),(4,22),(5,22),(6,23),(7,24),(8,3)],9,152,[.int .i64 0,.str [],.str [],.int .i64 0,.nils,.nils,.nils,.nils,.int .i64 0],none⟩),
 (26,⟨.strct false [(0,3),(1,9),(2,9),(3,3),(4,22),(5,22),(6,23),(7,24),(8,3)],9,152,[.int .i64 0,.str [],.str [],.int .i64 0,.nils,.nils,.nils,.nils,.int .i64 0],some (.st .term)⟩),
 (27,⟨.slice 48,1,24,[.nils],some (.lst (.st .bind))⟩),
 (28,⟨.strct false [(0,9),(1,27),(2,27),(3,27)],4,88,[.str [],.nils,.nils,.nils],none⟩),
 (29,⟨.strct false [(0,9),(1,27),(2,27),(3,27)],4,88,[.str [],.nils,.nils,.nils],some (.st .env)⟩),
 (30,r1),
 (31,r1),
 (32,r1),
 (33,⟨.strct false [(0,3),(1,9),(2,9),(3,22),(4,23)],5,88,[.int .i64 0,.str [],.str [],.nils,.nils],none⟩),
 (34,⟨.strct false [(0,3),(1,9),(2,9),(3,22),(4,23)],5,88,[.int .i64 0,.str [],.str [],.nils,.nils],some (.st .shape)⟩),
 (35,r2),
 (36,⟨.strct true [(0,35),(1,3)],2,16,[.int .i64 0,.int .i64 0],none⟩),
 (37,⟨.strct true [(0,35),(1,3)],2,16,[.int .i64 0,.int .i64 0],some (.st .fault)⟩),
 (39,r1),
 (40,r1),
 (41,r1),
 (42,r1),
 (43,r1),
 (44,r1),
 (45,r1),
 (46,r1),
 (47,⟨.strct false [(0,9),(1,9),(2,34)],7,120,[.str [],.str [],.int .i64 0,.str [],.str [],.nils,.nils],none⟩),
 (48,⟨.strct false [(0,9),(1,9),(2,34)],7,120,[.str [],.str [],.int .i64 0,.str [],.str [],.nils,.nils],some (.st .bind)⟩),
 (49,r1),
 (50,r1),
 (51,r1),
 (52,r1),
 (53,r1),
 (54,r1),
 (55,r1),
 (56,r1),
 (57,r1),
 (59,r1),
 (60,r1),
 (61,r1),
 (62,r1),
 (63,r1),
 (64,r1),
 (65,r1),
 (67,r1),
 (68,r1),
 (69,r1),
 (70,⟨.slice 99,1,24,[.nils],some (.lst (.st .token))⟩),
 (72,r1),
 (74,r1),
 (75,r1),
 (76,r1),
 (77,⟨.slice 3,1,24,[.nils],some (.lst (.int .i64))⟩),
 (78,r1),
 (80,r1),
 (81,r1),
 (83,r1),
 (84,r1),
 (85,r1),
 (86,r1),
 (87,r1),
 (88,r1),
 (89,⟨.ptr 93,1,8,[.nilp],none⟩),
 (90,r90),
 (91,r90),
 (92,r92),
 (93,r92),
 (94,r1),
 (95,r1),
 (96,r1),
 (97,r1),
 (98,⟨.strct true [(0,3),(1,9),(2,3)],3,32,[.int .i64 0,.str [],.int .i64 0],none⟩),
 (99,⟨.strct true [(0,3),(1,9),(2,3)],3,32,[.int .i64 0,.str [],.int .i64 0],some (.st .token)⟩),
 (100,⟨.ptr 105,1,8,[.nilp],none⟩),
 (101,r1),
 (102,⟨.strct false [(0,70),(1,3),(2,37)],4,48,[.nils,.int .i64 0,.int .i64 0,.int .i64 0],none⟩),
 (103,⟨.strct false [(0,70),(1,3),(2,37)],4,48,[.nils,.int .i64 0,.int .i64 0,.int .i64 0],some (.st .par)⟩),
 (104,⟨.strct false [(0,103)],4,48,[.nils,.int .i64 0,.int .i64 0,.int .i64 0],none⟩),
 (105,⟨.strct false [(0,103)],4,48,[.nils,.int .i64 0,.int .i64 0,.int .i64 0],some (.st .par)⟩),
 (106,r1),
 (107,r1),
 (108,r1),
 (110,r1),
 (111,r1),
 (112,r1),
 (114,r1),
 (116,r1),
 (117,r1),
 (118,r118),
 (119,r118),
 (120,r1),
 (121,r1),
 (122,r1),
 (123,r1),
 (124,r1),
 (125,r125),
 (126,r125),
 (128,r1),
 (129,r1),
 (130,r1),
 (131,r12),
 (132,r1),
 (133,r1),
 (134,r1),
 (135,⟨.ptr 91,1,8,[.nilp],none⟩),
 (137,r1),
 (138,r1),
 (139,r1),
 (140,r1),
 (141,⟨.strct true [(0,3),(1,3),(2,3),(3,9)],4,40,[.int .i64 0,.int .i64 0,.int .i64 0,.str []],none⟩),
 (142,⟨.strct true [(0,3),(1,3),(2,3),(3,9)],4,40,[.int .i64 0,.int .i64 0,.int .i64 0,.str []],some (.st .version)⟩),
 (144,r1),
 (146,r1),
 (147,⟨.ptr 103,1,8,[.nilp],none⟩),
 (148,r1),
 (149,r1),
 (150,r1),
 (151,r1),
 (152,r1),
 (153,r1),
 (154,r1),
 (156,r1),
 (158,r1),
 (159,r1),
 (160,r1),
 (162,r1),
 (163,r1),
 (164,⟨.slice 5,1,24,[.nils],some (.lst (.int .u8))⟩),
 (165,r1),
 (166,r1),
 (167,r1),
 (168,r1),
 (169,r1),
 (170,r1),
 (171,r1),
 (172,r2),
 (174,r1),
 (175,r1),
 (176,r1),
 (178,r1),
 (179,r1),
 (180,⟨.int .u32,1,4,[.int .u32 0],some (.int .u32)⟩),
 (181,r1),
 (182,r12),
 (184,r1),
 (185,r1),
 (189,r1),
 (190,r1),
 (191,⟨.ptr 187,1,8,[.nilp],none⟩),
 (193,r1),
 (194,r1),
 (195,⟨.arr 3 3,3,24,[.int .i64 0,.int .i64 0,.int .i64 0],none⟩),
 (196,r20),
 (197,r20),
 (199,r1),
 (200,r1),
 (201,r1),
 (202,r1),
 (203,r1),
 (205,r1),
 (206,r1),
 (207,r1),
 (208,r1),
 (209,r1),
 (210,r1),
 (212,r1),
 (213,r1),
 (214,r1),
 (216,r1),
 (217,r1),
 (218,r1),
 (219,r1),
 (220,r1),
 (222,r222),
 (223,r222),
 (225,r1),
 (226,r1),
 (227,r12),
 (228,r1),
 (229,r1),
 (230,r1),
 (231,⟨.ptr 3,1,8,[.nilp],none⟩),
 (232,r1),
 (233,r1),
 (234,r1),
 (235,r1),
 (236,r1),
 (237,⟨.ptr 258,1,8,[.nilp],none⟩),
 (238,r1),
 (239,r1),
 (240,⟨.ptr 266,1,8,[.nilp],none⟩),
 (241,r1),
 (242,r1),
 (243,r1),
 (244,r1),
 (245,r1),
 (246,⟨.ptr 227,1,8,[.nilp],none⟩),
 (247,r1),
 (248,r1),
 (249,r1),
 (250,r2),
 (252,r1),
 (253,⟨.ptr 280,1,8,[.nilp],none⟩),
 (254,r1),
 (255,r1),
 (256,r1),
 (257,r257),
 (258,r257),
 (259,⟨.ptr 34,1,8,[.nilp],none⟩),
 (260,r1),
 (261,r1),
 (262,⟨.strct true [(0,9),(1,9)],2,32,[.str [],.str []],none⟩),
 (263,⟨.strct true [(0,9),(1,9)],2,32,[.str [],.str []],some (.st .nm)⟩),
 (264,⟨.map 263 34,1,8,[.nilm],none⟩),
 (265,r265),
 (266,r265),
 (267,r1),
 (268,r1),
 (269,r1),
 (270,r1),
 (271,r1),
 (272,r1),
 (273,r1),
 (274,r1),
 (275,r1),
 (277,r1),
 (278,r1),
 (279,r279),
 (280,r279),
 (281,r1),
 (282,r1),
 (283,r1),
 (285,r1),
 (286,r1),
 (287,⟨.ptr 5,1,8,[.nilp],none⟩),
 (288,⟨.ptr 290,1,8,[.nilp],none⟩),
 (289,r289),
 (290,r289),
 (291,r1),
 (292,r1),
 (294,r1),
 (296,r1),
 (297,r1),
 (302,r1),
 (303,r303),
 (304,r303),
 (308,r1),
 (309,r5),
 (310,r5),
 (311,r1),
 (312,r21),
 (313,r21),
 (314,r314),
 (315,r314)]
theorem tk {t:Nat} {r:TR} (h1:(Tryz.prog.info? t).map (fun i=>(i.size,i.bytes,i.zero.map fun z=>z.cells.toList.map bG))=some (r.size,r.bytes,some r.zero):=by kernel_rfl)
  (h2:(Tryz.prog.underlying t).map (aP Tryz.prog r.ti)=some true:=by kernel_rfl)
  (h3:(dV r.zero r.size && (Nat.beq r.size 0 || Nat.blt 0 r.bytes) && (match r.ty with | some τ=>Nat.beq (ah τ) r.size && (Bt τ ==r.isAgg) | none=>true))=true:=by kernel_rfl)
  (h8:(Tryz.prog.info? t).map (fun i=>i.zero.map fun z=>uz z ==r.isAgg)=some (some true):=by kernel_rfl)
  (h9:(match r.ti with | .strct true _=>!Tryz.prog.stoodInHeld t && !Tryz.prog.eqGuardType Tryz.prog.depth t | _=>true)=true:=by kernel_rfl):TRok Tryz.prog t r:=TRok.mk' h1 h2 h3 h8 h9
theorem oi:ba Tryz.prog tbl:=
 .cons tk (.cons tk (.cons tk (.cons tk (.cons tk (.cons tk (.cons tk (.cons tk (.cons tk (.cons tk (.cons tk (.cons tk (.cons tk (.cons tk (.cons tk (.cons tk (.cons tk (.cons tk (.cons tk (.cons tk (.cons tk (.cons tk (.cons tk (.cons tk (.cons tk (.cons tk (.cons tk (.cons tk (.cons tk (.cons tk (.cons tk (.cons tk (.cons tk (.cons tk (.cons tk (.cons tk (.cons tk (.cons tk (.cons tk (.cons tk (.cons tk (.cons tk (.cons tk (.cons tk (.cons tk (.cons tk (.cons tk (.cons tk (.cons tk (.cons tk (.cons tk (.cons tk (.cons tk (.cons tk (.cons tk (.cons tk (.cons tk (.cons tk (.cons tk (.cons tk (.cons tk (.cons tk (.cons tk (.cons tk (.cons tk (.cons tk (.cons tk (.cons tk (.cons tk (.cons tk (.cons tk (.cons tk (.cons tk (.cons tk (.cons tk (.cons tk (.cons tk (.cons tk (.cons tk (.cons tk (.cons tk (.cons tk (.cons tk (.cons tk (.cons tk (.cons tk (.cons tk (.cons tk (.cons tk (.cons tk (.cons tk (.cons tk (.cons tk (.cons tk (.cons tk (.cons tk (.cons tk (.cons tk (.cons tk (.cons tk (.cons tk (.cons tk (.cons tk (.cons tk (.cons tk (.cons tk (.cons tk (.cons tk (.cons tk (.cons tk (.cons tk (.cons tk (.cons tk (.cons tk (.cons tk (.cons tk (.cons tk (.cons tk (.cons tk (.cons tk (.cons tk (.cons tk (.cons tk (.cons tk (.cons tk (.cons tk (.cons tk (.cons tk (.cons tk (.cons tk (.cons tk (.cons tk (.cons tk (.cons tk (.cons tk (.cons tk (.cons tk (.cons tk (.cons tk (.cons tk (.cons tk (.cons tk (.cons tk (.cons tk (.cons tk (.cons tk (.cons tk (.cons tk (.cons tk (.cons tk (.cons tk (.cons tk (.cons tk (.cons tk (.cons tk (.cons tk (.cons tk (.cons tk (.cons tk (.cons tk (.cons tk (.cons tk (.cons tk (.cons tk (.cons tk (.cons tk (.cons tk (.cons tk (.cons tk (.cons tk (.cons tk (.cons tk (.cons tk (.cons tk (.cons tk (.cons tk (.cons tk (.cons tk (.cons tk (.cons tk (.cons tk (.cons tk (.cons tk (.cons tk (.cons tk (.cons tk (.cons tk (.cons tk (.cons tk (.cons tk (.cons tk (.cons tk (.cons tk (.cons tk (.cons tk (.cons tk (.cons tk (.cons tk (.cons tk (.cons tk (.cons tk (.cons tk (.cons tk (.cons tk (.cons tk (.cons tk (.cons tk (.cons tk (.cons tk (.cons tk (.cons tk (.cons tk (.cons tk (.cons tk (.cons tk (.cons tk (.cons tk (.cons tk (.cons tk (.cons tk (.cons tk (.cons tk (.cons tk (.cons tk (.cons tk (.cons tk (.cons tk (.cons tk (.cons tk (.cons tk (.cons tk (.cons tk (.cons tk (.cons tk (.cons tk (.cons tk (.cons tk (.cons tk (.cons tk (.cons tk (.cons tk (.cons tk (.cons tk (.cons tk (.cons tk (.cons tk (.cons tk (.cons tk (.cons tk (.cons tk (.cons tk (.cons tk (.cons tk (.cons tk (.cons tk (.cons tk (.cons tk (.cons tk (.cons tk (.cons tk (.cons tk (.cons tk (.cons tk (.cons tk (.cons tk (.cons tk (.cons tk (.cons tk (.cons tk (.cons tk (.cons tk (.cons tk (.cons tk (.nil)))))))))))))))))))))))))))))))))))))))))))))))))))))))))))))))))))))))))))))))))))))))))))))))))))))))))))))))))))))))))))))))))))))))))))))))))))))))))))))))))))))))))))))))))))))))))))))))))))))))))))))))))))))))))))))))))))))))))))))))))))))))))))))))))))))))))))))))))
theorem mixed:Tryz.prog.follows .mixedOrders=true:=by kernel_rfl
end Go.AL.Seat
end
noncomputable section
namespace Go.AL
variable [Tabs]
def CY:AV→Bool
 | .ptr k 0=>bz k
 | _=>false
def ptrIn (ks:List Nat):AV→Bool
 | .ptr k _=>ks.contains k
 | _=>false
def BW (ks:List Nat) (t:List (Nat × AV)):List (Nat × AV):=t.map fun x=>(x.1,if ptrIn ks x.2 then x.2 else .undef)
structure RC where
 r0:Code
 rest:Code
 crest:Code
 t5:Nat
 caps:List Operand
 t6:Nat
 t3:Nat
def CZ (g:Nat) (c cc:Code):Option RC:=
 match c,cc with
 | .seq r0 (.seq (.region _ o1 false) rest),.seq (.region _ o2 false) crest=>
  match o1.toList,o2.toList with
  | [⟨some t5,.makeFunc (.func g') fst caps,_,_,_,none⟩,⟨none,.defer ⟨.value (.tmp t5'),asx,_⟩,_,_,_,none⟩],
   [⟨some t6,.call ⟨.builtin .recover,as2,_⟩,_,_,_,none⟩,⟨some t3,.assign (.tmp t6'),_,_,_,none⟩]=>
   if Nat.beq g' g && Nat.beq t5' t5 && Nat.beq t6' t6 && fst.isEmpty && asx.isEmpty && as2.isEmpty then some ⟨r0,rest,crest,t5,caps.toList,t6,t3⟩ else none
  | _,_=>none
 | _,_=>none
def Aq (C:Cfg) (rs:List ResultVar) (L:List cO) (s1:St) (S1:List (Nat × SObj)) (S:List (Nat × SObj)) (A:Ans) (t2:List (Nat × AV)) (s3:St):Prop:=
 match b9 (aM s3.b) && (aM S1).all (fun k=>(aM s3.b).contains k) with
 | true=>
  match iy C.tbl ⟨BW (aM S1) t2,s3.b⟩ rs with
  | some l=>
   (match iw (aw s1.b) L 998 (fh S1 s3.b),mapVs (lD L 998) (fg L 998) (fg L 998) l with
   | some u',some l'=>dZ ⟨[],bR s1.b u'⟩ fun s4=>py (some l') s4 A.val (bR S A.upd)
   | _,_=>False)
  | none=>False
 | false=>False
def sW (C:Cfg) (annC:An) (clo:Func) (R:RC) (caps:List AV) (v:AV) (s2:St) (fin:St→Prop):Prop:=
 fZ (List.range clo.ntmps) fun keep=>dZ ⟨gO (cv 0 caps) R.t3 v,s2.b⟩ fun s=>swp C keep annC R.crest s fun
  | .exit _,_=>False
  | .pan _,_=>False
  | _,s3=>fin s3
def fwpR (C:Cfg) (ann annC:An) (fn:Func) (g:Nat) (clo:Func) (args:List AV) (S:List (Nat × SObj)) (A:Ans):Prop:=
 match fn.body,clo.body,A.pan with
 | some c,some cc,none=>
  match CZ g c cc with
  | none=>False
  | some R=>
   match bB fn.ntmps c && bB clo.ntmps cc && Nat.blt R.t5 fn.ntmps && jy args fn.ntmps && (aM S).all bz && clo.results.isEmpty && jy R.caps clo.ntmps && jy R.caps R.t6 with
   | false=>False
   | true=>fZ ((List.range fn.ntmps)) fun keep=>dZ ⟨cv 0 args,S⟩ fun i=>swp C keep ann R.r0 i fun
    | .normal,s1=>
     (match (aM s1.b).map (fun i=>(i,(none:Option (Nat × Nat)))) with
     | L=>
      (match b9 (L.map (·.1)) && Nat.ble L.length 100,mapVs (toP L) (toI L) (toI L) ((List.range fn.ntmps).map (b8 s1.t)),mapVs (toP L) (toI L) (toI L) (R.caps.map (opd (b8 s1.t))),ke (aw s1.b) L L 900 with
      | true,some as1,some caps,some S1=>
       (match caps.all CY with
       | true=>dZ ⟨gO (cv 0 as1) R.t5 .undef,S1⟩ fun i=>swp C keep ann R.rest i fun
        | .exit _,_=>False
        | .pan v,s2=>sW C annC clo R caps v s2 (Aq C fn.results.toList L s1 S1 S A s2.t)
        | _,s2=>sW C annC clo R caps .nilif s2 (Aq C fn.results.toList L s1 S1 S A s2.t)
       | false=>False)
      | _,_,_,_=>False))
    | _,_=>False
 | _,_,_=>False
theorem lr:∀(u S:List (Nat × SObj)) (i:Nat),b9 (u.map (·.1))=true→aw (bR S u) i=(aw u i).or (aw S i)
 | [],S,i,_=>by simp [bR,aR,aN]
 | (j,o) ::r,S,i,h=>by
  simp only [List.map_cons,b9,Bool.and_eq_true,Bool.not_eq_true'] at h
  simp only [bR]
  rw [lr r _ i h.2,fG]
  simp only [aR,aN]
  by_cases e:j=i
  ·subst e
   have:aw r j=none:=by
    cases hb:aw r j with
    | none=>rfl
    | some o'=>
     have:=cb r j o' hb
     have h1:=h.1
     simp only [List.contains_eq_mem,decide_eq_false_iff_not,List.mem_map,not_exists,not_and] at h1
     exact absurd rfl (h1 _ this)
   simp [this]
  ·simp [e]
section
variable {P:Program} {C:Cfg}
theorem V.pinned {e0 e:Nat→Option CObj} {w0 w:World} {p0 p:Nat→Nat→Prop} (hk:∀id c,e0 id=some c→∃c',e id=some c'/\CLe c c') {a:AV} {v:Value} (ha:CY a=true) (h:V ⟨e0,w0,p0⟩ a v):V ⟨e,w,p⟩ a v:=by
 cases h with
 | ptr i o b q len he=>
  obtain ⟨c',h1,h2⟩:=hk i _ he
  have:=h2.box
  subst this
  exact .ptr i o b q len h1
 | _=>simp [CY] at ha
theorem Holds.retmp' {F:Fr} {s:AS} {a a':Act} {Ω:Om} (h:Holds F s a Ω) {n:Nat} {ds:List Deferred} {T:Nat→AV} (hT:∀i,V Ω (T i) (a'.tmps.getD i undef)) (hs:a'.tmps.size=n) (hd:a'.defers=ds) :
  Holds ⟨F.w0,F.pub0,n,F.e0,F.dom0,ds,F.tab0⟩ ⟨T,s.B⟩ a' Ω:=
 ⟨hT,hs,hd,h.slots,h.dom,h.inj,h.pubok,h.keep,⟨h.frame.os,h.frame.tape,h.frame.output,h.frame.size,h.frame.block,h.frame.cell,h.frame.kind,h.frame.pub,h.frame.old,h.frame.pcell⟩⟩
inductive Rcv:FrameMode→AV→Om→Value→FrameMode→Prop
 | ret (Ω:Om):Rcv .returning .nilif Ω .nilIface .returning
 | pan (Ω:Om) (a:AV) (v:Value):V Ω a v→Rcv (.panicking [{v,recovered:=false}]) a Ω v (.panicking [{v,recovered:=true}])
structure RCcode (g:Nat) (R:RC) (c cc:Code):Prop where
 code:∃i1 i2 ty1 ps1 af1 ty2 ps2 af2 ts2 ty3 ps3 af3 ts3 ty4 ps4 af4,
  c=.seq R.r0 (.seq (.region i1 #[⟨some R.t5,.makeFunc (.func g) #[] R.caps.toArray,ty1,ps1,af1,none⟩,⟨none,.defer ⟨.value (.tmp R.t5),#[],ts2⟩,ty2,ps2,af2,none⟩] false) R.rest)/\
  cc=.seq (.region i2 #[⟨some R.t6,.call ⟨.builtin .recover,#[],ts3⟩,ty3,ps3,af3,none⟩,⟨some R.t3,.assign (.tmp R.t6),ty4,ps4,af4,none⟩] false) R.crest
theorem Ar {g:Nat} {c cc:Code} {R:RC} (h:CZ g c cc=some R):RCcode g R c cc:=by
 unfold CZ at h
 split at h
 ·rename_i r0 i1 o1 rest i2 o2 crest
  split at h
  ·rename_i h1 h2
   split at h
   ·rename_i hc
    simp only [Bool.and_eq_true,Nat.beq_eq,Array.isEmpty_iff] at hc
    obtain ⟨⟨⟨⟨⟨rfl,rfl⟩,rfl⟩,rfl⟩,rfl⟩,rfl⟩:=hc
    simp only [Xs] at h
    subst h
    have e1:=congrArg List.toArray h1
    have e2:=congrArg List.toArray h2
    simp only [Array.toArray_toList] at e1 e2
    subst e1 e2
    exact ⟨_,_,_,_,_,_,_,_,_,_,_,_,_,_,_,_,rfl,rfl⟩
   ·cases h
  ·cases h
 ·cases h
theorem mc {ts:Array Nat} {d:Option Nat} {ty:Nat} {ps:String} {af:Array Edge} {ρ:Operand→Value} {w:World} :
  (execOp ρ ⟨d,.call ⟨.builtin .recover,#[],ts⟩,ty,ps,af,none⟩).run P w=.ok .recover w:=by
 simp [execOp,resolve,invoke,builtin]
theorem vm (hm:P.follows .mixedOrders=true) (hT:ba P C.tbl) (hS:bH P C.spec) {g:Nat} {clo:Func} {c cc:Code} {R:RC} (hR:RCcode g R c cc) (hg:P.funcs[g]?=some clo) (hb:clo.body=some cc)
  (hd:bB clo.ntmps cc=true) (hres:clo.results=#[]) {caps:List AV} (hcl:caps.length<=clo.ntmps) (hc6:caps.length<=R.t6) {F:Fr} {s2:St} {a2:Act} {Ω2:Om} (h:Holds F s2.abs a2 Ω2) {vs:List Value} (hv:VL Ω2 caps vs)
  {u u':FrameMode} {av:AV} {v:Value} (hrc:Rcv u av Ω2 v u') {annC:An} {fin:St→Prop} (hc:sW C annC clo R caps av s2 fin) :
  CallsD P g vs.toArray u Ω2.w fun en u2 w'=>u2=u'/\en=.returned (.tuple #[])/\∃s3 Ω3 a3 T,Ω3.w=w'/\fin s3/\Holds ⟨F.w0,F.pub0,clo.ntmps,F.e0,F.dom0,[],F.tab0⟩ ⟨T,aw s3.b⟩ a3 Ω3:=by
 obtain ⟨i1,i2,ty1,ps1,af1,ty2,ps2,af2,ts2,ty3,ps3,af3,ts3,ty4,ps4,af4,_,rfl⟩:=hR
 refine callsD_of_wpS hg hb (fun c₀ cs hu=>?_)
 apply wpS_seq
 apply wpS_region
 simp only [bB,Bool.and_eq_true,List.all_cons,List.all_nil,Bool.and_true,Nat.blt_eq] at hd
 obtain ⟨⟨hd6,hd3⟩,hdc⟩:=hd
 have hvs:vs.length<=clo.ntmps:=by rw [←hv.1];exact hcl
 have hbase:Holds ⟨F.w0,F.pub0,clo.ntmps,F.e0,F.dom0,[],F.tab0⟩ ⟨b8 (cv 0 caps),aw s2.b⟩ {tmps:=vs.toArray++Array.replicate (clo.ntmps - vs.toArray.size) undef,defers:=[]} Ω2:=
  h.retmp' (fun i=>gK _ hv i) (by simp;omega) rfl
 have key:∃cs',(∃c1,cs'=c1 ::cs/\c1={c₀ with mode:=u'})/\∀Q':Exit→Act→List Frame→World→Prop,Q' .normal (({tmps:=vs.toArray++Array.replicate (clo.ntmps - vs.toArray.size) undef,defers:=[]}:Act).put (some R.t6) v |>.put (some R.t3) v) cs' Ω2.w→
   wpOpsS P #[⟨some R.t6,.call ⟨.builtin .recover,#[],ts3⟩,ty3,ps3,af3,none⟩,⟨some R.t3,.assign (.tmp R.t6),ty4,ps4,af4,none⟩] Q' [0,1] {tmps:=vs.toArray++Array.replicate (clo.ntmps - vs.toArray.size) undef,defers:=[]} (c₀ ::cs) Ω2.w:=by
  have two:∀(cs':List Frame) (Q':Exit→Act→List Frame→World→Prop),Q' .normal (({tmps:=vs.toArray++Array.replicate (clo.ntmps - vs.toArray.size) undef,defers:=[]}:Act).put (some R.t6) v |>.put (some R.t3) v) cs' Ω2.w→
    wpOpsS P #[⟨some R.t6,.call ⟨.builtin .recover,#[],ts3⟩,ty3,ps3,af3,none⟩,⟨some R.t3,.assign (.tmp R.t6),ty4,ps4,af4,none⟩] Q' [1] (({tmps:=vs.toArray++Array.replicate (clo.ntmps - vs.toArray.size) undef,defers:=[]}:Act).put (some R.t6) v) cs' Ω2.w:=by
   intro cs' Q' hq
   have he:(({tmps:=vs.toArray++Array.replicate (clo.ntmps - vs.toArray.size) undef,defers:=[]}:Act).put (some R.t6) v).eval (.tmp R.t6)=v:=by
    show (Act.put _ (some R.t6) v).tmps.getD R.t6 undef=v
    rw [bW hbase.size hd6,if_pos rfl]
   unfold wpOpsS
   simp only [List.getElem?_toArray,List.getElem?_cons_succ,List.getElem?_cons_zero,Region.wanted,if_true]
   have hr:(execOp (({tmps:=vs.toArray++Array.replicate (clo.ntmps - vs.toArray.size) undef,defers:=[]}:Act).put (some R.t6) v).eval ⟨some R.t3,.assign (.tmp R.t6),ty4,ps4,af4,none⟩).run P Ω2.w=.ok (.value v) Ω2.w:=by
    show (pure (Next.value (Act.eval _ (.tmp R.t6))):Sem Next).run P Ω2.w=_
    rw [he]
    rfl
   rw [hr]
   simp only [Oper.upon]
   exact hq
  cases hrc with
  | ret=>
   refine ⟨_,⟨c₀,rfl,by cases c₀;simp only at hu;subst hu;rfl⟩,fun Q' hq=>?_⟩
   unfold wpOpsS
   simp only [List.getElem?_toArray,List.getElem?_cons_zero,Region.wanted,if_true]
   rw [mc]
   simp only [recoverD,hu]
   exact two _ Q' hq
  | pan _ _ hv'=>
   refine ⟨_,⟨_,rfl,rfl⟩,fun Q' hq=>?_⟩
   unfold wpOpsS
   simp only [List.getElem?_toArray,List.getElem?_cons_zero,Region.wanted,if_true]
   rw [mc]
   simp only [recoverD,hu]
   exact two _ Q' hq
 obtain ⟨cs',⟨c1,rfl,hc1⟩,key⟩:=key
 refine key _ ?_
 refine wpS_of_wp ?_
 unfold sW at hc
 rw [fU,cR] at hc
 have hav:V Ω2 av v:=by
  cases hrc <;> first | exact .nilif | assumption
 have h1:=(hbase.pure (dst:=some R.t6) (val:=.undef) (v:=v) (.undef v) (fun d e=>by cases e;exact hd6)).pure (dst:=some R.t3) (val:=av) (v:=v) hav (fun d e=>by cases e;exact hd3)
 have h2:Holds ⟨F.w0,F.pub0,clo.ntmps,F.e0,F.dom0,[],F.tab0⟩ (St.abs ⟨gO (cv 0 caps) R.t3 av,s2.b⟩) _ Ω2:=h1.weak (s':=St.abs ⟨gO (cv 0 caps) R.t3 av,s2.b⟩) (fun i=>by
  simp only [St.abs,eH,bM]
  by_cases e3:R.t3=i
  ·right;simp [e3]
  ·by_cases e6:R.t6=i
   ·left
    subst e6
    rw [if_neg e3,eJ,if_pos (Nat.zero_le _),Nat.sub_zero]
    simp [List.getD_eq_getElem?_getD,List.getElem?_eq_none hc6]
   ·right;simp [e3,e6]) rfl
 refine wp_mono (jo hm hT hS _ annC R.crest _ _ _ Ω2 hc hdc h2) ?_
 intro e a' w' hq
 obtain ⟨z,s3,Ω3,q1,q2,q3,q4⟩:=hq
 have fin3:fin s3→bodyPostS P clo c₀ cs (fun en u2 w'=>u2=u'/\en=.returned (.tuple #[])/\∃s3 Ω3 a3 T,Ω3.w=w'/\fin s3/\Holds ⟨F.w0,F.pub0,clo.ntmps,F.e0,F.dom0,[],F.tab0⟩ ⟨T,aw s3.b⟩ a3 Ω3) .ret a' (c1 ::cs) w':=by
  intro hf
  refine ⟨q3.defers,u',by rw [hc1],.tuple #[],by simp [results,hres],rfl,rfl,s3,Ω3,a',_,q2,hf,q3⟩
 cases z with
 | normal=>cases q1;exact fin3 q4
 | ret=>cases q1;exact fin3 q4
 | exit id=>exact q4.elim
 | pan v=>exact q4.elim
theorem yl {w:World} {pub:Nat→Nat→Prop} {e:Nat→Option CObj} {n:Nat} {hl:∀id c,e id=some c→bz id=true} {ds:List Deferred} {ht:fP w pub e} {T:Nat→AV} {t:List (Nat × AV)} {b b':List (Nat × SObj)} {a:Act} {Ω:Om} {l:List AV} {us:List Value} {val:AV}
  (hh:Holds ⟨w,pub,n,e,hl,ds,ht⟩ ⟨T,aw b⟩ a Ω) (k2:VL Ω l us) (hend:py (some l) ⟨t,b⟩ val b') :
  ∃pub' e',V ⟨e',Ω.w,pub'⟩ val (if h:us.toArray.size=1 then us.toArray[0] else .tuple us.toArray)/\After w pub e (aw b') Ω.w pub' e':=by
 unfold py at hend
 split at hend
 ·rename_i x hres
  cases hres
  obtain ⟨u,rfl⟩:=gL (by rw [←k2.1];rfl)
  have h1:=hh.retmp' (T:=b8 (cv 0 [x])) (a':={tmps:=[u].toArray++Array.replicate 0 undef,defers:=[]}) (n:=1) (ds:=[]) (fun i=>gK 0 k2 i) (by simp) rfl
  obtain ⟨Ω2,e2,hh2⟩:=dh (s:=⟨[(0,x)],b⟩) h1 (fo hend)
  refine ⟨Ω2.pub,Ω2.e,?_,?_⟩
  ·have:=hh2.tmps 0
   rw [←e2]
   exact this
  ·rw [←e2]
   exact fV hh2
 ·rename_i l' hne hres
  cases hres
  split at hend
  ·rename_i rs
   split at hend
   ·rename_i hln
    have hl2:=bE _ _ hln
    have h1:=hh.retmp' (T:=b8 (cv 0 l)) (a':={tmps:=us.toArray++Array.replicate 0 undef,defers:=[]}) (n:=us.length) (ds:=[]) (fun i=>gK 0 k2 i) (by simp) rfl
    obtain ⟨Ω2,e2,hh2⟩:=dh (s:=⟨cv 0 l,b⟩) h1 (fo hend)
    have hsz:¬us.toArray.size=1:=by
     intro h1
     obtain ⟨x,hx⟩:=gL (l:=l) (by rw [k2.1];simpa using h1)
     exact hne x hx
    rw [dif_neg hsz]
    refine ⟨Ω2.pub,Ω2.e,?_,?_⟩
    ·refine .tup rs us (by rw [←k2.1,←hl2]) (fun j c v hc hv=>?_)
     have:=hh2.tmps j
     simp only [St.abs,eJ,Nat.zero_le,if_true,Nat.sub_zero,List.getD_eq_getElem?_getD,hc,Option.getD_some] at this
     have e3:(us.toArray++Array.replicate 0 undef).getD j undef=v:=by
      simp [Array.getD_eq_getD_getElem?,hv]
     rw [e3] at this
     rw [←e2]
     exact this
    ·rw [←e2]
     exact fV hh2
   ·exact hend.elim
  ·exact hend.elim
 ·rename_i h;cases h
theorem CLe.to_box {c:CObj} {b o l:Nat} (h:CLe c (.box b o l)):c=.box b o l:=by
 cases c <;> simp [CLe] at h
 obtain ⟨rfl,rfl,rfl⟩:=h
 rfl
theorem V.ptrIn {F:Fr} {Ω2 Ω3:Om} {ks:List Nat} (h2:∀id c,F.e0 id=some c→∃c',Ω2.e id=some c'/\CLe c c') (h3:∀id c,F.e0 id=some c→∃c',Ω3.e id=some c'/\CLe c c')
  (hk:∀k∈ks,∃c,F.e0 k=some c) {a:AV} {v:Value} (h:V Ω2 a v):V Ω3 (if AL.ptrIn ks a=true then a else .undef) v:=by
 split
 ·rename_i hp
  cases h with
  | ptr i o b q len he=>
   simp only [AL.ptrIn,List.contains_eq_mem,decide_eq_true_eq] at hp
   obtain ⟨c,hc⟩:=hk i hp
   obtain ⟨c2,e2,l2⟩:=h2 i c hc
   rw [he] at e2
   cases e2
   have:=l2.to_box
   subst this
   obtain ⟨c3,e3,l3⟩:=h3 i _ hc
   have:=l3.box
   subst this
   exact .ptr i o b q len e3
  | _=>simp [AL.ptrIn] at hp
 ·exact .undef v
theorem ym (hT:ba P C.tbl) {w:World} {pub:Nat→Nat→Prop} {e:Nat→Option CObj} {n n1:Nat} {hl:∀id c,e id=some c→bz id=true} {ht:fP w pub e} {s1:St} {a1:Act} {Ω1:Om} {L:List cO} {ht1:fP Ω1.w Ω1.pub (cu L Ω1.e)} (h3:Holds ⟨w,pub,n,e,hl,[],ht⟩ s1.abs a1 Ω1)
  (hdist:b9 (L.map (·.1))=true) {S1:List (Nat × SObj)} (hS1:ke (aw s1.b) L L 900=some S1) {hl1:∀id c,cu L Ω1.e id=some c→bz id=true} (hk1:∀k∈aM S1,∃c,cu L Ω1.e k=some c)
  {ds:List Deferred} {s2:St} {a2:Act} {Ω2:Om} (q3:Holds ⟨Ω1.w,Ω1.pub,n,cu L Ω1.e,hl1,ds,ht1⟩ s2.abs a2 Ω2) {s3:St} {a3:Act} {Ω3:Om} {T:Nat→AV} (h5:Holds ⟨Ω1.w,Ω1.pub,n1,cu L Ω1.e,hl1,[],ht1⟩ ⟨T,aw s3.b⟩ a3 Ω3)
  {fn:Func} {S:List (Nat × SObj)} {A:Ans} (hpan:A.pan=none) (hf:Aq C fn.results.toList L s1 S1 S A s2.t s3) :
  ∃v,(results fn a2.tmps).run P Ω3.w=.ok v Ω3.w/\∃pub' e',(∀b pv u,A.pan=some (b,pv,u)→b=false)/\V ⟨e',Ω3.w,pub'⟩ A.val v/\After w pub e (aw (bR S A.upd)) Ω3.w pub' e':=by
 unfold Aq at hf
 split at hf
 ·rename_i hck
  simp only [Bool.and_eq_true,List.all_eq_true] at hck
  obtain ⟨hd3,hin⟩:=hck
  split at hf
  ·rename_i l hres
   split at hf
   ·rename_i u' l' hu' hl'
    rw [cR] at hf
    have hR:Holds ⟨Ω1.w,Ω1.pub,n,cu L Ω1.e,hl1,ds,ht1⟩ (St.abs ⟨BW (aM S1) s2.t,s3.b⟩) a2 Ω3:=by
     have:=h5.retmp' (T:=b8 (BW (aM S1) s2.t)) (a':=a2) (n:=n) (ds:=ds) (fun i=>by
      rw [show b8 (BW (aM S1) s2.t) i=if ptrIn (aM S1) (b8 s2.t i)=true then b8 s2.t i else .undef from kr (fun x=>if ptrIn (aM S1) x=true then x else .undef) (by simp [ptrIn]) s2.t i]
      exact V.ptrIn (F:=⟨Ω1.w,Ω1.pub,n,cu L Ω1.e,hl1,ds,ht1⟩) q3.keep h5.keep hk1 (q3.tmps i)) q3.size q3.defers
     exact this
    obtain ⟨us,k1,k2⟩:=dS hT hR _ _ hres
    have hmap:(results fn a2.tmps).run P Ω3.w=.ok (if h:us.toArray.size=1 then us.toArray[0] else .tuple us.toArray) Ω3.w:=by
     rw [jR,←Array.toArray_toList (xs:=fn.results),List.mapM_toArray]
     simp only [Sem.run_bind,Sem.run_map,k1,Result.andThen_ok,Sem.run_pure]
    have hB:aw (bR S1 s3.b)=aw s3.b:=by
     funext i
     rw [lr _ _ _ hd3]
     cases h:aw s3.b i with
     | some o=>rfl
     | none=>
      cases h':aw S1 i with
      | none=>rfl
      | some o=>
       have:=hin i (List.mem_map.2 ⟨(i,o),cb _ _ _ h',rfl⟩)
       simp only [List.contains_eq_mem,decide_eq_true_eq] at this
       exact absurd this (gJ _ _ h)
    have hA:After Ω1.w Ω1.pub (cu L Ω1.e) (aw (bR S1 s3.b)) Ω3.w Ω3.pub Ω3.e:=by
     rw [hB]
     exact fV (h5.retmp' (T:=T) (a':=a3) (n:=n1) (ds:=[]) h5.tmps h5.size h5.defers)
    obtain ⟨Ω',w1,w2,w3⟩:=l6 h3 (d:=998) (by omega) hdist hS1 hd3 hu' (val:=.tup l) (val':=.tup l') (by simp only [mapV,hl']) (v:=.tuple us.toArray) (V.of_tup k2) hA
    obtain ⟨us',e1,k3⟩:=w2.tup_inv
    have e2:us=us':=by
     have:=congrArg Array.toList (Value.tuple.inj e1)
     simpa using this
    subst e2
    rw [show s1.abs.B=aw s1.b from rfl,←gI] at w3
    obtain ⟨pub',e',p1,p2⟩:=yl (T:=s1.abs.T) (b:=bR s1.b u') (t:=[]) w3 k3 hf
    rw [w1] at p1 p2
    exact ⟨_,hmap,pub',e',(fun b pv u h=>by rw [hpan] at h;cases h),p1,p2⟩
   ·exact hf.elim
  ·exact hf.elim
 ·exact hf.elim
theorem fwpR_sound (hm:P.follows .mixedOrders=true) (hT:ba P C.tbl) (hS:bH P C.spec) {ann annC:An} {f g:Nat} {fn clo:Func} (hf:P.funcs[f]?=some fn) (hg:P.funcs[g]?=some clo)
  (eg:∀args w,(callFunc g args).run P w=.ok (.enter g args) w) {args:List AV} {S:List (Nat × SObj)} {A:Ans} (h:fwpR C ann annC fn g clo args S A):ax P f args S A:=by
 intro w pub e vs hp ht hv hs hdom hinj
 unfold fwpR at h
 split at h
 ·rename_i c cc hb hcb hpan
  split at h
  ·exact h.elim
  ·rename_i R hR
   split at h
   ·exact h.elim
   ·rename_i hck
    simp only [Bool.and_eq_true,List.all_eq_true,Array.isEmpty_iff,Nat.blt_eq] at hck
    obtain ⟨⟨⟨⟨⟨⟨⟨hk1,hk2⟩,hk5⟩,hk3⟩,hk4⟩,hres⟩,hcl⟩,hc6⟩:=hck
    have hlen:=dr _ _ hk3
    have hcl:=dr _ _ hcl
    have hc6:=dr _ _ hc6
    rw [fU,cR] at h
    have hlent:∀id c,e id=some c→bz id=true:=by
     intro id c hc
     cases hg:aw S id with
     | none=>rw [hdom id hg] at hc;cases hc
     | some o=>exact hk4 id (List.mem_map.2 ⟨(id,o),cb _ _ _ hg,rfl⟩)
    have hRc:=Ar hR
    obtain ⟨i1,i2,ty1,ps1,af1,ty2,ps2,af2,ts2,ty3,ps3,af3,ts3,ty4,ps4,af4,rfl,_⟩:=id hRc
    refine calls_of_wp_defers hf hb ?_
    have hh:=ij (n:=fn.ntmps) hp ht hv hlen hs hdom hinj hlent
    have hdr:bB fn.ntmps R.r0=true/\bB fn.ntmps R.rest=true:=by
     simp only [bB,Bool.and_eq_true] at hk1
     exact ⟨hk1.1,hk1.2.2⟩
    refine wp_seq (wp_mono (jo (F:=⟨w,pub,fn.ntmps,e,hlent,[],ht⟩) hm hT hS _ ann R.r0 _ _ _ _ h hdr.1 hh) ?_)
    intro en a1 w1 hq
    obtain ⟨z,s1,Ω1,q1,rfl,h3,h4⟩:=hq
    cases z with
    | exit id=>exact h4.elim
    | ret=>exact h4.elim
    | pan pv=>exact h4.elim
    | normal=>
     cases q1
     simp only at h4
     generalize hLL:(aM s1.b).map (fun i=>(i,(none:Option (Nat × Nat))))=L at h4
     split at h4
     ·rename_i as1 caps S1 hdl has hcaps hS1
      simp only [Bool.and_eq_true,Nat.ble_eq] at hdl
      obtain ⟨hdist,hL100⟩:=hdl
      split at h4
      ·rename_i hcp
       rw [cR] at h4
       obtain ⟨k1,k2,k3⟩:=fF L 900 S1 hS1
       refine wp_seq (wp_region ?_)
       show wpOps P _ _ [0,1] a1 Ω1.w
       refine cd (o:=⟨some R.t5,.makeFunc (.func g) #[] R.caps.toArray,ty1,ps1,af1,none⟩) rfl rfl (aG (v:=.func (.func g) #[] (R.caps.toArray.map a1.eval)) (w':=Ω1.w) (by simp [execOp,Instr.makeFunc]) ?_)
       have he5:(a1.put (some R.t5) (.func (.func g) #[] (R.caps.toArray.map a1.eval))).eval (.tmp R.t5)=.func (.func g) #[] (R.caps.toArray.map a1.eval):=by
        show (Act.put a1 (some R.t5) _).tmps.getD R.t5 undef=_
        rw [bW h3.size hk5,if_pos rfl]
       refine cd (o:=⟨none,.defer ⟨.value (.tmp R.t5),#[],ts2⟩,ty2,ps2,af2,none⟩) rfl rfl ?_
       have hrun:(execOp (a1.put (some R.t5) (.func (.func g) #[] (R.caps.toArray.map a1.eval))).eval ⟨none,.defer ⟨.value (.tmp R.t5),#[],ts2⟩,ty2,ps2,af2,none⟩).run P Ω1.w=.ok (.defer {target:=.fn (.func g) (R.caps.toArray.map a1.eval),args:=#[]}) Ω1.w:=by
        have he5':=he5
        simp only [List.map_toArray] at he5'
        simp [execOp,resolve,he5',Deferred.ofValue]
       unfold Oper.wp
       rw [hrun]
       have hcv:R.caps.toArray.map a1.eval=(R.caps.map a1.eval).toArray:=by simp
       have hdef0:a1.defers=[]:=h3.defers
       have hvl1:VL Ω1 ((List.range fn.ntmps).map (b8 s1.t)) a1.tmps.toList:=by
        have hz:a1.tmps.size=fn.ntmps:=h3.size
        refine ⟨by simp;omega,fun j c v hc hv=>?_⟩
        simp only [List.getElem?_map,Option.map_eq_some_iff] at hc
        obtain ⟨q,hq,rfl⟩:=hc
        have hqj:q=j:=by
         have:=List.getElem?_eq_some_iff.1 hq
         obtain ⟨_,e⟩:=this
         simpa using e.symm
        subst hqj
        have:=h3.tmps q
        rw [Array.getElem?_toList] at hv
        simp only [Array.getD_eq_getD_getElem?,hv,Option.getD_some] at this
        exact this
       have hvc1:VL Ω1 (R.caps.map (opd (b8 s1.t))) (R.caps.map a1.eval):=by
        refine ⟨by simp,fun j c v hc hv=>?_⟩
        simp only [List.getElem?_map,Option.map_eq_some_iff] at hc hv
        obtain ⟨x,hx,rfl⟩:=hc
        obtain ⟨y,hy,rfl⟩:=hv
        rw [hx] at hy
        cases hy
        exact bj h3 x
       have hvl:=hvl1.mapVs (iO L Ω1.e) has
       have hvc:=hvc1.mapVs (iO L Ω1.e) hcaps
       have hlent1:∀k i r,bf L k=some (i,r)→∃o o',s1.abs.B i=some o/\dW L r o=some o'/\aw S1 k=some o':=by
        intro k i r hk
        obtain ⟨h1,h2⟩:=dR hk
        obtain ⟨o,o',q1,q2,q3⟩:=k2 _ i r h2
        rw [show 900+(k - 900)=k by omega] at q3
        exact ⟨o,o',q1,q2,q3⟩
       have hLs:∀q i r,nth L q=some (i,r)→∃o o',s1.abs.B i=some o/\dW L r o=some o':=fun q i r hq=>let ⟨o,o',q1,q2,_⟩:=k2 q i r hq;⟨o,o',q1,q2⟩
       have hslots:∀id o,aw S1 id=some o→bn ⟨cu L Ω1.e,Ω1.w,Ω1.pub⟩ (fun _ _=>True) id o:=fun id o' ho'=>by
        obtain ⟨q,i,r,o2,e1,e2,e3,e4⟩:=k1 id o' ho'
        subst e1
        exact sq (bX (jl L i 900 q r hdist e2)) (h3.slots i o2 e3) e4
       have hdom1:∀id,aw S1 id=none→cu L Ω1.e id=none:=fun id hid=>by
        unfold cu
        cases hl:bf L id with
        | none=>rfl
        | some x=>
         obtain ⟨o1,o2,_,_,q3⟩:=hlent1 id x.1 x.2 hl
         rw [hid] at q3
         cases q3
       have hinj1:Inj (cu L Ω1.e):=fun i j c c' b oo hi hj ho1 ho2=>by
        obtain ⟨i1,r1,c1,p1,p2,p3⟩:=gH h3.slots hLs hi
        obtain ⟨i2,r2,c2,p4,p5,p6⟩:=gH h3.slots hLs hj
        have:=h3.inj i1 i2 c1 c2 b oo p2 p5 (p3 b oo ho1) (p6 b oo ho2)
        subst this
        have a1:=cH hdist p1
        have a2:=cH hdist p4
        rw [a1] at a2
        simp at a2
        exact a2.1
       have hpin:∀id c,cu L Ω1.e id=some c→bz id=true:=by
        intro id c hc
        cases hg:aw S1 id with
        | none=>rw [hdom1 id hg] at hc;cases hc
        | some o=>
         have:=k3 (id,o) (cb _ _ _ hg)
         simp only [bz,Bool.and_eq_true,Nat.ble_eq,Nat.blt_eq]
         simp only at this
         omega
       have hkS:∀k∈aM S1,∃c,cu L Ω1.e k=some c:=by
        intro k hk
        obtain ⟨x,hx,rfl⟩:=List.mem_map.1 hk
        cases hg:aw S1 x.1 with
        | none=>exact absurd (List.mem_map.2 ⟨x,hx,rfl⟩) (gJ _ _ hg)
        | some o=>
         have hso:=hslots x.1 o hg
         cases o with
         | box c=>obtain ⟨_,_,e1,_⟩:=hso;exact ⟨_,e1⟩
         | tail τ n=>obtain ⟨_,_,e1,_⟩:=hso;exact ⟨_,e1⟩
         | map κ τ m=>obtain ⟨_,e1,_⟩:=hso;exact ⟨_,e1⟩
         | bld t u l=>obtain ⟨_,_,e1,_⟩:=hso;exact ⟨_,e1⟩
         | tailp τ n x=>obtain ⟨_,_,e1,_⟩:=hso;exact ⟨_,e1⟩
       have hlen1:as1.length<=fn.ntmps:=by
        have:=hvl.1
        rw [this,Array.length_toList,h3.size]
        exact Nat.le_refl _
       have hi1:=ij (n:=fn.ntmps) h3.pubok (h3.tabsC hLs) hvl hlen1 hslots hdom1 hinj1 hpin
       have hi2:=hi1.retmp' (T:=b8 (cv 0 as1)) (a':={tmps:=a1.tmps,defers:=[{target:=.fn (.func g) (R.caps.toArray.map a1.eval),args:=#[]}]}) (n:=fn.ntmps) (ds:=[{target:=.fn (.func g) (R.caps.toArray.map a1.eval),args:=#[]}])
        (fun i=>by
         have:=hi1.tmps i
         have e0:(a1.tmps.toList.toArray++Array.replicate (fn.ntmps - a1.tmps.toList.toArray.size) undef)=a1.tmps:=by
          have hz:a1.tmps.size=fn.ntmps:=h3.size
          apply Array.ext'
          simp [hz]
         rw [e0] at this
         exact this) h3.size rfl
       have hi3:=hi2.pure (dst:=some R.t5) (val:=.undef) (v:=.func (.func g) #[] (R.caps.toArray.map a1.eval)) (.undef _) (fun d e=>by cases e;exact hk5)
       have hi4:=hi3.weak (s':=St.abs ⟨gO (cv 0 as1) R.t5 .undef,S1⟩) (fun i=>by
        simp only [St.abs,eH,bM]
        by_cases e5:R.t5=i
        ·left;simp [e5]
        ·right;simp [e5]) rfl
       have hact:(({tmps:=a1.tmps,defers:=[{target:=.fn (.func g) (R.caps.toArray.map a1.eval),args:=#[]}]}:Act).put (some R.t5) (.func (.func g) #[] (R.caps.toArray.map a1.eval)))=
         ({(a1.put (some R.t5) (.func (.func g) #[] (R.caps.toArray.map a1.eval))) with defers:={target:=.fn (.func g) (R.caps.toArray.map a1.eval),args:=#[]} ::(a1.put (some R.t5) (.func (.func g) #[] (R.caps.toArray.map a1.eval))).defers}:Act).put none undef:=by
        simp [Act.put,hdef0]
       show Code.wp P R.rest _ (({(a1.put (some R.t5) (.func (.func g) #[] (R.caps.toArray.map a1.eval))) with defers:={target:=.fn (.func g) (R.caps.toArray.map a1.eval),args:=#[]} ::(a1.put (some R.t5) (.func (.func g) #[] (R.caps.toArray.map a1.eval))).defers}:Act).put none undef) Ω1.w
       rw [←hact]
       refine wp_mono (jo hm hT hS _ ann R.rest _ _ _ ⟨cu L Ω1.e,Ω1.w,Ω1.pub⟩ h4 hdr.2 hi4) ?_
       intro en a2 w2 hq
       obtain ⟨z,s2,Ω2,g1,rfl,g3,g4⟩:=hq
       have hcv2:VL Ω2 caps (R.caps.map a1.eval):=by
        refine ⟨hvc.1,fun j c v hc hv=>?_⟩
        exact V.pinned g3.keep (List.all_eq_true.1 hcp c (List.mem_of_getElem? hc)) (hvc.2 j c v hc hv)
       have hcl':caps.length<=clo.ntmps:=by rw [hvc.1,List.length_map];exact hcl
       have hc6':caps.length<=R.t6:=by rw [hvc.1,List.length_map];exact hc6
       have close:∀(u u':FrameMode) (av:AV) (v:Value),u≠.run→settle u'=.returning→Rcv u av Ω2 v u'→sW C annC clo R caps av s2 (Aq C fn.results.toList L s1 S1 S A s2.t)→
         Leaves P fn a2.tmps (fun en w'=>∃pub' e',match en with
          | .returned v=>(∀b pv u,A.pan=some (b,pv,u)→b=false)/\V ⟨e',w',pub'⟩ A.val v/\After w pub e (aw (bR S A.upd)) w' pub' e'
          | .panicked ch=>∃pv u v,A.pan=some (true,pv,u)/\ch=[{v,recovered:=false}]/\V ⟨e',w',pub'⟩ pv v/\After w pub e (aw (bR S u)) w' pub' e'
          | .outgrown=>False) [{target:=.fn (.func g) (R.caps.toArray.map a1.eval),args:=#[]}] u Ω2.w:=by
        intro u u' av v hu hse hrc hcr
        refine leaves_cons (f:=g) (args:=(R.caps.map a1.eval).toArray) hu (by simp [invoke,eg]) ?_
        refine (vm hm hT hS hRc hg hcb hk2 hres hcl' hc6' g3 hcv2 hrc hcr).mono ?_
        rintro en u2 w3 ⟨rfl,rfl,s3,Ω3,a3,T3,rfl,hfin,h5⟩
        simp only [hse,Leaves]
        obtain ⟨v,r1,pub',e',r2,r3,r4⟩:=ym hT h3 hdist hS1 hkS g3 h5 hpan hfin
        exact ⟨v,r1,pub',e',r2,r3,r4⟩
       have hds:a2.defers=[{target:=.fn (.func g) (R.caps.toArray.map a1.eval),args:=#[]}]:=g3.defers
       cases z with
       | normal=>cases g1;show Leaves P fn a2.tmps _ a2.defers .returning Ω2.w;rw [hds];exact close .returning .returning .nilif .nilIface (by simp) rfl (.ret Ω2) g4
       | ret=>cases g1;show Leaves P fn a2.tmps _ a2.defers .returning Ω2.w;rw [hds];exact close .returning .returning .nilif .nilIface (by simp) rfl (.ret Ω2) g4
       | exit id=>exact g4.elim
       | pan pv=>
        obtain ⟨v,rfl,hv⟩:=g1
        show Leaves P fn a2.tmps _ a2.defers (.panicking [{v,recovered:=false}]) Ω2.w
        rw [hds]
        exact close _ (.panicking [{v,recovered:=true}]) pv v (by simp) (by simp [settle]) (.pan Ω2 pv v hv) g4
      ·exact h4.elim
     ·exact h4.elim
 ·exact h.elim
end
end Go.AL
end
section
open Go Go.AL Go.Pd
namespace Go.AL.Seat
theorem BX (c:Int) (hc:0<=c/\c<=400) :
  inR IntKind.i64 (c+(1:Int))/\if decide ((400:Int) < c+(1:Int))=true then decide ((400:Int) < c+(1:Int))=true/\c+(1:Int)=c+(1:Int)/\True else decide ((400:Int) < c+(1:Int))=false/\c+(1:Int)=c+(1:Int)/\True:=by
 refine ⟨bF (by omega) (by omega),ab (fun h=>?_) (fun h=>?_)⟩
 ·exact ⟨h,rfl,trivial⟩
 ·exact ⟨by simpa using h,rfl,trivial⟩
theorem BY (n:Nat) (s:Shape) (l c:Int) (hs:Wf (.st .shape) s) (hn:sz s<=n+1) (hc:0<=c/\c<=400/\1<=l/\l<=c+1) :
  ((0:Int)<=c/\c<=(400:Int))/\if decide ((400:Int) < c+(1:Int))=true then decide ((400:Int) < c+(↑(sz s):Int))=true/\c+(1:Int)=(401:Int)/\True else (∃(x:Nat × Int),(x.1<=List.length s.parts/\c+(1:Int)+(↑(szL (List.take x.1 s.parts)):Int)<=(400:Int)/\deepL (List.drop x.1 s.parts) (l+(1:Int)) x.2=deepS s l)/\l=x.2/\(0:Int)=(↑x.1:Int)/\s=s/\l=l/\(0:Int)=(0:Int)/\s.parts=s.parts/\(↑(List.length s.parts):Int)=(↑(List.length s.parts):Int)/\c+(1:Int)=c+(1:Int)+(↑(szL (List.take x.1 s.parts)):Int)/\s=s/\True)/\∀(x:Nat × Int),x.1<=List.length s.parts/\c+(1:Int)+(↑(szL (List.take x.1 s.parts)):Int)<=(400:Int)/\deepL (List.drop x.1 s.parts) (l+(1:Int)) x.2=deepS s l→if decide ((↑x.1:Int) < (↑(List.length s.parts):Int))=true then ((0:Int)<=(↑x.1:Int)/\(↑x.1:Int) < (↑(List.length s.parts):Int))/\inR IntKind.i64 (l+(1:Int))/\(sz (List.getD s.parts (Int.toNat (↑x.1:Int)) (dfl (Ty.st SN.shape)))<=n/\(0:Int)<=c+(1:Int)+(↑(szL (List.take x.1 s.parts)):Int)/\c+(1:Int)+(↑(szL (List.take x.1 s.parts)):Int)<=(400:Int)/\(1:Int)<=l+(1:Int)/\l+(1:Int)<=c+(1:Int)+(↑(szL (List.take x.1 s.parts)):Int)+(1:Int))/\if decide ((400:Int) < c+(1:Int)+(↑(szL (List.take x.1 s.parts)):Int)+(↑(sz (List.getD s.parts (Int.toNat (↑x.1:Int)) (dfl (Ty.st SN.shape)))):Int))=true then decide ((400:Int) < c+(↑(sz s):Int))=true/\(401:Int)=(401:Int)/\True else inR IntKind.i64 ((↑x.1:Int)+(1:Int))/\∃(y:Nat × Int),(y.1<=List.length s.parts/\c+(1:Int)+(↑(szL (List.take y.1 s.parts)):Int)<=(400:Int)/\deepL (List.drop y.1 s.parts) (l+(1:Int)) y.2=deepS s l)/\List.length s.parts - y.1 < List.length s.parts - x.1/\max x.2 (deepS (List.getD s.parts (Int.toNat (↑x.1:Int)) (dfl (Ty.st SN.shape))) (l+(1:Int)))=y.2/\(↑x.1:Int)+(1:Int)=(↑y.1:Int)/\s=s/\l=l/\(0:Int)=(0:Int)/\s.parts=s.parts/\(↑(List.length s.parts):Int)=(↑(List.length s.parts):Int)/\c+(1:Int)+(↑(szL (List.take x.1 s.parts)):Int)+(↑(sz (List.getD s.parts (Int.toNat (↑x.1:Int)) (dfl (Ty.st SN.shape)))):Int)=c+(1:Int)+(↑(szL (List.take y.1 s.parts)):Int)/\s=s/\True else decide ((400:Int) < c+(↑(sz s):Int))=false/\x.2=deepS s l/\c+(1:Int)+(↑(szL (List.take x.1 s.parts)):Int)=c+(↑(sz s):Int)/\True:=by
 have ln:=hs.parts.len
 have hz:=j6 s
 refine ⟨⟨hc.1,hc.2.1⟩,ab (fun h=>?_) (fun h=>?_)⟩
 ·replace h:=Xo h
  have:=fX s
  exact ⟨Xd (by omega),by omega,trivial⟩
 replace h:¬(400:Int) < c+1:=fun e=>h (Xd e)
 have hd0:deepL s.parts (l+1) l=deepS s l:=by cases s;rfl
 refine ⟨⟨(0,l),⟨Nat.zero_le _,by simp [szL];omega,by simpa using hd0⟩,rfl,rfl,rfl,rfl,rfl,rfl,rfl,by simp [szL],rfl,trivial⟩,?_⟩
 rintro ⟨k,d⟩ ⟨h1,h2,h3⟩
 simp only [Int.toNat_natCast] at h1 h2 h3 ⊢
 have hc0:(0:Int)<=(szL (s.parts.take k):Int):=by omega
 refine ab (fun hk=>?_) (fun hk=>?_)
 ·replace hk:=Xo hk
  have hk:k < s.parts.length:=by omega
  have hs1:=jH s.parts k (dfl (.st .shape)) hk
  have hm:=eo (getD_mem s.parts k (dfl (.st .shape)) hk)
  rw [aH s.parts k (dfl (.st .shape)) hk] at h3
  simp only [deepL] at h3
  have ht:=sK s.parts (k+1)
  refine ⟨by omega,bF (by omega) (by omega),⟨by omega,by omega,h2,by omega,by omega⟩,ab (fun h=>?_) (fun h=>?_)⟩
  ·replace h:=Xo h
   exact ⟨Xd (by omega),by trivial,by trivial⟩
  ·replace h:=fun e=>h (Xd e)
   replace h:¬(400:Int) < c+1+(szL (s.parts.take k):Int)+(sz (s.parts.getD k (dfl (.st .shape))):Int):=h
   exact ⟨bc hk ln,(k+1,_),⟨by omega,by simp only;omega,h3⟩,by simp only;omega,rfl,by simp only;omega,by trivial,by trivial,by trivial,by trivial,by trivial,by simp only;omega,by trivial,by trivial⟩
 ·replace hk:¬((k:Int) < (s.parts.length:Int)):=fun e=>hk (Xd e)
  have e:k=s.parts.length:=by omega
  subst e
  rw [List.take_length] at h2 ⊢
  rw [List.drop_length] at h3
  exact ⟨Xf (by omega),h3,by omega,trivial⟩
theorem As (s:Shape) (hs:Wf (.st .shape) s) :
  (sz s<=sz s/\(0:Int)<=(0:Int)/\(0:Int)<=(400:Int)/\(1:Int)<=(1:Int)/\(1:Int)<=(0:Int)+(1:Int))/\if decide ((400:Int) < (0:Int)+(↑(sz s):Int))=true then ((401:Int)=if sz s<=(400:Nat) then (↑(sz s):Int) else (401:Int))/\((0:Int)=if sz s<=(400:Nat) then deepS s (1:Int) else (0:Int))/\false=decide (sz s<=(400:Nat))/\True else ((0:Int)+(↑(sz s):Int)=if sz s<=(400:Nat) then (↑(sz s):Int) else (401:Int))/\(deepS s (1:Int)=if sz s<=(400:Nat) then deepS s (1:Int) else (0:Int))/\true=decide (sz s<=(400:Nat))/\True:=by
 refine ⟨by simp,ab (fun h=>?_) (fun h=>?_)⟩
 ·replace h:=Xo h
  have h':¬sz s<=400:=by omega
  rw [if_neg h',if_neg h']
  exact ⟨rfl,rfl,by simp [h'],trivial⟩
 ·replace h:¬(400:Int) < 0+(sz s:Int):=fun e=>h (Xd e)
  have h':sz s<=400:=by omega
  rw [if_pos h',if_pos h']
  exact ⟨by omega,by trivial,by simp [h'],trivial⟩
end Go.AL.Seat
end
section
namespace Go.Pd
open Go.AL
mutual
def sizeF:Shape→Int→Int
 | ⟨_,_,_,_,ps⟩,m=>sizeL ps 1 m
def sizeL:List Shape→Int→Int→Int
 | [],n,_=>n
 | p ::r,n,m=>if n<=m then sizeL r (n+sizeF p (m - n)) m else n
end
mutual
theorem sizeF_bd:∀(s:Shape) (m:Int),0<=m→1<=sizeF s m/\sizeF s m<=m+1
 | ⟨_,_,_,_,ps⟩,m,h=>by
  simp only [sizeF]
  exact sizeL_bd ps 1 m (by omega) (by omega)
theorem sizeL_bd:∀(l:List Shape) (n m:Int),1<=n→n<=m+1→1<=sizeL l n m/\sizeL l n m<=m+1
 | [],n,m,h1,h2=>by simp only [sizeL];omega
 | p ::r,n,m,h1,h2=>by
  simp only [sizeL]
  split
  ·have:=sizeF_bd p (m - n) (by omega)
   exact sizeL_bd r _ m (by omega) (by omega)
  ·omega
end
end Go.Pd
end
section
namespace Go.Pd
open Go.AL
theorem Ct {K V:Type} [DecidableEq K]:∀(m:List (K × V)) (k k':K) (v:V),cQ (dG m k v) k'=if k'=k then some v else cQ m k'
 | [],k,k',v=>by simp [dG,cQ]
 | (a,u) ::r,k,k',v=>by
  simp only [dG]
  by_cases h:k=a
  ·subst h
   rw [if_pos rfl]
   by_cases h':k'=k <;> simp [cQ,h']
  ·rw [if_neg h]
   simp only [cQ,Ct r k k' v]
   by_cases h1:k'=a
   ·subst h1
    simp [Ne.symm h]
   ·simp [h1]
def iq:List Str→List Shape→Str→Option Shape
 | n ::r,p ::q,name=>if n=name then some p else iq r q name
 | _,_,_=>none
def aZ (s:Shape) (name:Str):Option Shape:=iq s.names s.parts name
theorem oj:∀{ns:List Str} {ps:List Shape} {n:Str} {p:Shape},iq ns ps n=some p→p∈ps
 | [],ps,n,p,h=>by cases ps <;> simp [iq] at h
 | a ::r,[],n,p,h=>by simp [iq] at h
 | a ::r,b ::q,n,p,h=>by
  simp only [iq] at h
  split at h
  ·simp at h;subst h;simp
  ·exact List.mem_cons_of_mem _ (oj h)
theorem mI {f:Shape→Bool} {s:Shape} (h:allS f s=true):f s=true/\allL f s.parts=true:=by
 rw [kz,Bool.and_eq_true] at h
 exact h
end Go.Pd
end
section
namespace Go.Pd
open Go.AL
def p0 (A:Ans):Pat
 | [],[]=>some A
 | _,_=>none
theorem Cu [Tabs] {P:Program} {f:Nat} {A:Ans} (he:aB P f) (h:ax P f [] [] A):ai P f (p0 A):=by
 intro args S A' hA _ _
 unfold p0 at hA
 split at hA
 ·simp only [Xs] at hA
  subst hA
  exact ⟨he,h⟩
 ·cases hA
end Go.Pd
end
section
namespace Go.Pd
open Go.AL
mutual
theorem eqS_refl:∀a:Shape,eqS a a=true
 | ⟨k,p,n,ns,ps⟩=>by simp [eqS,eqL_refl ps]
theorem eqL_refl:∀a:List Shape,eqL a a=true
 | []=>rfl
 | a ::r=>by simp [eqL,eqS_refl a,eqL_refl r]
end
end Go.Pd
end
section
namespace Go.Pd
open Go.AL
def me:List Bndg→Bool
 | []=>true
 | b ::r=>if 800 < sizeF b.shape 800 then false else me r
def fv (l:List Bndg):Bool:=if 60 < (l.length:Int) then false else me l
def ir (e:Envt):Bool:=fv e.types && fv e.values && fv e.own
theorem Au {l:List Bndg} (h:fv l=true):l.length<=60:=by
 unfold fv at h
 split at h
 ·cases h
 ·omega
def bq (env:Envt) (b:List Bndg):Envt:=⟨env.self,env.types,env.values++b,env.own⟩
def szB:List Bndg→Nat
 | []=>0
 | b ::r=>sz b.shape+szB r
theorem Av:∀(l:List Bndg),∀x∈l,sz x.shape<=szB l
 | [],x,h=>by cases h
 | b ::r,x,h=>by
  rcases List.mem_cons.1 h with rfl | h
  ·rw [szB];omega
  ·have:=Av r x h;rw [szB];omega
end Go.Pd
end
section
open Go Go.AL Go.Pd
namespace Go.AL.Seat
theorem yn (l:List Bndg) (hl:Wf (.lst (.st .bind)) l) (ho:l.length *120<=140737488355328) :
  ∀(b:Bool),(b=true→l=[])→if b=true then True/\l=[]/\List.length l=(0:Nat)/\True else (List.length ([]:List Bndg)=List.length ([]:List Bndg)/\(List.length ([]:List Bndg)+List.length l) *(120:Nat)<=(140737488355328:Nat))/\True/\[]++l=l/\List.length ([]++l)=List.length l/\True:=by
 intro b hb
 refine ab (fun h=>?_) (fun h=>?_)
 ·have:=hb h
  exact ⟨trivial,this,by rw [this];rfl,trivial⟩
 ·exact ⟨⟨rfl,by simp only [List.length_nil];omega⟩,trivial,rfl,rfl,trivial⟩
end Go.AL.Seat
end
section
open Go Go.AL Go.Proofs Go.Shelf Go.Pd
namespace Go.AL.Seat
open Go.Proofs.Tryz
variable [Tabs]
def nn:Nat→Bool:=fun _=>false
def cf (k:Nat→Bool) (l:Nat→List (Option Nat)) (p r m:Nat→Bool) (s:Nat→List AV→List (Nat × SObj)→Option Ans):Cfg:=⟨tbl,s,k,l,p,r,m⟩
def a0:An:=⟨[],[],[]⟩
theorem g1 (k:Nat→Bool) (l:Nat→List (Option Nat)) (p r m:Nat→Bool) {s:Nat→List AV→List (Nat × SObj)→Option Ans} (hS:bH prog s) (a:An) {f:Nat} {fn:Func} (hf:Tryz.prog.funcs[f]?=some fn)
  {args:List AV} {S:List (Nat × SObj)} {A:Ans} {Q:Prop} (q:Q) (h:fwp (cf k l p r m s) a fn args S A=Q:=by kernel_rfl):ax prog f args S A:=A6 (C:=cf k l p r m s) mixed oi hS hf q h
theorem g0 {s:Nat→List AV→List (Nat × SObj)→Option Ans} (hS:bH prog s) (a:An) {f:Nat} {fn:Func} (hf:Tryz.prog.funcs[f]?=some fn)
  {args:List AV} {S:List (Nat × SObj)} {A:Ans} {Q:Prop} (q:Q) (h:fwp (cf nn (fun _=>[]) nn nn nn s) a fn args S A=Q:=by kernel_rfl):ax prog f args S A:=A6 (C:=cf nn (fun _=>[]) nn nn nn s) mixed oi hS hf q h
theorem sc {f:Nat} {g:Pat} {l:List (Nat × Pat)} (h:ai prog f g) (hl:bH prog (gi l)):bH prog (gi ((f,g) ::l)):=nP h hl
theorem sn:bH prog (gi []):=pJ
theorem ee {f:Nat} {fn:Func} (h:Tryz.prog.funcs[f]?=some fn) (e:(fn.body.isNone || (fn.name == "runtime.NumGoroutine"))=false:=by kernel_rfl):aB prog f:=aB.mk' h e
theorem Aw:ai prog 108 (qU 126):=
 vf (ee func108) fun c hc=>g0 sn a0 func108 (BX c hc)
theorem wX:aB prog 107:=ee func107
theorem vn (n:Nat) (s:AL.Shape) (l c:Int) (hs:Wf (.st .shape) s) (hn:sz s<=n+1) (hc:0<=c/\c<=400/\1<=l/\l<=c+1) (hA:ai prog 107 (mG 126 108 n)):ax prog 107 [.st .shape s,.int .i64 l,.fn 108 [.ptr 900 0]] [(900,.box (.int .i64 c))] (Ab 126 s l c (sz s<=n+1)):=
 g0 (sc Aw (sc (hA) sn)) ⟨[(4,fun S0=>⟨Nat × Int,fun x=>x.1<=s.parts.length/\c+1+(szL (s.parts.take x.1):Int)<=400/\deepL (s.parts.drop x.1) (l+1) x.2=deepS s l,fun x=>[(7,.int .i64 x.2),(16,.int .i64 x.1)],fun x=>[(900,.box (.int .i64 (c+1+(szL (s.parts.take x.1):Int))))],fun x=>s.parts.length - x.1⟩)],[],[]⟩ func107 (BY n s l c hs hn hc)
theorem Ax:∀n:Nat,ai prog 107 (mG 126 108 n):=by
 intro n
 induction n with
 | zero=>exact nU wX fun s l c hs hn hc=>absurd hn (by have:=fX s;omega)
 | succ n ih=>exact nU wX fun s l c hs hn hc=>vn n s l c hs hn hc ih
theorem sX (s:AL.Shape) (hs:Wf (.st .shape) s) :ax prog 59 [.st .shape s] [] (.ret (.tup [.int .i64 (if sz s<=400 then (sz s:Int) else 401),.int .i64 (if sz s<=400 then deepS s 1 else 0),.bool (decide (sz s<=400))])):=
 fwpR_sound (C:=⟨tbl,_,fun _=>false,fun _=>[],fun _=>false,fun _=>false,fun _=>false⟩) (ann:=⟨[],[],[]⟩) (annC:=⟨[],[],[]⟩) mixed oi (nP (Ax (sz s)) (pJ)) func59 func106 (enters_of func106 (by kernel_rfl) rfl) (@Eq.mpr _ _ (by kernel_rfl) (As s hs))
theorem pN:ai prog 59 (p1 (.st .shape) fun s=>.ret (.tup [.int .i64 (if sz s<=400 then (sz s:Int) else 401),.int .i64 (if sz s<=400 then deepS s 1 else 0),.bool (decide (sz s<=400))])):=
 bT (ee func59) fun s hs _=>sX s hs
theorem om:ai prog 34 (p1 (.lst (.st .bind)) fun l=>⟨some (l.length *120<=140737488355328),none,.lst (.st .bind) l (some 5),[(5,.tail (.st .bind) l.length)]⟩):=
 bT (ee func34) fun l hl ho=>g0 sn a0 func34 (yn l hl (ho _ rfl))
end Go.AL.Seat
end
section
namespace Go.Proofs
open Go.RowKit Go.Shelf Go.AL
theorem Tryz.compare (a b:ByteArray) (w:World):Calls Tryz.prog 63 #[.string a,.string b] w fun e w'=>e=.returned (.int .i64 (Lib.compareBytes a.data.toList b.data.toList))/\w'=w:=Any.strings_Compare Tryz.lays106 a b w
set_option maxRecDepth 100000 in
set_option maxHeartbeats 2000000 in
theorem Tryz.cmp62 (W:World) (b o g off cap len i j:Nat) (si sj:Str) (h1:W.cell? ⟨b,o+3,none⟩=some (.slice (some ⟨g,off,none⟩) len cap)) (hi:i < len) (hj:j < len) (ci:W.cell? ⟨g,off+i,none⟩=some (encStr si)) (cj:W.cell? ⟨g,off+j,none⟩=some (encStr sj)) :
  Calls Tryz.prog 62 #[.int .i64 i,.int .i64 j,.pointer (some ⟨b,o,none⟩)] W fun e w'=>e=.returned (.int .i64 (Lib.compareBytes si sj))/\∃q,w'=W.drewN q:=by
 go_enter Tryz.func62,Tryz.ntmps62
 go_wp2
 go_quiet (first | (go_at_call 63;refine Calls.quiet_of_same (Tryz.compare _ _ _)))
 go_wp2
 go_ret
 exact ⟨rfl,_,rfl⟩
end Go.Proofs
end
section
namespace Go.AL.Seat
open Go Go.AL Go.Proofs Go.Shelf
variable [Tabs]
theorem kC:ai Tryz.prog 61 (dw 62):=
 nS Tryz.sortf61 rfl (enters_of Tryz.func62 (by kernel_rfl) rfl) (fun W b o g0 off cap len i j si sj h1 h2 h3 h4 h5=>Tryz.cmp62 W b o g0 off cap len i j si sj h1 h2 h3 h4 h5) (aB.mk' Tryz.func61 (by kernel_rfl))
end Go.AL.Seat
end
section
namespace Go.AL
open Go.Shelf Go.Proofs Go.RowKit
variable [Tabs] {P:Program} {ρ:Ren}
theorem After.newRow {w w':World} {pub:Nat→Nat→Prop} {e:Nat→Option CObj} (hp:iz w pub) (hd:∀id,e id=none) (hb:Below w.heap.size w w') {g:Nat} (hg:w.heap.size<=g) {p:Nat→Prop} (hc:∀o,p o→∃v,w'.cell? ⟨g,o,none⟩=some v) :
  After w pub e (aw (bR [] [])) w' (fun b o=>pub b o∨(b=g/\p o)) e where
 os:=hb.os
 tape:=hb.tape
 output:=hb.output
 size:=hb.size
 block b h _:=hb.block b h
 cell b o h _:=ar (hb.block b h) o
 kind b h _:=⟨bg (hb.block b h),fun o=>aV (hb.block b h) o⟩
 ext:=⟨fun _ c h=>⟨c,h,CLe.refl c⟩,fun _ _ h=>.inl h,fun b o h=>by obtain ⟨v,hv⟩:=hp b o h;exact ar (hb.block b (aU hv)) o⟩
 fresh b o h:=by
  rcases h with h | ⟨rfl,_⟩
  ·exact .inl h
  ·exact .inr (.inl hg)
 ok b o h:=by
  rcases h with h | ⟨rfl,h⟩
  ·obtain ⟨v,hv⟩:=hp b o h;exact ⟨v,(ar (hb.block b (aU hv)) o).trans hv⟩
  ·exact hc o h
 slots id o h:=by simp [bR,aR,aN] at h
 dom id _:=hd id
 inj i j c d b o h:=by rw [hd i] at h;cases h
theorem sY (L:Lays2.n16 P ρ) (l:List Str) (hb:l.length *16<=140737488355328) {ob:Option Prop}:ax P (ρ.f 16) [.lst .str l none] [] ⟨ob,none,.lst .str l none,[]⟩:=by
 intro w pub e vs hp ht hv hs hd hi
 have he:e=fun _=>none:=funext fun id=>hd id rfl
 subst he
 obtain ⟨v,rfl,hV⟩:=hv.one_inv
 cases hV with
 | lstNil _ _ tok=>
  refine (Any.slices_Clone_string_nil L 0 0 w).mono ?_
  rintro en w' ⟨rfl,rfl⟩
  exact ⟨pub,_,fun b pv u h=>(by cases h),.lstNil _ _ tok,After.below hp (fun _=>rfl) (Below.refl _ _)⟩
 | lstVoid _ a=>
  refine (Any.slices_Clone_string_zero L a 0 w).mono ?_
  rintro en w' ⟨v',rfl,⟨hl,hrow⟩,hn,hbw⟩
  refine ⟨pub,_,fun b pv u h=>(by cases h),?_,After.below hp (fun _=>rfl) hbw⟩
  rcases hrow with ⟨rfl,hz⟩ | ⟨g,cap,cur,rfl,hbase,hg,h1,h2,h3,h4⟩
  ·exact absurd rfl hn
  ·exact .lst .str [] none g 0 cap (fun _ _=>.bool false) (Nat.zero_le _) (by unfold maxLen at h2;unfold bw;omega) (fun id h=>by cases h) (fun i x hx=>by cases hx) (fun i x hx=>by cases hx)
 | lst _ _ _ b off cap vals h1 h2 tok hcell hval=>
  have at_:∀i (hi:i < l.length),w.cell? ⟨b,off+i,none⟩=some (.string ⟨l[i].toArray⟩)/\l[i].length<=bw:=fun i hi=>by
   have hx:l[i]?=some l[i]:=List.getElem?_eq_getElem hi
   obtain ⟨_,c1⟩:=hcell i l[i] hx 0 (.str l[i]) rfl
   have c2:=hval i l[i] hx 0 (.str l[i]) rfl
   obtain ⟨c3,c4⟩:=c2.str_inv
   rw [c3,show off+(i *ah .str+0)=off+i by rw [show ah .str=1 from rfl];omega] at c1
   exact ⟨c1,c4⟩
  refine (Any.slices_Clone_string L b off l.length cap (l.map fun s=>(⟨s.toArray⟩:ByteArray)) w (by simp) hb (fun j hj=>?_)).mono ?_
  ·have hj':j < l.length:=by simpa using hj
   rw [(at_ j hj').1,List.getD_eq_getElem?_getD,List.getElem?_map,List.getElem?_eq_getElem hj']
   rfl
  rintro en w' ⟨v',rfl,⟨hl,hrow⟩,hn,hbw⟩
  rcases hrow with ⟨rfl,hz⟩ | ⟨g,cap',cur,rfl,hbase,hg,k1,k2,k3,k4⟩
  ·exact absurd rfl hn
  have hcur:∀i (hi:i < l.length),cur[i]?=some (.string ⟨l[i].toArray⟩):=fun i hi=>by
   have:(cur.toList.take (l.length *1))[i]?=some (.string ⟨l[i].toArray⟩):=by
    rw [k4,List.getElem?_map,List.getElem?_take]
    simp [hi]
   rw [List.getElem?_take] at this
   split at this
   ·simpa using this
   ·cases this
  refine ⟨fun b o=>pub b o∨(b=g/\o < l.length),_,fun b pv u h=>(by cases h),?_,After.newRow hp (fun _=>rfl) hbw hbase (p:=fun o=>o < l.length) (fun o ho=>⟨_,by rw [aK hg];exact hcur o ho⟩)⟩
  refine .lst .str l none g 0 cap' (fun i _=>.string ⟨(l.getD i []).toArray⟩) k1 (by unfold maxLen at k2;unfold bw;omega) (fun id h=>by cases h) (fun i x hx j c hc=>?_) (fun i x hx j c hc=>?_)
  ·obtain ⟨hi,rfl⟩:=List.getElem?_eq_some_iff.1 hx
   have hj:j=0:=by
    cases j with
    | zero=>rfl
    | succ j=>simp [cells] at hc
   subst hj
   rw [show 0+(i *ah .str+0)=i by rw [show ah .str=1 from rfl];omega]
   refine ⟨.inr ⟨rfl,hi⟩,?_⟩
   show w'.cell? ⟨g,i,none⟩=_
   rw [aK hg,hcur i hi,List.getD_eq_getElem?_getD,List.getElem?_eq_getElem hi]
   rfl
  ·obtain ⟨hi,rfl⟩:=List.getElem?_eq_some_iff.1 hx
   have hj:j=0:=by
    cases j with
    | zero=>rfl
    | succ j=>simp [cells] at hc
   subst hj
   have e1:c=.str l[i]:=by simpa [cells] using hc.symm
   subst e1
   rw [List.getD_eq_getElem?_getD,List.getElem?_eq_getElem hi]
   exact .str _ (at_ i hi).2
def sZ:Pat:=p1 (.lst .str) fun l=>⟨some (l.length *16<=140737488355328),none,.lst .str l none,[]⟩
theorem ta {f:Nat} (L:Lays2.n16 P ρ) (hf:ρ.f 16=f) (he:aB P f):ai P f sZ:=by
 subst hf
 exact bT he fun l _ ho=>sY L l (ho _ rfl)
end Go.AL
end
section
namespace Go.Proofs
open Go.Shelf
def Tryz.lays2_16_ren:Go.Shelf.Ren:=⟨fun | 16=>64 | n=>n,fun | 24=>22 | 9=>9 | 4=>4 | n=>n,fun | n=>n⟩
theorem Tryz.lays2_16:Go.Proofs.Lays2.n16 Tryz.prog Tryz.lays2_16_ren:={
 mixed:=by kernel_rfl
 f16:=Xt Tryz.func64
 t4:=Tryz.underlying4
 a4:=Tryz.isAgg4
 z4:=Tryz.sizeOf4
 v4:=Tryz.zeroValue4
 t9:=Tryz.underlying9
 a9:=Tryz.isAgg9
 z9:=Tryz.sizeOf9
 v9:=Tryz.zeroValue9
 t24:=Tryz.underlying22
 a24:=Tryz.isAgg22
 z24:=Tryz.sizeOf22
 v24:=Tryz.zeroValue22
 i9:=by kernel_rfl}
end Go.Proofs
end
section
namespace Go.AL.Seat
open Go Go.AL Go.Proofs Go.Shelf Go.Pd
variable [Tabs]
theorem lu:ai Tryz.prog 64 sZ:=ta Tryz.lays2_16 rfl (aB.mk' Tryz.func64 (by kernel_rfl))
end Go.AL.Seat
end
section
namespace Go.Pd
open Go.AL
variable {l:List Tokn} {R:PS→Trm × PS}
end Go.Pd
namespace Go.Pd
open Go.AL
structure TokG (t:Tokn):Prop where
 kind:¬t.kind=0
 name:t.kind=1→aY t.text=true
 upper:t.kind=2→ek t.text=true
 num:t.kind=3→lW t.text
 pos:0<=t.pos
end Go.Pd
namespace Go.Pd
open Go.AL
end Go.Pd
end
noncomputable section
namespace Go.Pd
open Go.AL
def dA (F:Shape→Shape→Bool) (must:Bool) (b:Shape):List Str→List Shape→Bool
 | m ::r,p ::q=>(match aZ b m with | none=>!must | some x=>F p x) && dA F must b r q
 | _,_=>true
def iA (F:Shape→Shape→Bool) (fn:Bool):List Shape→List Shape→Bool
 | p ::r,q ::s=>(if (fn && !r.isEmpty)=true then F q p else F p q) && iA F fn r s
 | _,_=>true
def aX:Nat→Shape→Shape→Bool
 | 0,_,_=>false
 | n+1,a,b=>decide (a.kind=4) || decide (b.kind=4) ||
   (decide (a.kind=b.kind) && decide (a.pkg=b.pkg) && decide (a.name=b.name) &&
    (if a.kind=6 then dA (aX n) false b a.names a.parts && b.names.all (fun m=>(aZ a m).isSome)
    else if a.kind=7 then dA (aX n) true b a.names a.parts
    else decide (a.parts.length=b.parts.length) && iA (aX n) (decide (a.kind=8)) a.parts b.parts))
def kD (a b:Shape):Bool:=decide (aF a=0) && decide (aF b=0) && aX 800 a b
theorem kE {s:Shape} (h:aq s=true):s.names=[]∨s.names.length=s.parts.length:=by
 unfold aq cN at h
 simp only at h
 repeat' split at h
 all_goals simp only [Bool.and_eq_true,decide_eq_true_eq,List.all_eq_true,Bool.false_eq_true] at h
 all_goals first
  | exact .inl h.1.2
  | exact .inr h.2.1.1.2
  | exact .inr h.2.1.1
  | skip
theorem yo {o:Shape} {m:Str} {x:Shape} (h:aZ o m=some x):True/\x∈o.parts:=⟨trivial,oj h⟩
theorem oq (m:Str) (d:Shape):∀(ns:List Str) (ps:List Shape) (k:Nat),ns.length=ps.length→
  (bK ns m (k:Int)=-1/\iq ns ps m=none)∨∃j,j < ns.length/\bK ns m (k:Int)=((k+j:Nat):Int)/\iq ns ps m=some (ps.getD j d)
 | [],ps,k,_=>.inl ⟨rfl,by cases ps <;> rfl⟩
 | a ::r,p ::q,k,h=>by
  simp only [bK,iq]
  by_cases e:a=m
  ·rw [if_pos e,if_pos e]
   exact .inr ⟨0,by simp,by simp,rfl⟩
  ·rw [if_neg e,if_neg e]
   have:=oq m d r q (k+1) (by simpa using h)
   rw [show ((k:Int)+1)=((k+1:Nat):Int) by omega]
   rcases this with h1 | ⟨j,h1,h2,h3⟩
   ·exact .inl h1
   ·exact .inr ⟨j+1,by simp;omega,by rw [h2];omega,by rw [h3];rfl⟩
theorem pO {s:Shape} (m:Str) (d:Shape) (h:s.names=[]∨s.names.length=s.parts.length):(¬0<=bK s.names m 0/\aZ s m=none)∨(0<=bK s.names m 0/\bK s.names m 0 < (s.parts.length:Int)/\aZ s m=some (s.parts.getD (bK s.names m 0).toNat d)):=by
 unfold aZ
 rcases h with e | e
 ·rw [e]
  exact .inl ⟨by simp [bK],by cases s.parts <;> rfl⟩
 ·rcases oq m d s.names s.parts 0 e with ⟨h1,h2⟩ | ⟨j,h1,h2,h3⟩
  ·have h1:bK s.names m 0=-1:=h1
   exact .inl ⟨by omega,h2⟩
  ·have h2:bK s.names m 0=((0+j:Nat):Int):=h2
   refine .inr ⟨by omega,by omega,?_⟩
   rw [h2,h3,Int.toNat_natCast,Nat.zero_add]
theorem Ay {s:Shape} (m:Str) (d:Shape) (h:aq s=true):(¬0<=bK s.names m 0/\aZ s m=none)∨(0<=bK s.names m 0/\bK s.names m 0 < (s.parts.length:Int)/\aZ s m=some (s.parts.getD (bK s.names m 0).toNat d)):=pO m d (kE h)
theorem Az {s:Shape} (h:aF s=0):(aW s).names=[]∨(aW s).names.length=(aW s).parts.length:=by
 unfold aW
 rw [if_pos h]
 obtain ⟨k,p,n,ns,ps⟩:=s
 by_cases e:ns=[]
 ·exact .inl (by rw [sortedS,if_pos e])
 ·exact .inr (by rw [sortedS];simp [e])
def r8 (g:Nat) (F:Shape→Shape→Ans):Pat:=fun args S=>
 match args,S with
 | [.ptr 900 0,a,b],[(900,.box (.agg [.fn f []]))]=>
  (match Nat.beq f g,arg (.st .shape) a,arg (.st .shape) b with
  | true,some x,some y=>some (F x y)
  | _,_,_=>none)
 | _,_=>none
theorem pP [Tabs] {P:Program} {f g:Nat} {F:Shape→Shape→Ans} (he:aB P f) (h:∀a b,Wf (.st .shape) a→Wf (.st .shape) b→(∀q,(F a b).ob=some q→q)→ax P f [.ptr 900 0,.st .shape a,.st .shape b] [(900,.box (.agg [.fn g []]))] (F a b)) :
  ai P f (r8 g F):=by
 intro args S A hA ho _
 unfold r8 at hA
 split at hA
 ·split at hA
  ·rename_i x y hb hx hy
   simp only [Xs] at hA
   subst hA
   have e:=Nat.eq_of_beq_eq_true hb
   subst e
   exact ⟨he,ax.args (.cons (Rd.refl _) (.cons (Rd.arg hx) (.cons (Rd.arg hy) .nil))) (ax.wf fun hw=>h _ _ hw.cons.2.cons.1 hw.cons.2.cons.2.cons.1 ho)⟩
  ·cases hA
 ·cases hA
def kF (g:Nat) (F:List Str→Shape→Ans):Pat:=fun args S=>
 match args,S with
 | [a,.fn f [.ptr 900 0]],[(900,.box (.st .shape s))]=>(match Nat.beq f g,arg (.lst .str) a with | true,some x=>some (F x s) | _,_=>none)
 | _,_=>none
theorem mf [Tabs] {P:Program} {f g:Nat} {F:List Str→Shape→Ans} (he:aB P f) (h:∀a s,Wf (.lst .str) a→(∀q,(F a s).ob=some q→q)→ax P f [.lst .str a none,.fn g [.ptr 900 0]] [(900,.box (.st .shape s))] (F a s)) :
  ai P f (kF g F):=by
 intro args S A hA ho _
 unfold kF at hA
 split at hA
 ·split at hA
  ·rename_i x hb hx
   simp only [Xs] at hA
   subst hA
   have e:=Nat.eq_of_beq_eq_true hb
   subst e
   exact ⟨he,ax.args (.cons (Rd.arg hx) (.cons (Rd.refl _) .nil)) (ax.wf fun hw=>h _ _ hw.one ho)⟩
  ·cases hA
 ·cases hA
def vo (F:Str→Shape→Ans):Pat:=fun args S=>
 match args,S with
 | [a,.ptr 900 0],[(900,.box (.st .shape s))]=>(match arg .str a with | some x=>some (F x s) | _=>none)
 | _,_=>none
theorem yp [Tabs] {P:Program} {f:Nat} {F:Str→Shape→Ans} (he:aB P f) (h:∀a s,(∀q,(F a s).ob=some q→q)→ax P f [.str a,.ptr 900 0] [(900,.box (.st .shape s))] (F a s)) :
  ai P f (vo F):=by
 intro args S A hA ho _
 unfold vo at hA
 split at hA
 ·split at hA
  ·rename_i x hx
   simp only [Xs] at hA
   subst hA
   exact ⟨he,ax.args (.cons (Rd.arg hx) (.cons (Rd.refl _) .nil)) (h _ _ ho)⟩
  ·cases hA
 ·cases hA
end Go.Pd
end
noncomputable section
namespace Go.Pd
open Go.AL
def aO:List Bndg→Str→Str→Option Shape
 | [],_,_=>none
 | b ::r,o,m=>match aO r o m with
  | some s=>some s
  | none=>if b.pkg=o/\b.name=m then some b.shape else none
def mg (l:List Bndg) (m:List (Nam × Shape)):List (Nam × Shape):=l.foldl (fun m b=>dG m ⟨b.pkg,b.name⟩ b.shape) m
def gl (l:List Bndg):List (Nam × Shape):=mg l []
def b6 (m:List (Nam × Shape)) (o n:Str):Option Shape:=cQ m ⟨o,n⟩
theorem wY (k:Nam):∀(l:List Bndg) (m:List (Nam × Shape)),cQ (mg l m) k=match aO l k.pkg k.name with | some s=>some s | none=>cQ m k
 | [],m=>rfl
 | b ::r,m=>by
  rw [mg,List.foldl_cons,←mg,wY k r,aO]
  cases aO r k.pkg k.name with
  | some s=>rfl
  | none=>
   rw [Ct]
   by_cases h:b.pkg=k.pkg/\b.name=k.name
   ·rw [if_pos h,if_pos (show k=⟨b.pkg,b.name⟩ by cases k;simp at h;rw [h.1,h.2])]
   ·rw [if_neg h,if_neg (fun e=>h (by rw [e];exact ⟨rfl,rfl⟩))]
theorem tc (l:List Bndg):b6 (gl l)=aO l:=by
 funext o n
 unfold b6 gl
 rw [wY]
 show (match aO l o n with | some s=>some s | none=>none)=_
 cases aO l o n <;> rfl
mutual
def fillS (g:Str→Str→Option Shape):Shape→Option Shape
 | ⟨k,o,m,ns,ps⟩=>if k=9 then g o m else (fillL g ps).map fun q=>⟨k,o,m,ns,q⟩
def fillL (g:Str→Str→Option Shape):List Shape→Option (List Shape)
 | []=>some []
 | p ::r=>match fillS g p with
  | none=>none
  | some q=>(fillL g r).map fun l=>q ::l
end
theorem kG (g:Str→Str→Option Shape) (s:Shape):fillS g s=if s.kind=9 then g s.pkg s.name else (fillL g s.parts).map fun q=>⟨s.kind,s.pkg,s.name,s.names,q⟩:=by cases s;rw [fillS]
def au (s:Shape) (l:List Bndg):Shape × Int:=
 if aF s=0 then
  match fillS (aO l) s with
  | none=>(ao,110)
  | some q=>if aF q=0 then (aW q,0) else (ao,aF q)
 else (ao,aF s)
def vp (A:Option (List (Nam × Shape))→Nam→Shape→Ans):Pat:=fun args S=>
 match args,S with
 | [.ptr 900 0,k,v],(900,.box a) ::r=>
  (match arg (.st .nm) k,arg (.st .shape) v with
  | some k,some v=>(match a,r with
   | .agg [.nilm],[]=>some (A none k v)
   | .map 901,[(901,.map (.st .nm) (.st .shape) m)]=>some (A (some m) k v)
   | _,_=>none)
  | _,_=>none)
 | _,_=>none
theorem yq [Tabs] {P:Program} {f:Nat} {A:Option (List (Nam × Shape))→Nam→Shape→Ans} (he:aB P f)
  (h0:∀k v,ax P f [.ptr 900 0,.st .nm k,.st .shape v] [(900,.box (.agg [.nilm]))] (A none k v))
  (h1:∀m k v,ax P f [.ptr 900 0,.st .nm k,.st .shape v] [(900,.box (.map 901)),(901,.map (.st .nm) (.st .shape) m)] (A (some m) k v)):ai P f (vp A):=by
 intro args S B hB ho _
 unfold vp at hB
 split at hB
 ·split at hB
  ·rename_i k v hk hv
   split at hB
   ·cases hB
    exact ⟨he,ax.args (.cons (Rd.refl _) (.cons (Rd.arg hk) (.cons (Rd.arg hv) .nil))) (h0 _ _)⟩
   ·cases hB
    exact ⟨he,ax.args (.cons (Rd.refl _) (.cons (Rd.arg hk) (.cons (Rd.arg hv) .nil))) (h1 _ _ _)⟩
   ·cases hB
  ·cases hB
 ·cases hB
def vq (A:Option (List (Nam × Shape))→Nam→Ans):Pat:=fun args S=>
 match args,S with
 | [.ptr 900 0,k],(900,.box a) ::r=>
  (match arg (.st .nm) k with
  | some k=>(match a,r with
   | .agg [.nilm],[]=>some (A none k)
   | .map 901,[(901,.map (.st .nm) (.st .shape) m)]=>some (A (some m) k)
   | _,_=>none)
  | _=>none)
 | _,_=>none
theorem yr [Tabs] {P:Program} {f:Nat} {A:Option (List (Nam × Shape))→Nam→Ans} (he:aB P f)
  (h0:∀k,ax P f [.ptr 900 0,.st .nm k] [(900,.box (.agg [.nilm]))] (A none k))
  (h1:∀m k,ax P f [.ptr 900 0,.st .nm k] [(900,.box (.map 901)),(901,.map (.st .nm) (.st .shape) m)] (A (some m) k)):ai P f (vq A):=by
 intro args S B hB ho _
 unfold vq at hB
 split at hB
 ·split at hB
  ·rename_i k hk
   split at hB
   ·cases hB
    exact ⟨he,ax.args (.cons (Rd.refl _) (.cons (Rd.arg hk) .nil)) (h0 _)⟩
   ·cases hB
    exact ⟨he,ax.args (.cons (Rd.refl _) (.cons (Rd.arg hk) .nil)) (h1 _ _)⟩
   ·cases hB
  ·cases hB
 ·cases hB
def kH (A:Option (List (Nam × Shape))→Shape→Ans):Pat:=fun args S=>
 match args,S with
 | [s,.ptr 900 0],(900,.box a) ::r=>
  (match arg (.st .shape) s with
  | some s=>(match a,r with
   | .agg [.nilm],[]=>some (A none s)
   | .map 901,[(901,.map (.st .nm) (.st .shape) m)]=>some (A (some m) s)
   | _,_=>none)
  | _=>none)
 | _,_=>none
theorem ot [Tabs] {P:Program} {f:Nat} {A:Option (List (Nam × Shape))→Shape→Ans} (he:aB P f)
  (h0:∀s,Wf (.st .shape) s→(∀q,(A none s).ob=some q→q)→ax P f [.st .shape s,.ptr 900 0] [(900,.box (.agg [.nilm]))] (A none s))
  (h1:∀m s,Wf (.st .shape) s→(∀q,(A (some m) s).ob=some q→q)→ax P f [.st .shape s,.ptr 900 0] [(900,.box (.map 901)),(901,.map (.st .nm) (.st .shape) m)] (A (some m) s)):ai P f (kH A):=by
 intro args S B hB ho _
 unfold kH at hB
 split at hB
 ·split at hB
  ·rename_i k hk
   split at hB
   ·cases hB
    exact ⟨he,ax.args (.cons (Rd.arg hk) (.cons (Rd.refl _) .nil)) (ax.wf fun hw=>h0 _ hw.cons.1 ho)⟩
   ·cases hB
    exact ⟨he,ax.args (.cons (Rd.arg hk) (.cons (Rd.refl _) .nil)) (ax.wf fun hw=>h1 _ _ hw.cons.1 ho)⟩
   ·cases hB
  ·cases hB
 ·cases hB
def ou (A0:Ans) (A1:Bndg→List Bndg→Ans):Pat:=fun args S=>
 match args,S with
 | [a],[]=>(match arg (.lst (.st .bind)) a with | some []=>some A0 | some (b ::r)=>some (A1 b r) | none=>none)
 | _,_=>none
theorem td [Tabs] {P:Program} {f:Nat} {A0:Ans} {A1:Bndg→List Bndg→Ans} (he:aB P f)
  (h0:ax P f [.lst (.st .bind) [] none] [] A0) (h1:∀b r,Wf (.lst (.st .bind)) (b ::r)→ax P f [.lst (.st .bind) (b ::r) none] [] (A1 b r)):ai P f (ou A0 A1):=by
 intro args S B hB ho _
 unfold ou at hB
 split at hB
 ·split at hB
  ·rename_i hk
   cases hB
   exact ⟨he,ax.args (.cons (Rd.arg hk) .nil) h0⟩
  ·rename_i b r hk
   cases hB
   exact ⟨he,ax.args (.cons (Rd.arg hk) .nil) (ax.wf fun hw=>h1 _ _ hw.one)⟩
  ·cases hB
 ·cases hB
end Go.Pd
end
section
namespace Go.Pd
open Go.AL
def ofK (k:Int):Shape:=⟨k,[],[],[],[]⟩
theorem j9 (b:Bndg) (o m:Str):∀l:List Bndg,aO (l++[b]) o m=if b.pkg=o/\b.name=m then some b.shape else aO l o m
 | []=>rfl
 | x ::r=>by
  rw [List.cons_append,aO,j9 b o m r,aO]
  by_cases h:b.pkg=o/\b.name=m
  ·rw [if_pos h,if_pos h]
  ·rw [if_neg h,if_neg h]
theorem te (l:List Bndg) (o m:Str) (d:Bndg) {k:Nat} (h:k < l.length):aO (l.take (k+1)) o m=if (l.getD k d).pkg=o/\(l.getD k d).name=m then some (l.getD k d).shape else aO (l.take k) o m:=by
 have e:l.take (k+1)=l.take k++[l.getD k d]:=by rw [List.take_succ];simp [List.getD_eq_getElem?_getD,h]
 rw [e,j9]
def mJ (o m:Str):Shape:=⟨10,o,m,[],[]⟩
def kI (m:Str) (s:Shape):Bndg:=⟨[],m,s⟩
def cU:Flt:=⟨0,0⟩
def ay (T:Trm→Envt→Shape × Flt) (p:Trm) (want:Shape) (env:Envt):Flt:=
 if (T p env).2.err=0/\kD (T p env).1 want=false then ⟨140,p.pos⟩ else (T p env).2
def dB (T:Trm→Envt→Shape × Flt) (env:Envt):List Trm→List Shape→Flt
 | p ::r,w ::q=>if (ay T p w env).err=0 then dB T env r q else ay T p w env
 | _,_=>cU
def cn (T:Trm→Envt→Shape × Flt) (env:Envt) (w:Shape):List Trm→Flt
 | p ::r=>if (ay T p w env).err=0 then cn T env w r else ay T p w env
 | []=>cU
def ae (l:List Bndg) (at_:Int):List Shape→List Shape × Flt
 | []=>([],cU)
 | s ::r=>if (au s l).2=0 then (if (ae l at_ r).2.err=0 then ((au s l).1 ::(ae l at_ r).1,cU) else ([],(ae l at_ r).2)) else ([],⟨(au s l).2,at_⟩)
def bZ (T:Trm→Envt→Shape × Flt) (env:Envt):List Trm→List Shape × (Shape × Flt)
 | []=>([],(ao,cU))
 | p ::r=>if (T p env).2.err=0 then ((T p env).1 ::(bZ T env r).1,(bZ T env r).2) else ([],T p env)
def bL (T:Trm→Envt→Shape × Flt) (t:Trm) (env:Envt):Shape × Flt:=
 let r:=T (t.parts.getD 0 aA) env
 if r.2.err=0 then
  if r.1.kind=4 then
   (if (cn T env (ofK 4) (t.parts.drop 1)).err=0 then (r.1,cU) else (r.1,cn T env (ofK 4) (t.parts.drop 1)))
  else if r.1.kind=8/\r.1.parts.length=t.parts.length then
   (if (dB T env (t.parts.drop 1) r.1.parts).err=0 then (r.1.parts.getD (r.1.parts.length - 1) ao,cU) else (r.1,dB T env (t.parts.drop 1) r.1.parts))
  else (r.1,⟨140,t.pos⟩)
 else r
def bO (T:Trm→Envt→Shape × Flt) (t:Trm) (env:Envt):Shape × Flt:=
 let r:=T (t.parts.getD 0 aA) env
 if r.2.err=0 then
  if r.1.kind=4 then r
  else if r.1.kind=6/\(aZ r.1 t.name).isSome=true then ((aZ r.1 t.name).getD ao,cU)
  else (r.1,⟨140,t.pos⟩)
 else r
def cK (l:List Bndg) (m:Str):Option Shape:=match l with
 | []=>none
 | b ::r=>match cK r m with
  | some s=>some s
  | none=>if b.name=m then some b.shape else none
def cA (T:Trm→Envt→Shape × Flt) (t:Trm) (env:Envt):Shape × Flt:=
 match cK env.own t.name with
 | none=>(ao,⟨110,t.pos⟩)
 | some s=>if t.kind=17 then (aW s,ay T (t.parts.getD 0 aA) (mJ env.self t.name) env) else (mJ env.self t.name,ay T (t.parts.getD 0 aA) (aW s) env)
def ez (T:Trm→Envt→Shape × Flt) (env:Envt) (w:Shape):List Trm→List Str→List Shape→Flt
 | p ::r,v ::vs,s ::ss=>if (ay T p w (bq env [kI v s])).err=0 then ez T env w r vs ss else ay T p w (bq env [kI v s])
 | _,_,_=>cU
def dM:List Str→List Shape→List Bndg
 | m ::r,s ::q=>kI m s ::dM r q
 | _,_=>[]
def aC (T:Trm→Envt→Shape × Flt) (t:Trm) (env:Envt):Shape × Flt:=
 let l:=ae env.types t.pos t.shapes
 if l.2.err=0 then
  if t.kind=6 then
   let r:=T (t.parts.getD 0 aA) (bq env (dM t.names l.1))
   (⟨8,[],[],[],l.1++[r.1]⟩,r.2)
  else if t.kind=11 then
   (if (cn T env (l.1.getD 0 ao) t.parts).err=0 then (⟨5,[],[],[],l.1⟩,cU) else (l.1.getD 0 ao,cn T env (l.1.getD 0 ao) t.parts))
  else if t.kind=15 then (l.1.getD 0 ao,ay T (t.parts.getD 0 aA) (l.1.getD 0 ao) env)
  else if t.kind=12 then
   (l.1.getD 0 ao,
    if (ay T (t.parts.getD 0 aA) (ofK 2) env).err=0 then
     (if (ay T (t.parts.getD 1 aA) (l.1.getD 0 ao) env).err=0 then ay T (t.parts.getD 2 aA) (l.1.getD 0 ao) env else ay T (t.parts.getD 1 aA) (l.1.getD 0 ao) env)
    else ay T (t.parts.getD 0 aA) (ofK 2) env)
  else
   (l.1.getD (l.1.length - 1) ao,
    if (ay T (t.parts.getD 0 aA) ⟨7,[],[],t.names,l.1.take (l.1.length - 1)⟩ env).err=0 then ez T env (l.1.getD (l.1.length - 1) ao) (t.parts.drop 1) t.vars l.1
    else ay T (t.parts.getD 0 aA) ⟨7,[],[],t.names,l.1.take (l.1.length - 1)⟩ env)
 else (ao,l.2)
def an (T:Trm→Envt→Shape × Flt) (t:Trm) (env:Envt):Shape × Flt:=
 if t.kind=1 then (ofK 1,cU)
 else if t.kind=2 then (ofK 3,cU)
 else if t.kind=3∨t.kind=4 then (ofK 2,cU)
 else if t.kind=5 then
  match aO env.values t.pkg t.name with
  | some s=>(aW s,cU)
  | none=>(ao,⟨110,t.pos⟩)
 else if t.kind=7 then bL T t env
 else if t.kind=8 then
  (if (bZ T env t.parts).2.2.err=0 then (⟨6,[],[],t.names,(bZ T env t.parts).1⟩,cU) else (bZ T env t.parts).2)
 else if t.kind=9 then bO T t env
 else if t.kind=10 then (⟨7,[],[],[t.name],[(T (t.parts.getD 0 aA) env).1]⟩,(T (t.parts.getD 0 aA) env).2)
 else if t.kind=14 then
  (if (T (t.parts.getD 0 aA) env).2.err=0 then T (t.parts.getD 1 aA) (bq env [kI t.name (T (t.parts.getD 0 aA) env).1]) else T (t.parts.getD 0 aA) env)
 else if t.kind=16∨t.kind=17 then cA T t env
 else aC T t env
def iu (t:Trm) (r:Shape × Flt):Shape × Flt:=
 if r.2.err=0 then (if aF r.1=0 then (aW r.1,cU) else (ao,⟨aF r.1,t.pos⟩)) else (ao,r.2)
def aa:Nat→Trm→Envt→Shape × Flt
 | 0,_,_=>(ao,cU)
 | n+1,t,env=>iu t (an (aa n) t env)
def ck (t:Trm) (env:Envt):Shape × Flt:=if di t=0 then aa (szT t) t env else (ao,⟨di t,0⟩)
theorem yt {n:Nat} {t:Trm} {e:Envt} (h:(aa n t e).2.err=0):(aa n t e).1.names=[]∨(aa n t e).1.names.length=(aa n t e).1.parts.length:=by
 cases n with
 | zero=>exact .inl rfl
 | succ n=>
  rw [show aa (n+1) t e=iu t (an (aa n) t e) from rfl] at h ⊢
  revert h
  generalize an (aa n) t e=r
  intro h
  unfold iu at h ⊢
  by_cases h1:r.2.err=0
  ·rw [if_pos h1] at h ⊢
   by_cases h2:aF r.1=0
   ·rw [if_pos h2];exact Az h2
   ·rw [if_neg h2] at h;exact absurd h h2
  ·rw [if_neg h1] at h;exact absurd h h1
theorem ow {t:Trm} {n j:Nat} (d:Trm) (hz:szT t<=n+1) (hf:allT aj t=true) (hj:j < t.parts.length) :
  szT (t.parts.getD j d)<=n/\allT aj (t.parts.getD j d)=true/\szT (t.parts.getD j d)+1<=szT t:=by
 have m:=AL.getD_mem t.parts j d hj
 have h1:=szT_mem m
 have h2:=szT_eq t
 rw [allT_eq,Bool.and_eq_true,allTL_all,List.all_eq_true] at hf
 exact ⟨by omega,hf.2 _ m,by omega⟩
theorem gm (l:List Bndg) (a:Int) (s:Shape) (r:List Shape):ae l a (s ::r)=if (au s l).2=0 then (if (ae l a r).2.err=0 then ((au s l).1 ::(ae l a r).1,cU) else ([],(ae l a r).2)) else ([],⟨(au s l).2,a⟩):=rfl
theorem pQ {l:List Bndg} {a:Int}:∀{s:List Shape},(ae l a s).2.err=0→ae l a s=((ae l a s).1,cU)
 | [],_=>rfl
 | s ::r,h=>by
  rw [gm] at h ⊢
  by_cases h1:(au s l).2=0
  ·rw [if_pos h1] at h ⊢
   by_cases h2:(ae l a r).2.err=0
   ·rw [if_pos h2]
   ·rw [if_neg h2] at h;exact absurd h h2
  ·rw [if_neg h1] at h;exact absurd h h1
theorem vr {l:List Bndg} {a:Int}:∀{s:List Shape},¬(ae l a s).2.err=0→ae l a s=([],(ae l a s).2)
 | [],h=>absurd rfl h
 | s ::r,h=>by
  rw [gm] at h ⊢
  by_cases h1:(au s l).2=0
  ·rw [if_pos h1] at h ⊢
   by_cases h2:(ae l a r).2.err=0
   ·rw [if_pos h2] at h;exact absurd rfl h
   ·rw [if_neg h2]
  ·rw [if_neg h1]
theorem ox (b:Bndg) (m:Str):∀l:List Bndg,cK (l++[b]) m=if b.name=m then some b.shape else cK l m
 | []=>rfl
 | x ::r=>by
  rw [List.cons_append,cK,ox b m r,cK]
  by_cases h:b.name=m
  ·rw [if_pos h,if_pos h]
  ·rw [if_neg h,if_neg h]
theorem vt (l:List Bndg) (m:Str) (d:Bndg) {k:Nat} (h:k < l.length):cK (l.take (k+1)) m=if (l.getD k d).name=m then some (l.getD k d).shape else cK (l.take k) m:=by
 have e:l.take (k+1)=l.take k++[l.getD k d]:=by rw [List.take_succ];simp [List.getD_eq_getElem?_getD,h]
 rw [e,ox]
theorem jr {T:Trm→Envt→Shape × Flt} {t:Trm} {env:Envt} (h:cK env.own t.name=none):cA T t env=(ao,⟨110,t.pos⟩):=by unfold cA;rw [h]
theorem js {T:Trm→Envt→Shape × Flt} {t:Trm} {env:Envt} {s:Shape} (h:cK env.own t.name=some s):cA T t env=if t.kind=17 then (aW s,ay T (t.parts.getD 0 aA) (mJ env.self t.name) env) else (mJ env.self t.name,ay T (t.parts.getD 0 aA) (aW s) env):=by unfold cA;rw [h]
theorem yu (e:Envt):bq e []=e:=by
 cases e
 unfold bq
 rw [List.append_nil]
theorem tg (e:Envt) (l r:List Bndg):bq (bq e l) r=bq e (l++r):=by
 unfold bq
 rw [List.append_assoc]
theorem oy {l:List Bndg} {a:Int}:∀{ss:List Shape},(ae l a ss).2.err=0→(ae l a ss).1.length=ss.length
 | [],_=>rfl
 | s ::r,h=>by
  rw [gm] at h ⊢
  by_cases h1:(au s l).2=0
  ·rw [if_pos h1] at h ⊢
   by_cases h2:(ae l a r).2.err=0
   ·rw [if_pos h2,List.length_cons,List.length_cons,oy h2]
   ·rw [if_neg h2] at h;exact absurd h h2
  ·rw [if_neg h1] at h;exact absurd h h1
theorem yw {n:Nat} {t:Trm} {e:Envt} (h:(aa n t e).2.err=0):(aa n t e).2=cU:=by
 cases n with
 | zero=>rfl
 | succ n=>
  rw [show aa (n+1) t e=iu t (an (aa n) t e) from rfl] at h ⊢
  revert h
  generalize an (aa n) t e=r
  intro h
  unfold iu at h ⊢
  by_cases h1:r.2.err=0
  ·rw [if_pos h1] at h ⊢
   by_cases h2:aF r.1=0
   ·rw [if_pos h2]
   ·rw [if_neg h2] at h;exact absurd h h2
  ·rw [if_neg h1] at h;exact absurd h h1
theorem yx {n:Nat} {t:Trm} {w:Shape} {e:Envt} (h:(ay (aa n) t w e).err=0):ay (aa n) t w e=cU:=by
 unfold ay at h ⊢
 by_cases c:(aa n t e).2.err=0/\kD (aa n t e).1 w=false
 ·rw [if_pos c] at h;exact absurd (show (140:Int)=0 from h) (by decide)
 ·rw [if_neg c] at h ⊢;exact yw h
theorem yy {c:Prop} [Decidable c] {a b:Bool} {P:Prop} (h:(if c then a else b)=true) (f:c→a=true→P) (g:¬c→b=true→P):P:=by
 by_cases k:c
 ·rw [if_pos k] at h;exact f k h
 ·rw [if_neg k] at h;exact g k h
structure RoomR (t:Trm):Prop where
 k6:t.kind=6→t.names.length<=4096/\t.shapes.length=t.names.length/\t.parts.length=1
 k7:t.kind=7→0 < t.parts.length
 k1:t.kind=9∨t.kind=10∨t.kind=16∨t.kind=17→t.parts.length=1
 k11:t.kind=11→t.shapes.length=1
 k12:t.kind=12→t.shapes.length=1/\t.parts.length=3
 k13:t.kind=13→t.vars.length=t.names.length/\t.shapes.length=t.names.length+1/\t.parts.length=t.names.length+1
 k14:t.kind=14→t.parts.length=2
 k15:t.kind=15→t.shapes.length=1/\t.parts.length=1
 all:1<=t.kind/\t.kind<=17
theorem wZ {t:Trm} (h:allT aj t=true):RoomR t:=by
 rw [allT_eq,Bool.and_eq_true] at h
 have h:=h.1
 unfold aj at h
 rw [Bool.and_eq_true] at h
 have hb:=h.2
 unfold wV fj at hb
 repeat' (refine yy hb (fun hk hb=>?_) (fun hk hb=>?_))
 all_goals simp only [Bool.and_eq_true,decide_eq_true_eq,Bool.false_eq_true] at hb
 all_goals (refine ⟨?_,?_,?_,?_,?_,?_,?_,?_,?_⟩ <;> intros <;> (repeat' apply And.intro) <;> omega)
theorem th (t:Trm):t.parts.length+1<=szT t:=by
 have h1:∀l:List Trm,l.length<=szTL l:=by
  intro l
  induction l with
  | nil=>exact Nat.zero_le _
  | cons a r ih=>rw [szTL];have:=szT_pos a;simp;omega
 have:=h1 t.parts
 have:=szT_eq t
 omega
theorem rf {t:Trm} {n v:Nat} (hz:szT t<=n+1) (hf:allT aj t=true) (hv:v+4096 *szT t<=100000000) {j w:Nat} (d:Trm) (hj:j < t.parts.length) (hw:w<=v+4096) :
  szT (t.parts.getD j d)<=n/\allT aj (t.parts.getD j d)=true/\w+4096 *szT (t.parts.getD j d)<=100000000:=by
 have h:=ow d hz hf hj
 exact ⟨h.1,h.2.1,by omega⟩
theorem ndF {p:Prop} [Decidable p] (h:(!decide p)=true):¬p:=by simpa using h
theorem ndT {p:Prop} [Decidable p] (h:¬(!decide p)=true):p:=by simpa using h
end Go.Pd
end
section
namespace Go.Pd
open Go.AL
mutual
def standsT (b:Bndg):Trm→Bool
 | ⟨k,g,q,z,ns,vs,ss,ps,pp⟩=>standsTL b ps || (decide (k=5) && decide (g=b.pkg) && decide (q=b.name))
def standsTL (b:Bndg):List Trm→Bool
 | []=>false
 | p ::r=>standsT b p || standsTL b r
end
theorem oz (b:Bndg) (t:Trm):standsT b t=(standsTL b t.parts || (decide (t.kind=5) && decide (t.pkg=b.pkg) && decide (t.name=b.name))):=by cases t;rw [standsT]
theorem iv (b:Bndg):∀{l:List Trm},standsTL b l=false→∀p∈l,standsT b p=false
 | [],_,_,h=>by cases h
 | a ::r,h,p,hp=>by
  rw [standsTL,Bool.or_eq_false_iff] at h
  rcases List.mem_cons.1 hp with rfl | hp
  ·exact h.1
  ·exact iv b h.2 p hp
def Cv (k:Int) (j:Nat):Prop:=(j=0/\¬(k=1∨k=2∨k=3∨k=4∨k=5∨k=8∨k=11))∨(j=1/\(k=14∨k=12))∨(j=2/\k=12)
section Agree
variable {T U:Trm→Envt→Shape × Flt} {R:Envt→Envt→Prop} {Q:Trm→Prop}
variable (hT:∀p,Q p→∀e f,R e f→T p e=U p f) (hW:∀e f l,R e f→R (bq e l) (bq f l))
include hT
theorem cG {p:Trm} (hp:Q p) {e f:Envt} (hr:R e f) (w:Shape):ay T p w e=ay U p w f:=by unfold ay;rw [hT p hp e f hr]
theorem mh {e f:Envt} (hr:R e f):∀(ps:List Trm) (ws:List Shape),(∀p∈ps,Q p)→dB T e ps ws=dB U f ps ws
 | [],_,_=>by simp only [dB]
 | _ ::_,[],_=>by simp only [dB]
 | p ::r,w ::q,h=>by
  simp only [dB]
  rw [cG hT (h p (.head _)) hr w,mh hr r q (fun x hx=>h x (.tail _ hx))]
theorem ja {e f:Envt} (hr:R e f) (w:Shape):∀(ps:List Trm),(∀p∈ps,Q p)→cn T e w ps=cn U f w ps
 | [],_=>rfl
 | p ::r,h=>by
  simp only [cn]
  rw [cG hT (h p (.head _)) hr w,ja hr w r (fun x hx=>h x (.tail _ hx))]
theorem kJ {e f:Envt} (hr:R e f):∀(ps:List Trm),(∀p∈ps,Q p)→bZ T e ps=bZ U f ps
 | [],_=>rfl
 | p ::r,h=>by
  simp only [bZ]
  rw [hT p (h p (.head _)) e f hr,kJ hr r (fun x hx=>h x (.tail _ hx))]
include hW
theorem mj {e f:Envt} (hr:R e f) (w:Shape):∀(ps:List Trm) (vs:List Str) (ss:List Shape),(∀p∈ps,Q p)→ez T e w ps vs ss=ez U f w ps vs ss
 | [],_,_,_=>by simp only [ez]
 | _ ::_,[],_,_=>by simp only [ez]
 | _ ::_,_ ::_,[],_=>by simp only [ez]
 | p ::r,v ::vs,s ::ss,h=>by
  simp only [ez]
  rw [cG hT (h p (.head _)) (hW e f [kI v s] hr) w,mj hr w r vs ss (fun x hx=>h x (.tail _ hx))]
theorem rh {t:Trm} {e f:Envt} (hq:∀j,Cv t.kind j→Q (t.parts.getD j aA)) (hp:∀p∈t.parts,Q p) (hr:R e f) (e1:e.types=f.types) (hk:¬(t.kind=1∨t.kind=2∨t.kind=3∨t.kind=4∨t.kind=5∨t.kind=8)):aC T t e=aC U t f:=by
 have hd:∀p∈t.parts.drop 1,Q p:=fun p h=>hp p (List.mem_of_mem_drop h)
 unfold aC
 rw [e1]
 refine ite_congr rfl (fun _=>?_) fun _=>rfl
 refine ite_congr rfl (fun g=>?_) fun g6=>?_
 ·rw [hT _ (hq 0 (.inl ⟨rfl,by omega⟩)) _ _ (hW e f _ hr)]
 refine ite_congr rfl (fun g=>?_) fun g11=>?_
 ·rw [ja hT hr _ _ hp]
 have h0:=hq 0 (.inl ⟨rfl,by omega⟩)
 refine ite_congr rfl (fun g=>?_) fun g15=>?_
 ·rw [cG hT h0 hr]
 refine ite_congr rfl (fun g=>?_) fun g12=>?_
 ·rw [cG hT h0 hr,cG hT (hq 1 (.inr (.inl ⟨rfl,.inr g⟩))) hr,cG hT (hq 2 (.inr (.inr ⟨rfl,g⟩))) hr]
 ·rw [cG hT h0 hr,mj hT hW hr _ _ _ _ hd]
theorem ri {t:Trm} {e f:Envt} (hq:∀j,Cv t.kind j→Q (t.parts.getD j aA)) (hp:∀p∈t.parts,Q p) (hr:R e f) (e1:e.types=f.types) (e2:e.own=f.own) (e3:e.self=f.self)
  (h5:t.kind=5→aO e.values t.pkg t.name=aO f.values t.pkg t.name):an T t e=an U t f:=by
 have hd:∀p∈t.parts.drop 1,Q p:=fun p h=>hp p (List.mem_of_mem_drop h)
 unfold an
 refine ite_congr rfl (fun _=>rfl) fun n1=>ite_congr rfl (fun _=>rfl) fun n2=>ite_congr rfl (fun _=>rfl) fun n3=>ite_congr rfl (fun g=>by rw [h5 g]) fun n5=>ite_congr rfl (fun g=>?_) fun n7=>
  ite_congr rfl (fun g=>?_) fun n8=>?_
 ·have h0:=hq 0 (.inl ⟨rfl,by omega⟩)
  unfold bL
  simp only [hT _ h0 e f hr,ja hT hr _ _ hd,mh hT hr _ _ hd]
 ·rw [kJ hT hr _ hp]
 refine ite_congr rfl (fun g=>?_) fun _=>ite_congr rfl (fun g=>?_) fun _=>ite_congr rfl (fun g=>?_) fun _=>ite_congr rfl (fun g=>?_) fun _=>?_
 ·have h0:=hq 0 (.inl ⟨rfl,by omega⟩)
  unfold bO
  simp only [hT _ h0 e f hr]
 ·rw [hT _ (hq 0 (.inl ⟨rfl,by omega⟩)) e f hr]
 ·rw [hT _ (hq 0 (.inl ⟨rfl,by omega⟩)) e f hr,hT _ (hq 1 (.inr (.inl ⟨rfl,.inl g⟩))) _ _ (hW e f _ hr)]
 ·have k0:=fun w=>cG hT (hq 0 (.inl ⟨rfl,by omega⟩)) hr w
  cases g:cK e.own t.name with
  | none=>rw [jr g,jr (by rw [←e2];exact g)]
  | some s=>rw [js g,js (by rw [←e2];exact g),k0,k0,e3]
 ·exact rh hT hW hq hp hr e1 (by omega)
end Agree
theorem jW (o m:Str) (r:List Bndg):∀l:List Bndg,aO (l++r) o m=match aO r o m with | some s=>some s | none=>aO l o m
 | []=>by rw [List.nil_append];cases aO r o m <;> rfl
 | x ::l=>by
  rw [List.cons_append,aO,jW o m r l,aO]
  cases aO r o m <;> rfl
structure Alike (b:Bndg) (e f:Envt):Prop where
 types:e.types=f.types
 own:e.own=f.own
 self:e.self=f.self
 vals:∀o m,¬(o=b.pkg/\m=b.name)→aO e.values o m=aO f.values o m
theorem Alike.with {b:Bndg} {e f:Envt} (h:Alike b e f) (l:List Bndg):Alike b (bq e l) (bq f l):=
 ⟨h.types,h.own,h.self,fun o m g=>by
  show aO (e.values++l) o m=aO (f.values++l) o m
  rw [jW,jW,h.vals o m g]⟩
theorem jb {b:Bndg}:∀(n:Nat) (t:Trm),standsT b t=false→∀e f,Alike b e f→aa n t e=aa n t f
 | 0,_,_,_,_,_=>rfl
 | n+1,t,ht,e,f,h=>by
  rw [oz,Bool.or_eq_false_iff] at ht
  show iu t (an (aa n) t e)=iu t (an (aa n) t f)
  rw [ri (Q:=fun p=>standsT b p=false) (R:=Alike b) (fun p hp e f h=>jb n p hp e f h) (fun e f l h=>h.with l)
   (fun j _=>by
    rcases Nat.lt_or_ge j t.parts.length with hl | hl
    ·exact iv b ht.1 _ (AL.getD_mem t.parts j aA hl)
    ·rw [List.getD_eq_getElem?_getD,List.getElem?_eq_none hl];rfl) (iv b ht.1) h h.types h.own h.self
   (fun k=>h.vals _ _ fun g=>by simp [k,g.1,g.2] at ht)]
theorem yz (b:Bndg) (e:Envt):Alike b (bq e [b]) e:=
 ⟨rfl,rfl,rfl,fun o m g=>by
  show aO (e.values++[b]) o m=_
  rw [j9,if_neg (fun h=>g ⟨h.1.symm,h.2.symm⟩)]⟩
theorem tj (b:Bndg) (e:Envt):Alike b ⟨e.self,e.types,b ::e.values,e.own⟩ e:=
 ⟨rfl,rfl,rfl,fun o m g=>by
  show aO (b ::e.values) o m=_
  rw [aO,if_neg (fun h=>g ⟨h.1.symm,h.2.symm⟩)]
  cases aO e.values o m <;> rfl⟩
theorem tm {b:Bndg} {t:Trm} (ht:standsT b t=false) (e:Envt):ck t (bq e [b])=ck t e/\ck t ⟨e.self,e.types,b ::e.values,e.own⟩=ck t e:=by
 unfold ck
 rw [jb _ t ht _ _ (yz b e),jb _ t ht _ _ (tj b e)]
 exact ⟨rfl,rfl⟩
end Go.Pd
end
section
namespace Go.Pd
open Go.AL
abbrev SR3:=Shape × Int × Flt
abbrev TR3:=Trm × Int × Flt
end Go.Pd
end
section
namespace Go.Pd
open Go.AL
abbrev st (l:List Tokn) (a:Int):PS:=⟨l,a,0,0⟩
variable {l:List Tokn}
section
variable {l:List Tokn} {R:PS→Shape × PS} {R':Int→SR3}
end
end Go.Pd
end
section
namespace Go.Pd
open Go.AL
mutual
def dm:Trm→Int→Int
 | ⟨_,_,_,_,_,_,_,ps,_⟩,m=>sizeTL ps 1 m
def sizeTL:List Trm→Int→Int→Int
 | [],n,_=>n
 | p ::r,n,m=>if n<=m then sizeTL r (n+dm p (m - n)) m else n
end
mutual
def deepT:Trm→Nat
 | ⟨_,_,_,_,_,_,_,ps,_⟩=>maxDT ps+1
def maxDT:List Trm→Nat
 | []=>0
 | p ::r=>max (deepT p) (maxDT r)
end
mutual
theorem sizeT_bd:∀(s:Trm) (m:Int),0<=m→1<=dm s m/\dm s m<=m+1
 | ⟨_,_,_,_,_,_,_,ps,_⟩,m,h=>by
  simp only [dm]
  exact sizeTL_bd ps 1 m (by omega) (by omega)
theorem sizeTL_bd:∀(l:List Trm) (n m:Int),1<=n→n<=m+1→1<=sizeTL l n m/\sizeTL l n m<=m+1
 | [],n,m,h1,h2=>by simp only [sizeTL];omega
 | p ::r,n,m,h1,h2=>by
  simp only [sizeTL]
  split
  ·have:=sizeT_bd p (m - n) (by omega)
   exact sizeTL_bd r _ m (by omega) (by omega)
  ·omega
end
mutual
theorem countT_size:∀(s:Trm) (m:Int),0<=m→(countT s m).1=min (szT s:Int) (m+1)
 | ⟨_,_,_,_,_,_,_,ps,_⟩,m,h=>by
  simp only [countT,szT]
  rw [countL_size ps m 1 0 (by omega)]
  omega
theorem countL_size:∀(l:List Trm) (m n d:Int),n<=m+1→(countL l m n d).1=min (n+szTL l) (m+1)
 | [],m,n,d,h=>by simp only [countL,szTL];omega
 | p ::r,m,n,d,h=>by
  simp only [countL,szTL]
  have:=szT_pos p
  split
  ·show n=_;omega
  ·rw [countL_size r m _ _ (by rw [countT_size p (m - n) (by omega)];omega),countT_size p (m - n) (by omega)]
   omega
end
mutual
theorem countT_deep:∀(s:Trm) (m:Int),(szT s:Int)<=m→(countT s m).2=deepT s
 | ⟨_,_,_,_,_,_,_,ps,_⟩,m,h=>by
  simp only [szT] at h
  simp only [countT,deepT]
  rw [countL_deep ps m 1 0 (by omega) (by omega)]
  omega
theorem countL_deep:∀(l:List Trm) (m n d:Int),n+szTL l<=m→0<=d→(countL l m n d).2=max d (maxDT l)
 | [],m,n,d,h,h0=>by simp only [countL,maxDT];omega
 | p ::r,m,n,d,h,h0=>by
  simp only [szTL] at h
  simp only [countL,maxDT]
  rw [if_neg (by omega)]
  have e1:(countT p (m - n)).1=szT p:=by rw [countT_size p (m - n) (by omega)];omega
  rw [countL_deep r m _ _ (by rw [e1];omega) (by omega),countT_deep p (m - n) (by omega)]
  omega
end
end Go.Pd
end
section
namespace Go.Pd
open Go.AL
mutual
def bareT:Trm→Trm
 | ⟨k,g,n,z,ns,vs,ss,ps,_⟩=>⟨k,g,n,z,ns,vs,ss,bareTL ps,0⟩
def bareTL:List Trm→List Trm
 | []=>[]
 | p ::r=>bareT p ::bareTL r
end
theorem vu {t:Trm} (ht:di t=0):allT aj t=true:=by
 unfold di at ht
 by_cases a:4096 < (countT t 4096).1
 ·rw [if_pos a] at ht;exact absurd ht (by decide)
 rw [if_neg a] at ht
 by_cases b:40 < (countT t 4096).2
 ·rw [if_pos b] at ht;exact absurd ht (by decide)
 rw [if_neg b] at ht
 by_cases c:allT aj t=true
 ·exact c
 ·rw [if_neg c] at ht;exact absurd ht (by decide)
theorem vw {t:Trm} (h:di t=0):szT t<=4096/\deepT t<=40:=by
 unfold di at h
 by_cases a:4096 < (countT t 4096).1
 ·rw [if_pos a] at h;exact absurd h (by decide)
 rw [if_neg a] at h
 rw [countT_size t 4096 (by omega)] at a
 by_cases b:40 < (countT t 4096).2
 ·rw [if_pos b] at h;exact absurd h (by decide)
 rw [countT_deep t 4096 (by omega)] at b
 omega
def zapF (f:Flt):Flt:=⟨f.err,0⟩
def zapR (r:Shape × Flt):Shape × Flt:=(r.1,zapF r.2)
section Bare
variable {T:Trm→Envt→Shape × Flt} (hT:∀p e,T (bareT p) e=zapR (T p e))
include hT
end Bare
section Bare2
variable {T:Trm→Envt→Shape × Flt} (hT:∀p e,T (bareT p) e=zapR (T p e))
include hT
end Bare2
end Go.Pd
end
section
namespace Go.Pd
open Go.AL
def BZ (s:Shape):Bool:=!decide (s.kind=9)
structure ClE (e:Envt):Prop where
 types:∀b∈e.types,allS BZ b.shape=true
 values:∀b∈e.values,allS BZ b.shape=true
 own:∀b∈e.own,allS BZ b.shape=true
section
variable {T:Trm→Envt→Shape × Flt} (hT:∀p e,ClE e→(T p e).2.err=0→allS BZ (T p e).1=true)
include hT
end
end Go.Pd
end
section
namespace Go.Pd
open Go.AL
end Go.Pd
namespace Go.Pd
open Go.AL
theorem x9 (x y:Int):(decide (x=x) && (decide (y=y) && true))=true:=by simp
theorem vz {e:Envt} (h:¬(!ir e)=true):e.values.length<=60:=by
 have h:ir e=true:=by simpa using h
 unfold ir at h
 simp only [Bool.and_eq_true] at h
 exact Au h.1.2
end Go.Pd
end
section
open Go Go.AL Go.Pd
namespace Go.AL.Seat
theorem AA (c:Int)  :
  if decide ((97:Int)<=c)=true then True/\decide (c<=(122:Int))=cz c/\True else True/\false=cz c/\True:=by
 unfold cz;simp only [iY];split <;> simp [*]
theorem AB (c:Int)  :
  if decide ((65:Int)<=c)=true then True/\decide (c<=(90:Int))=cI c/\True else True/\false=cI c/\True:=by
 unfold cI;simp only [iY];split <;> simp [*]
theorem AD (c:Int)  :
  if decide ((48:Int)<=c)=true then True/\decide (c<=(57:Int))=j0 c/\True else True/\false=j0 c/\True:=by
 unfold j0;simp only [iY];split <;> simp [*]
theorem C0 (c:Int)  :
  if cz c=true then True/\true=ej c/\True else if cI c=true then True/\true=ej c/\True else if j0 c=true then True/\true=ej c/\True else True/\decide (c=(95:Int))=ej c/\True:=by
 unfold ej;cases cz c <;> cases cI c <;> cases j0 c <;> simp
theorem yA (s:Str) (hs:Wf .str s) :
  if decide (s=[])=true then True/\false=bQ cz s/\True else if decide ((24:Int) < (↑(List.length s):Int))=true then True/\false=bQ cz s/\True else ((0:Int)<=(0:Int)/\(0:Int) < (↑(List.length s):Int))/\if (!cz (↑(UInt8.toNat (List.getD s (Int.toNat (0:Int)) (0:UInt8))):Int))=true then True/\false=bQ cz s/\True else (∃(x:Nat),(x<=List.length s/\bQ cz s=List.all (List.drop x s) fun (c:UInt8) ↦ej (bI c))/\(0:Int)=(↑x:Int)/\s=s/\false=false/\(↑(List.length s):Int)=(↑(List.length s):Int)/\True)/\∀(x:Nat),(x<=List.length s/\bQ cz s=List.all (List.drop x s) fun (c:UInt8) ↦ej (bI c))→if decide ((↑x:Int) < (↑(List.length s):Int))=true then ((0:Int)<=(↑x:Int)/\(↑x:Int) < (↑(List.length s):Int))/\if (!ej (↑(UInt8.toNat (List.getD s (Int.toNat (↑x:Int)) (0:UInt8))):Int))=true then True/\false=bQ cz s/\True else inR IntKind.i64 ((↑x:Int)+(1:Int))/\∃(y:Nat),(y<=List.length s/\bQ cz s=List.all (List.drop y s) fun (c:UInt8) ↦ej (bI c))/\List.length s - y < List.length s - x/\(↑x:Int)+(1:Int)=(↑y:Int)/\s=s/\false=false/\(↑(List.length s):Int)=(↑(List.length s):Int)/\True else True/\true=bQ cz s/\True:=by
 have hlen:=hs.str
 have eb:∀b:UInt8,(b.toNat:Int)=bI b:=fun _=>rfl
 simp only [iY,Int.toNat_natCast,Int.toNat_zero,true_and,and_true,eb,bQ]
 generalize cz (bI (s.getD 0 0))=f0
 by_cases h0:s=[]
 ·simp [h0]
 have hpos:0 < s.length:=List.length_pos_iff.2 h0
 by_cases h1:s.length<=24
 ·rw [if_neg h0,if_neg (by omega)]
  refine ⟨by omega,?_⟩
  cases f0 with
  | false=>simp
  | true=>
   simp only [Bool.not_true,Bool.false_eq_true,if_false,h0,h1,decide_false,decide_true,Bool.not_false,Bool.true_and]
   refine ⟨⟨0,⟨by omega,rfl⟩,rfl⟩,?_⟩
   rintro k ⟨h3,h4⟩
   split
   ·have hk:k < s.length:=by omega
    rw [aH s k 0 hk,List.all_cons] at h4
    generalize ej (bI (s.getD k 0))=r at h4 ⊢
    refine ⟨by omega,?_⟩
    cases r with
    | false=>simpa using h4.symm
    | true=>
     simp only [Bool.not_true,Bool.false_eq_true,if_false]
     exact ⟨bc hk hlen,k+1,⟨by omega,by simpa using h4⟩,by omega,by omega⟩
   ·have hk:k=s.length:=by omega
    subst hk
    simpa using h4.symm
 ·rw [if_neg h0,if_pos (by omega)]
  simp [h1]
theorem yB (s:Str) (hs:Wf .str s) :
  if decide (s=[])=true then True/\false=bQ cI s/\True else if decide ((24:Int) < (↑(List.length s):Int))=true then True/\false=bQ cI s/\True else ((0:Int)<=(0:Int)/\(0:Int) < (↑(List.length s):Int))/\if (!cI (↑(UInt8.toNat (List.getD s (Int.toNat (0:Int)) (0:UInt8))):Int))=true then True/\false=bQ cI s/\True else (∃(x:Nat),(x<=List.length s/\bQ cI s=List.all (List.drop x s) fun (c:UInt8) ↦ej (bI c))/\(0:Int)=(↑x:Int)/\s=s/\false=false/\(↑(List.length s):Int)=(↑(List.length s):Int)/\True)/\∀(x:Nat),(x<=List.length s/\bQ cI s=List.all (List.drop x s) fun (c:UInt8) ↦ej (bI c))→if decide ((↑x:Int) < (↑(List.length s):Int))=true then ((0:Int)<=(↑x:Int)/\(↑x:Int) < (↑(List.length s):Int))/\if (!ej (↑(UInt8.toNat (List.getD s (Int.toNat (↑x:Int)) (0:UInt8))):Int))=true then True/\false=bQ cI s/\True else inR IntKind.i64 ((↑x:Int)+(1:Int))/\∃(y:Nat),(y<=List.length s/\bQ cI s=List.all (List.drop y s) fun (c:UInt8) ↦ej (bI c))/\List.length s - y < List.length s - x/\(↑x:Int)+(1:Int)=(↑y:Int)/\s=s/\false=false/\(↑(List.length s):Int)=(↑(List.length s):Int)/\True else True/\true=bQ cI s/\True:=by
 have hlen:=hs.str
 have eb:∀b:UInt8,(b.toNat:Int)=bI b:=fun _=>rfl
 simp only [iY,Int.toNat_natCast,Int.toNat_zero,true_and,and_true,eb,bQ]
 generalize cI (bI (s.getD 0 0))=f0
 by_cases h0:s=[]
 ·simp [h0]
 have hpos:0 < s.length:=List.length_pos_iff.2 h0
 by_cases h1:s.length<=24
 ·rw [if_neg h0,if_neg (by omega)]
  refine ⟨by omega,?_⟩
  cases f0 with
  | false=>simp
  | true=>
   simp only [Bool.not_true,Bool.false_eq_true,if_false,h0,h1,decide_false,decide_true,Bool.not_false,Bool.true_and]
   refine ⟨⟨0,⟨by omega,rfl⟩,rfl⟩,?_⟩
   rintro k ⟨h3,h4⟩
   split
   ·have hk:k < s.length:=by omega
    rw [aH s k 0 hk,List.all_cons] at h4
    generalize ej (bI (s.getD k 0))=r at h4 ⊢
    refine ⟨by omega,?_⟩
    cases r with
    | false=>simpa using h4.symm
    | true=>
     simp only [Bool.not_true,Bool.false_eq_true,if_false]
     exact ⟨bc hk hlen,k+1,⟨by omega,by simpa using h4⟩,by omega,by omega⟩
   ·have hk:k=s.length:=by omega
    subst hk
    simpa using h4.symm
 ·rw [if_neg h0,if_pos (by omega)]
  simp [h1]
theorem C1 (s:Str)  :
  if decide (s=[(109:UInt8),(111:UInt8),(100:UInt8),(117:UInt8),(108:UInt8),(101:UInt8)])=true then True/\true=dj s/\True else if decide (s=[(105:UInt8),(109:UInt8),(112:UInt8),(111:UInt8),(114:UInt8),(116:UInt8)])=true then True/\true=dj s/\True else if decide (s=[(112:UInt8),(105:UInt8),(110:UInt8)])=true then True/\true=dj s/\True else if decide (s=[(114:UInt8),(97:UInt8),(110:UInt8),(103:UInt8),(101:UInt8)])=true then True/\true=dj s/\True else if decide (s=[(116:UInt8),(121:UInt8),(112:UInt8),(101:UInt8)])=true then True/\true=dj s/\True else if decide (s=[(111:UInt8),(112:UInt8),(97:UInt8),(113:UInt8),(117:UInt8),(101:UInt8)])=true then True/\true=dj s/\True else if decide (s=[(108:UInt8),(101:UInt8),(116:UInt8)])=true then True/\true=dj s/\True else if decide (s=[(105:UInt8),(110:UInt8)])=true then True/\true=dj s/\True else if decide (s=[(101:UInt8),(120:UInt8),(112:UInt8),(111:UInt8),(114:UInt8),(116:UInt8)])=true then True/\true=dj s/\True else if decide (s=[(102:UInt8),(117:UInt8),(110:UInt8)])=true then True/\true=dj s/\True else if decide (s=[(105:UInt8),(102:UInt8)])=true then True/\true=dj s/\True else if decide (s=[(116:UInt8),(104:UInt8),(101:UInt8),(110:UInt8)])=true then True/\true=dj s/\True else if decide (s=[(101:UInt8),(108:UInt8),(115:UInt8),(101:UInt8)])=true then True/\true=dj s/\True else if decide (s=[(99:UInt8),(97:UInt8),(115:UInt8),(101:UInt8)])=true then True/\true=dj s/\True else if decide (s=[(111:UInt8),(102:UInt8)])=true then True/\true=dj s/\True else if decide (s=[(97:UInt8),(115:UInt8)])=true then True/\true=dj s/\True else if decide (s=[(110:UInt8),(101:UInt8),(119:UInt8)])=true then True/\true=dj s/\True else if decide (s=[(114:UInt8),(97:UInt8),(119:UInt8)])=true then True/\true=dj s/\True else if decide (s=[(116:UInt8),(114:UInt8),(117:UInt8),(101:UInt8)])=true then True/\true=dj s/\True else if decide (s=[(102:UInt8),(97:UInt8),(108:UInt8),(115:UInt8),(101:UInt8)])=true then True/\true=dj s/\True else True/\false=dj s/\True:=by
 refine ab (fun h=>?_) (fun h0=>?_)
 ·rw [Xo h];exact ⟨trivial,rfl,trivial⟩
 refine ab (fun h=>?_) (fun h1=>?_)
 ·rw [Xo h];exact ⟨trivial,rfl,trivial⟩
 refine ab (fun h=>?_) (fun h2=>?_)
 ·rw [Xo h];exact ⟨trivial,rfl,trivial⟩
 refine ab (fun h=>?_) (fun h3=>?_)
 ·rw [Xo h];exact ⟨trivial,rfl,trivial⟩
 refine ab (fun h=>?_) (fun h4=>?_)
 ·rw [Xo h];exact ⟨trivial,rfl,trivial⟩
 refine ab (fun h=>?_) (fun h5=>?_)
 ·rw [Xo h];exact ⟨trivial,rfl,trivial⟩
 refine ab (fun h=>?_) (fun h6=>?_)
 ·rw [Xo h];exact ⟨trivial,rfl,trivial⟩
 refine ab (fun h=>?_) (fun h7=>?_)
 ·rw [Xo h];exact ⟨trivial,rfl,trivial⟩
 refine ab (fun h=>?_) (fun h8=>?_)
 ·rw [Xo h];exact ⟨trivial,rfl,trivial⟩
 refine ab (fun h=>?_) (fun h9=>?_)
 ·rw [Xo h];exact ⟨trivial,rfl,trivial⟩
 refine ab (fun h=>?_) (fun h10=>?_)
 ·rw [Xo h];exact ⟨trivial,rfl,trivial⟩
 refine ab (fun h=>?_) (fun h11=>?_)
 ·rw [Xo h];exact ⟨trivial,rfl,trivial⟩
 refine ab (fun h=>?_) (fun h12=>?_)
 ·rw [Xo h];exact ⟨trivial,rfl,trivial⟩
 refine ab (fun h=>?_) (fun h13=>?_)
 ·rw [Xo h];exact ⟨trivial,rfl,trivial⟩
 refine ab (fun h=>?_) (fun h14=>?_)
 ·rw [Xo h];exact ⟨trivial,rfl,trivial⟩
 refine ab (fun h=>?_) (fun h15=>?_)
 ·rw [Xo h];exact ⟨trivial,rfl,trivial⟩
 refine ab (fun h=>?_) (fun h16=>?_)
 ·rw [Xo h];exact ⟨trivial,rfl,trivial⟩
 refine ab (fun h=>?_) (fun h17=>?_)
 ·rw [Xo h];exact ⟨trivial,rfl,trivial⟩
 refine ab (fun h=>?_) (fun h18=>?_)
 ·rw [Xo h];exact ⟨trivial,rfl,trivial⟩
 refine ab (fun h=>?_) (fun h19=>?_)
 ·rw [Xo h];exact ⟨trivial,rfl,trivial⟩
 refine ⟨trivial,?_,trivial⟩
 symm
 refine Xf fun hm=>?_
 unfold Cr at hm
 rcases List.mem_cons.1 hm with e | hm
 ·exact h0 (Xd e)
 rcases List.mem_cons.1 hm with e | hm
 ·exact h1 (Xd e)
 rcases List.mem_cons.1 hm with e | hm
 ·exact h2 (Xd e)
 rcases List.mem_cons.1 hm with e | hm
 ·exact h3 (Xd e)
 rcases List.mem_cons.1 hm with e | hm
 ·exact h4 (Xd e)
 rcases List.mem_cons.1 hm with e | hm
 ·exact h5 (Xd e)
 rcases List.mem_cons.1 hm with e | hm
 ·exact h6 (Xd e)
 rcases List.mem_cons.1 hm with e | hm
 ·exact h7 (Xd e)
 rcases List.mem_cons.1 hm with e | hm
 ·exact h8 (Xd e)
 rcases List.mem_cons.1 hm with e | hm
 ·exact h9 (Xd e)
 rcases List.mem_cons.1 hm with e | hm
 ·exact h10 (Xd e)
 rcases List.mem_cons.1 hm with e | hm
 ·exact h11 (Xd e)
 rcases List.mem_cons.1 hm with e | hm
 ·exact h12 (Xd e)
 rcases List.mem_cons.1 hm with e | hm
 ·exact h13 (Xd e)
 rcases List.mem_cons.1 hm with e | hm
 ·exact h14 (Xd e)
 rcases List.mem_cons.1 hm with e | hm
 ·exact h15 (Xd e)
 rcases List.mem_cons.1 hm with e | hm
 ·exact h16 (Xd e)
 rcases List.mem_cons.1 hm with e | hm
 ·exact h17 (Xd e)
 rcases List.mem_cons.1 hm with e | hm
 ·exact h18 (Xd e)
 rcases List.mem_cons.1 hm with e | hm
 ·exact h19 (Xd e)
 exact absurd hm List.not_mem_nil
theorem C2 (s:Str)  :
  if bQ cz s=true then True/\(!dj s)=aY s/\True else True/\false=aY s/\True:=by
 unfold aY;cases bQ cz s <;> simp
theorem AE (s:Str)  :
  True/\bQ cI s=ek s/\True:=by
 simp [ek]
theorem yC (a:List Str) (v:Str) (ha:Wf (.lst .str) a) :
  (∃(x:Nat),(x<=List.length a/\bK a v (0:Int)=bK (List.drop x a) v (↑x:Int))/\(0:Int)=(↑x:Int)/\a=a/\v=v/\(↑(List.length a):Int)=(↑(List.length a):Int)/\True)/\∀(x:Nat),x<=List.length a/\bK a v (0:Int)=bK (List.drop x a) v (↑x:Int)→if decide ((↑x:Int) < (↑(List.length a):Int))=true then ((0:Int)<=(↑x:Int)/\(↑x:Int) < (↑(List.length a):Int))/\if decide (v=List.getD a (Int.toNat (↑x:Int)) (dfl Ty.str))=true then True/\(↑x:Int)=bK a v (0:Int)/\True else inR IntKind.i64 ((↑x:Int)+(1:Int))/\∃(y:Nat),(y<=List.length a/\bK a v (0:Int)=bK (List.drop y a) v (↑y:Int))/\List.length a - y < List.length a - x/\(↑x:Int)+(1:Int)=(↑y:Int)/\a=a/\v=v/\(↑(List.length a):Int)=(↑(List.length a):Int)/\True else True/\(-1:Int)=bK a v (0:Int)/\True:=by
 have la:=ha.len
 simp only [Int.toNat_natCast,eq_self,true_and,and_true]
 refine ⟨⟨0,⟨by omega,by simp⟩,by simp⟩,?_⟩
 rintro k ⟨h1,h3⟩
 refine ab (fun h=>?_) (fun h=>?_)
 ·replace h:=Xo h
  have hk:k < a.length:=by omega
  rw [aH a k (dfl .str) hk] at h3
  refine ⟨by omega,?_⟩
  by_cases e:a.getD k (dfl .str)=v
  ·rw [if_pos (by simpa using e.symm),h3,bK,if_pos e]
  ·rw [if_neg (by simpa using fun h=>e h.symm)]
   exact ⟨bc hk la,k+1,⟨by omega,by rw [h3,bK,if_neg e];rfl⟩,by omega,by omega⟩
 ·replace h:¬((k:Int) < (a.length:Int)):=fun e=>h (Xd e)
  have e:k=a.length:=by omega
  subst e;rw [h3];simp [bK]
theorem AF (s:Str)  :
  if decide (s=[(73:UInt8),(110:UInt8),(116:UInt8)])=true then True/\true=gp s/\True else if decide (s=[(66:UInt8),(111:UInt8),(111:UInt8),(108:UInt8)])=true then True/\true=gp s/\True else if decide (s=[(84:UInt8),(101:UInt8),(120:UInt8),(116:UInt8)])=true then True/\true=gp s/\True else True/\decide (s=[(65:UInt8),(110:UInt8),(121:UInt8)])=gp s/\True:=by
 simp only [eq_self,true_and,and_true,gp]
 by_cases a:s=[73,110,116] <;> by_cases b:s=[66,111,111,108] <;> by_cases c:s=[84,101,120,116] <;> by_cases d:s=[65,110,121] <;> simp [a,b,c,d]
theorem yD (a:List Str)  :
  True/\a=a/\True:=by
 trivial
theorem AG (s:Shape) (hs:Wf (.st .shape) s) (ho:s.parts.length *16<=140737488355328) :
  if (!decide ((↑(List.length s.names):Int)=(↑(List.length s.parts):Int)))=true then True/\false=cN s/\True else (∃(x:Nat),(x<=List.length s.names/\List.length s.names=List.length s.parts/\cN s=(List.all (List.drop x s.names) aY && decide (List.Nodup s.names)))/\(0:Int)=(↑x:Int)/\s=s/\false=false/\s.names=s.names/\(↑(List.length s.names):Int)=(↑(List.length s.names):Int)/\s=s/\True)/\∀(x:Nat),x<=List.length s.names/\List.length s.names=List.length s.parts/\cN s=(List.all (List.drop x s.names) aY && decide (List.Nodup s.names))→if decide ((↑x:Int) < (↑(List.length s.names):Int))=true then ((0:Int)<=(↑x:Int)/\(↑x:Int) < (↑(List.length s.names):Int))/\if (!aY (List.getD s.names (Int.toNat (↑x:Int)) (dfl Ty.str)))=true then True/\false=cN s/\True else inR IntKind.i64 ((↑x:Int)+(1:Int))/\∃(y:Nat),(y<=List.length s.names/\List.length s.names=List.length s.parts/\cN s=(List.all (List.drop y s.names) aY && decide (List.Nodup s.names)))/\List.length s.names - y < List.length s.names - x/\(↑x:Int)+(1:Int)=(↑y:Int)/\s=s/\false=false/\s.names=s.names/\(↑(List.length s.names):Int)=(↑(List.length s.names):Int)/\s=s/\True else List.length s.names *(16:Nat)<=(140737488355328:Nat)/\List.length (List.mergeSort s.names fun (x y:Str) ↦decide (x<=y))=List.length (List.mergeSort s.names fun (x y:Str) ↦decide (x<=y))/\True/\decide ((↑(List.length (Lib.compact (List.mergeSort s.names fun (x y:Str) ↦decide (x<=y)))):Int)=(↑(List.length s.names):Int))=cN s/\True:=by
 have ln:=hs.names.len
 simp only [Int.toNat_natCast,eq_self,true_and,and_true]
 refine ab (fun h=>?_) (fun h=>?_)
 ·have:s.names.length≠s.parts.length:=by simp at h;omega
  simp [cN,this]
 have hl:s.names.length=s.parts.length:=by simp at h;omega
 refine ⟨⟨0,⟨by omega,hl,by simp [cN,hl]⟩,rfl⟩,?_⟩
 rintro k ⟨h1,_,h3⟩
 refine ab (fun h=>?_) (fun h=>?_)
 ·replace h:=Xo h
  have hk:k < s.names.length:=by omega
  rw [aH s.names k (dfl .str) hk] at h3
  refine ⟨by omega,?_⟩
  simp only [List.all_cons] at h3
  cases e:aY (s.names.getD k (dfl .str))
  ·rw [e] at h3;rw [h3];simp
  ·simp only [e,Bool.true_and] at h3
   exact ⟨bc hk ln,k+1,⟨by omega,hl,h3⟩,by omega,by omega⟩
 ·replace h:¬((k:Int) < (s.names.length:Int)):=fun e=>h (Xd e)
  have e:k=s.names.length:=by omega
  subst e
  have hc:=iZ s.names
  unfold ed at hc
  refine ⟨by omega,?_⟩
  rw [h3,List.drop_length]
  simp only [List.all_nil,Bool.true_and]
  rw [decide_eq_decide,←hc]
  omega
theorem C3 (s:Shape) (hs:Wf (.st .shape) s) (ho:s.parts.length *16<=140737488355328) :
  if decide (s.pkg=[])=true then if decide (s.kind=(1:Int))=true then if decide (s.name=[])=true then if decide ((↑(List.length s.names):Int)=(0:Int))=true then True/\decide ((↑(List.length s.parts):Int)=(0:Int))=aq s/\True else True/\false=aq s/\True else True/\false=aq s/\True else if decide (s.kind=(2:Int))=true then if decide (s.name=[])=true then if decide ((↑(List.length s.names):Int)=(0:Int))=true then True/\decide ((↑(List.length s.parts):Int)=(0:Int))=aq s/\True else True/\false=aq s/\True else True/\false=aq s/\True else if decide (s.kind=(3:Int))=true then if decide (s.name=[])=true then if decide ((↑(List.length s.names):Int)=(0:Int))=true then True/\decide ((↑(List.length s.parts):Int)=(0:Int))=aq s/\True else True/\false=aq s/\True else True/\false=aq s/\True else if decide (s.kind=(4:Int))=true then if decide (s.name=[])=true then if decide ((↑(List.length s.names):Int)=(0:Int))=true then True/\decide ((↑(List.length s.parts):Int)=(0:Int))=aq s/\True else True/\false=aq s/\True else True/\false=aq s/\True else if decide (s.kind=(5:Int))=true then if decide (s.name=[])=true then if decide ((↑(List.length s.names):Int)=(0:Int))=true then True/\decide ((↑(List.length s.parts):Int)=(1:Int))=aq s/\True else True/\false=aq s/\True else True/\false=aq s/\True else if decide (s.kind=(6:Int))=true then if decide (s.name=[])=true then List.length s.parts *(16:Nat)<=(140737488355328:Nat)/\True/\cN s=aq s/\True else True/\false=aq s/\True else if decide (s.kind=(7:Int))=true then if decide (s.name=[])=true then List.length s.parts *(16:Nat)<=(140737488355328:Nat)/\True/\cN s=aq s/\True else True/\false=aq s/\True else if decide (s.kind=(8:Int))=true then if decide (s.name=[])=true then if decide ((↑(List.length s.names):Int)=(0:Int))=true then True/\decide ((0:Int) < (↑(List.length s.parts):Int))=aq s/\True else True/\false=aq s/\True else True/\false=aq s/\True else if decide (s.kind=(9:Int))=true then if ek s.name=true then if decide (s.pkg=[])=true then if (!gp s.name)=true then if decide ((↑(List.length s.names):Int)=(0:Int))=true then True/\decide ((↑(List.length s.parts):Int)=(0:Int))=aq s/\True else True/\false=aq s/\True else if aY s.pkg=true then if decide ((↑(List.length s.names):Int)=(0:Int))=true then True/\decide ((↑(List.length s.parts):Int)=(0:Int))=aq s/\True else True/\false=aq s/\True else True/\false=aq s/\True else if aY s.pkg=true then if decide ((↑(List.length s.names):Int)=(0:Int))=true then True/\decide ((↑(List.length s.parts):Int)=(0:Int))=aq s/\True else True/\false=aq s/\True else True/\false=aq s/\True else True/\false=aq s/\True else if decide (s.kind=(10:Int))=true then if ek s.name=true then if aY s.pkg=true then if decide ((↑(List.length s.names):Int)=(0:Int))=true then True/\decide ((↑(List.length s.parts):Int)=(0:Int))=aq s/\True else True/\false=aq s/\True else True/\false=aq s/\True else True/\false=aq s/\True else True/\false=aq s/\True else if decide (s.kind=(1:Int))=true then True/\false=aq s/\True else if decide (s.kind=(2:Int))=true then True/\false=aq s/\True else if decide (s.kind=(3:Int))=true then True/\false=aq s/\True else if decide (s.kind=(4:Int))=true then True/\false=aq s/\True else if decide (s.kind=(5:Int))=true then True/\false=aq s/\True else if decide (s.kind=(6:Int))=true then True/\false=aq s/\True else if decide (s.kind=(7:Int))=true then True
  /\false=aq s/\True else if decide (s.kind=(8:Int))=true then True/\false=aq s/\True else if decide (s.kind=(9:Int))=true then if ek s.name=true then if decide (s.pkg=[])=true then if (!gp s.name)=true then if decide ((↑(List.length s.names):Int)=(0:Int))=true then True/\decide ((↑(List.length s.parts):Int)=(0:Int))=aq s/\True else True/\false=aq s/\True else if aY s.pkg=true then if decide ((↑(List.length s.names):Int)=(0:Int))=true then True/\decide ((↑(List.length s.parts):Int)=(0:Int))=aq s/\True else True/\false=aq s/\True else True/\false=aq s/\True else if aY s.pkg=true then if decide ((↑(List.length s.names):Int)=(0:Int))=true then True/\decide ((↑(List.length s.parts):Int)=(0:Int))=aq s/\True else True/\false=aq s/\True else True/\false=aq s/\True else True/\false=aq s/\True else if decide (s.kind=(10:Int))=true then if ek s.name=true then if aY s.pkg=true then if decide ((↑(List.length s.names):Int)=(0:Int))=true then True/\decide ((↑(List.length s.parts):Int)=(0:Int))=aq s/\True else True/\false=aq s/\True else True/\false=aq s/\True else True/\false=aq s/\True else True/\false=aq s/\True:=by
 have n0:((s.names.length:Int)=0)↔s.names=[]:=by rw [←List.length_eq_zero_iff];omega
 have p0:((s.parts.length:Int)=0)↔s.parts=[]:=by rw [←List.length_eq_zero_iff];omega
 have p1:((s.parts.length:Int)=1)↔s.parts.length=1:=by omega
 have p2:(0 < (s.parts.length:Int))↔¬s.parts=[]:=by rw [←List.length_eq_zero_iff];omega
 simp only [n0,p0,p1,p2,decide_eq_true_eq,true_and,and_true,ho]
 have hf:aq s=aq s:=rfl
 conv at hf=>rhs;unfold aq
 revert hf
 generalize aq s=F
 generalize cN s=A
 generalize ek s.name=B
 generalize aY s.pkg=C
 generalize gp s.name=D
 generalize s.kind=K
 intro hf
 repeat' (refine ab (fun _=>?_) (fun _=>?_))
 all_goals (subst hf;simp_all)
theorem vA (n:Nat) (s:Shape) (hs:Wf (.st .shape) s) (hn:sz s<=n+1) (hb:n<=1000000) :
  List.length s.parts *(16:Nat)<=(140737488355328:Nat)/\if (!aq s)=true then True/\false=allS aq s/\True else (∃(x:Nat),(x<=List.length s.parts/\allS aq s=allL aq (List.drop x s.parts))/\(0:Int)=(↑x:Int)/\s=s/\false=false/\s.parts=s.parts/\(↑(List.length s.parts):Int)=(↑(List.length s.parts):Int)/\s=s/\True)/\∀(x:Nat),x<=List.length s.parts/\allS aq s=allL aq (List.drop x s.parts)→if decide ((↑x:Int) < (↑(List.length s.parts):Int))=true then ((0:Int)<=(↑x:Int)/\(↑x:Int) < (↑(List.length s.parts):Int))/\sz (List.getD s.parts (Int.toNat (↑x:Int)) (dfl (Ty.st SN.shape)))<=n/\if (!allS aq (List.getD s.parts (Int.toNat (↑x:Int)) (dfl (Ty.st SN.shape))))=true then True/\false=allS aq s/\True else inR IntKind.i64 ((↑x:Int)+(1:Int))/\∃(y:Nat),(y<=List.length s.parts/\allS aq s=allL aq (List.drop y s.parts))/\List.length s.parts - y < List.length s.parts - x/\(↑x:Int)+(1:Int)=(↑y:Int)/\s=s/\false=false/\s.parts=s.parts/\(↑(List.length s.parts):Int)=(↑(List.length s.parts):Int)/\s=s/\True else True/\true=allS aq s/\True:=by
 have ln:=hs.parts.len
 have hz:=j6 s
 have hl:=ky s.parts
 simp only [Int.toNat_natCast,eq_self,true_and,and_true]
 refine ⟨by omega,ab (fun h=>?_) (fun h=>?_)⟩
 ·rw [kz];simp at h;simp [h]
 refine ⟨⟨0,⟨by omega,by rw [kz];simp at h;simp [h]⟩,rfl⟩,?_⟩
 rintro k ⟨h1,h3⟩
 refine ab (fun h=>?_) (fun h=>?_)
 ·replace h:=Xo h
  have hk:k < s.parts.length:=by omega
  have hm:=eo (getD_mem s.parts k (dfl (.st .shape)) hk)
  rw [aH s.parts k (dfl (.st .shape)) hk] at h3
  simp only [allL] at h3
  refine ⟨by omega,by omega,?_⟩
  cases e:allS aq (s.parts.getD k (dfl (.st .shape)))
  ·rw [e] at h3;rw [h3];simp
  ·simp only [e,Bool.true_and] at h3
   exact ⟨bc hk ln,k+1,⟨by omega,h3⟩,by omega,by omega⟩
 ·replace h:¬((k:Int) < (s.parts.length:Int)):=fun e=>h (Xd e)
  have e:k=s.parts.length:=by omega
  subst e
  rw [h3,List.drop_length];rfl
theorem yE (n:Nat) (s:Shape) (hs:Wf (.st .shape) s) (hn:sz s<=n+1) (ho:allS cZ s=true) (hb:n<=1000000) :
  ((0:Int)<=(↑(List.length s.parts):Int)/\(↑(List.length s.parts):Int)<=(↑(List.length s.parts):Int)/\(↑(List.length s.parts):Int) *(↑(8:Nat):Int)<=(140737488355328:Int))/\(∃(x:Nat),x<=List.length s.parts/\(0:Int)=(↑x:Int)/\s=s/\Int.toNat (↑(List.length s.parts):Int)=Int.toNat (↑(List.length s.parts):Int)/\(↑(Int.toNat (↑(List.length s.parts):Int)):Int)=(↑(Int.toNat (↑(List.length s.parts):Int)):Int)/\List.replicate (Int.toNat (↑(List.length s.parts):Int)) (0:Int)=bU x++List.replicate (List.length s.parts - x) (0:Int)/\s=s/\(0:Int)=(0:Int)/\aD UInt8=aD UInt8/\aD UInt8=aD UInt8/\s.kind=s.kind/\s.pkg=s.pkg/\s.name=s.name/\True)/\∀(x:Nat),x<=List.length s.parts→if decide ((↑x:Int) < (↑(Int.toNat (↑(List.length s.parts):Int)):Int))=true then ((0:Int)<=(↑x:Int)/\(↑x:Int) < (↑(Int.toNat (↑(List.length s.parts):Int)):Int))/\Int.toNat (↑x:Int) < List.length (bU x++List.replicate (List.length s.parts - x) (0:Int))/\inR IntKind.i64 ((↑x:Int)+(1:Int))/\∃(y:Nat),y<=List.length s.parts/\List.length s.parts - y < List.length s.parts - x/\(↑x:Int)+(1:Int)=(↑y:Int)/\s=s/\Int.toNat (↑(List.length s.parts):Int)=Int.toNat (↑(List.length s.parts):Int)/\(↑(Int.toNat (↑(List.length s.parts):Int)):Int)=(↑(Int.toNat (↑(List.length s.parts):Int)):Int)/\List.set (bU x++List.replicate (List.length s.parts - x) (0:Int)) (Int.toNat (↑x:Int)) (↑x:Int)=bU y++List.replicate (List.length s.parts - y) (0:Int)/\s=s/\(0:Int)=(0:Int)/\aD UInt8=aD UInt8/\aD UInt8=aD UInt8/\s.kind=s.kind/\s.pkg=s.pkg/\s.name=s.name/\True else if decide ((0:Int) < (↑(List.length s.names):Int))=true then (Int.toNat (↑(List.length s.parts):Int)=List.length (bU x++List.replicate (List.length s.parts - x) (0:Int))/\bU x++List.replicate (List.length s.parts - x) (0:Int)≠[]/\(∀(x_1:Int),x_1∈bU x++List.replicate (List.length s.parts - x) (0:Int)→(0:Int)<=x_1/\x_1 < (↑(List.length s.names):Int))/\List.Nodup s.names/\List.length (bU x++List.replicate (List.length s.parts - x) (0:Int)) < (4611686018427387904:Nat))/\(∃(x_1:Nat),x_1<=List.length s.parts/\(0:Int)=(↑x_1:Int)/\(↑x:Int)=(↑x:Int)/\s=s/\Int.toNat (↑(List.length s.parts):Int)=Int.toNat (↑(List.length s.parts):Int)/\(↑(Int.toNat (↑(List.length s.parts):Int)):Int)=(↑(Int.toNat (↑(List.length s.parts):Int)):Int)/\false=false/\true=true/\Int.toNat (↑(List.length s.parts):Int)=Int.toNat (↑(List.length s.parts):Int)/\(↑(Int.toNat (↑(List.length s.parts):Int)):Int)=(↑(Int.toNat (↑(List.length s.parts):Int)):Int)/\s.kind=s.kind/\s.pkg=s.pkg/\s.name=s.name/\(if s.names=[] then [] else List.map (fun (i:Int) ↦List.getD s.names (Int.toNat i) []) (List.take x_1 (ak s)))=[]/\List.map (fun (i:Int) ↦List.getD (sortedL s.parts) (Int.toNat i) dE) (List.take x_1 (ak s))=[]/\(List.mergeSort (bU x++List.replicate (List.length s.parts - x) (0:Int)) fun (i j:Int) ↦decide (List.getD s.names (Int.toNat i) []<=List.getD s.names (Int.toNat j) []))=ak s/\List.length (if s.names=[] then [] else List.map (fun (i:Int) ↦List.getD s.names (Int.toNat i) []) (List.take x_1 (ak s)))=(0:Nat)/\x_1=(0:Nat)/\s=s/\(0:Int)=(0:Int)/\aD UInt8=aD UInt8/\aD UInt8=aD UInt8/\True)/\∀(x_1:Nat),x_1<=List.length s.parts→if decide ((↑x_1:Int) < (↑(Int.toNat (↑(List.length s.parts):Int)):Int))=true then ((0:Int)<=(↑x_1:Int)/\(↑x_1:Int) < (↑(Int.toNat (↑(List.length s.parts):Int)):Int))/\Int.toNat (↑x_1:Int) < List.length (ak s)/\if decide ((0:Int) < (↑(List.length s.names):Int))=true then ((0:Int)<=List.getD (ak s) (Int.toNat (↑x_1:Int)) (dfl (Ty.int IntKind.i64))
  /\List.getD (ak s) (Int.toNat (↑x_1:Int)) (dfl (Ty.int IntKind.i64)) < (↑(List.length s.names):Int))/\(List.length (if s.names=[] then [] else List.map (fun (i:Int) ↦List.getD s.names (Int.toNat i) []) (List.take x_1 (ak s)))=List.length (if s.names=[] then [] else List.map (fun (i:Int) ↦List.getD s.names (Int.toNat i) []) (List.take x_1 (ak s)))/\(List.length (if s.names=[] then [] else List.map (fun (i:Int) ↦List.getD s.names (Int.toNat i) []) (List.take x_1 (ak s)))+List.length [List.getD s.names (Int.toNat (List.getD (ak s) (Int.toNat (↑x_1:Int)) (dfl (Ty.int IntKind.i64)))) (dfl Ty.str)]) *(16:Nat)<=(140737488355328:Nat))/\((0:Int)<=List.getD (ak s) (Int.toNat (↑x_1:Int)) (dfl (Ty.int IntKind.i64))/\List.getD (ak s) (Int.toNat (↑x_1:Int)) (dfl (Ty.int IntKind.i64)) < (↑(List.length s.parts):Int))/\(sz (List.getD s.parts (Int.toNat (List.getD (ak s) (Int.toNat (↑x_1:Int)) (dfl (Ty.int IntKind.i64)))) (dfl (Ty.st SN.shape)))<=n/\allS cZ (List.getD s.parts (Int.toNat (List.getD (ak s) (Int.toNat (↑x_1:Int)) (dfl (Ty.int IntKind.i64)))) (dfl (Ty.st SN.shape)))=true)/\(List.length (List.map (fun (i:Int) ↦List.getD (sortedL s.parts) (Int.toNat i) dE) (List.take x_1 (ak s)))=x_1/\(List.length (List.map (fun (i:Int) ↦List.getD (sortedL s.parts) (Int.toNat i) dE) (List.take x_1 (ak s)))+List.length [sortedS (List.getD s.parts (Int.toNat (List.getD (ak s) (Int.toNat (↑x_1:Int)) (dfl (Ty.int IntKind.i64)))) (dfl (Ty.st SN.shape)))]) *(88:Nat)<=(140737488355328:Nat))/\inR IntKind.i64 ((↑x_1:Int)+(1:Int))/\∃(y:Nat),y<=List.length s.parts/\List.length s.parts - y < List.length s.parts - x_1/\(↑x_1:Int)+(1:Int)=(↑y:Int)/\(↑x:Int)=(↑x:Int)/\s=s/\Int.toNat (↑(List.length s.parts):Int)=Int.toNat (↑(List.length s.parts):Int)/\(↑(Int.toNat (↑(List.length s.parts):Int)):Int)=(↑(Int.toNat (↑(List.length s.parts):Int)):Int)/\false=false/\true=true/\Int.toNat (↑(List.length s.parts):Int)=Int.toNat (↑(List.length s.parts):Int)/\(↑(Int.toNat (↑(List.length s.parts):Int)):Int)=(↑(Int.toNat (↑(List.length s.parts):Int)):Int)/\s.kind=s.kind/\s.pkg=s.pkg/\s.name=s.name/\((if s.names=[] then [] else List.map (fun (i:Int) ↦List.getD s.names (Int.toNat i) []) (List.take x_1 (ak s)))++[List.getD s.names (Int.toNat (List.getD (ak s) (Int.toNat (↑x_1:Int)) (dfl (Ty.int IntKind.i64)))) (dfl Ty.str)]=if s.names=[] then [] else List.map (fun (i:Int) ↦List.getD s.names (Int.toNat i) []) (List.take y (ak s)))/\List.map (fun (i:Int) ↦List.getD (sortedL s.parts) (Int.toNat i) dE) (List.take x_1 (ak s))++[sortedS (List.getD s.parts (Int.toNat (List.getD (ak s) (Int.toNat (↑x_1:Int)) (dfl (Ty.int IntKind.i64)))) (dfl (Ty.st SN.shape)))]=List.map (fun (i:Int) ↦List.getD (sortedL s.parts) (Int.toNat i) dE) (List.take y (ak s))/\ak s=ak s/\List.length ((if s.names=[] then [] else List.map (fun (i:Int) ↦List.getD s.names (Int.toNat i) []) (List.take x_1 (ak s)))++[List.getD s.names (Int.toNat (List.getD (ak s) (Int.toNat (↑x_1:Int)) (dfl (Ty.int IntKind.i64)))) (dfl Ty.str)])=List.length (if s.names=[] then [] else List.map (fun (i:Int) ↦List.getD s.names (Int.toNat i) []) (List.take y (ak s)))/\List.length (List.map (fun (i:Int) ↦List.getD (sortedL s.parts) (Int.toNat i) dE) (List.take x_1 (ak s))++[sortedS (List.getD s.parts (Int.toNat (List.getD (ak s) (Int.toNat (↑x_1:Int)) (dfl (Ty.int IntKind.i64)))) (dfl (Ty.st SN.shape)))])=y/\s=s/\(0:Int)=(0:Int)/\aD UInt8=aD UInt8/\aD UInt8=aD UInt8/\True else ((0:Int)<=List.getD (ak s) (Int.toNat (↑x_1:Int)) (dfl (Ty.int IntKind.i64))/\List.getD (ak s) (Int.toNat (↑x_1:Int)) (dfl (Ty.int IntKind.i64)) < (↑(List.length s.parts):Int))
  /\(sz (List.getD s.parts (Int.toNat (List.getD (ak s) (Int.toNat (↑x_1:Int)) (dfl (Ty.int IntKind.i64)))) (dfl (Ty.st SN.shape)))<=n/\allS cZ (List.getD s.parts (Int.toNat (List.getD (ak s) (Int.toNat (↑x_1:Int)) (dfl (Ty.int IntKind.i64)))) (dfl (Ty.st SN.shape)))=true)/\(List.length (List.map (fun (i:Int) ↦List.getD (sortedL s.parts) (Int.toNat i) dE) (List.take x_1 (ak s)))=x_1/\(List.length (List.map (fun (i:Int) ↦List.getD (sortedL s.parts) (Int.toNat i) dE) (List.take x_1 (ak s)))+List.length [sortedS (List.getD s.parts (Int.toNat (List.getD (ak s) (Int.toNat (↑x_1:Int)) (dfl (Ty.int IntKind.i64)))) (dfl (Ty.st SN.shape)))]) *(88:Nat)<=(140737488355328:Nat))/\inR IntKind.i64 ((↑x_1:Int)+(1:Int))/\∃(y:Nat),y<=List.length s.parts/\List.length s.parts - y < List.length s.parts - x_1/\(↑x_1:Int)+(1:Int)=(↑y:Int)/\(↑x:Int)=(↑x:Int)/\s=s/\Int.toNat (↑(List.length s.parts):Int)=Int.toNat (↑(List.length s.parts):Int)/\(↑(Int.toNat (↑(List.length s.parts):Int)):Int)=(↑(Int.toNat (↑(List.length s.parts):Int)):Int)/\false=false/\true=true/\Int.toNat (↑(List.length s.parts):Int)=Int.toNat (↑(List.length s.parts):Int)/\(↑(Int.toNat (↑(List.length s.parts):Int)):Int)=(↑(Int.toNat (↑(List.length s.parts):Int)):Int)/\s.kind=s.kind/\s.pkg=s.pkg/\s.name=s.name/\((if s.names=[] then [] else List.map (fun (i:Int) ↦List.getD s.names (Int.toNat i) []) (List.take x_1 (ak s)))=if s.names=[] then [] else List.map (fun (i:Int) ↦List.getD s.names (Int.toNat i) []) (List.take y (ak s)))/\List.map (fun (i:Int) ↦List.getD (sortedL s.parts) (Int.toNat i) dE) (List.take x_1 (ak s))++[sortedS (List.getD s.parts (Int.toNat (List.getD (ak s) (Int.toNat (↑x_1:Int)) (dfl (Ty.int IntKind.i64)))) (dfl (Ty.st SN.shape)))]=List.map (fun (i:Int) ↦List.getD (sortedL s.parts) (Int.toNat i) dE) (List.take y (ak s))/\ak s=ak s/\List.length (if s.names=[] then [] else List.map (fun (i:Int) ↦List.getD s.names (Int.toNat i) []) (List.take x_1 (ak s)))=List.length (if s.names=[] then [] else List.map (fun (i:Int) ↦List.getD s.names (Int.toNat i) []) (List.take y (ak s)))/\List.length (List.map (fun (i:Int) ↦List.getD (sortedL s.parts) (Int.toNat i) dE) (List.take x_1 (ak s))++[sortedS (List.getD s.parts (Int.toNat (List.getD (ak s) (Int.toNat (↑x_1:Int)) (dfl (Ty.int IntKind.i64)))) (dfl (Ty.st SN.shape)))])=y/\s=s/\(0:Int)=(0:Int)/\aD UInt8=aD UInt8/\aD UInt8=aD UInt8/\True else True/\s.kind=(sortedS s).kind/\s.pkg=(sortedS s).pkg/\s.name=(sortedS s).name/\(if s.names=[] then [] else List.map (fun (i:Int) ↦List.getD s.names (Int.toNat i) []) (List.take x_1 (ak s)))=(sortedS s).names/\List.map (fun (i:Int) ↦List.getD (sortedL s.parts) (Int.toNat i) dE) (List.take x_1 (ak s))=(sortedS s).parts/\True else (∃(x_1:Nat),x_1<=List.length s.parts/\(0:Int)=(↑x_1:Int)/\(↑x:Int)=(↑x:Int)/\s=s/\Int.toNat (↑(List.length s.parts):Int)=Int.toNat (↑(List.length s.parts):Int)/\(↑(Int.toNat (↑(List.length s.parts):Int)):Int)=(↑(Int.toNat (↑(List.length s.parts):Int)):Int)/\false=false/\false=false/\Int.toNat (↑(List.length s.parts):Int)=Int.toNat (↑(List.length s.parts):Int)/\(↑(Int.toNat (↑(List.length s.parts):Int)):Int)=(↑(Int.toNat (↑(List.length s.parts):Int)):Int)/\s.kind=s.kind/\s.pkg=s.pkg/\s.name=s.name/\(if s.names=[] then [] else List.map (fun (i:Int) ↦List.getD s.names (Int.toNat i) []) (List.take x_1 (ak s)))=[]/\List.map (fun (i:Int) ↦List.getD (sortedL s.parts) (Int.toNat i) dE) (List.take x_1 (ak s))=[]/\bU x++List.replicate (List.length s.parts - x) (0:Int)=ak s/\List.length (if s.names=[] then []
  else List.map (fun (i:Int) ↦List.getD s.names (Int.toNat i) []) (List.take x_1 (ak s)))=(0:Nat)/\x_1=(0:Nat)/\s=s/\(0:Int)=(0:Int)/\aD UInt8=aD UInt8/\aD UInt8=aD UInt8/\True)/\∀(x_1:Nat),x_1<=List.length s.parts→if decide ((↑x_1:Int) < (↑(Int.toNat (↑(List.length s.parts):Int)):Int))=true then ((0:Int)<=(↑x_1:Int)/\(↑x_1:Int) < (↑(Int.toNat (↑(List.length s.parts):Int)):Int))/\Int.toNat (↑x_1:Int) < List.length (ak s)/\if decide ((0:Int) < (↑(List.length s.names):Int))=true then ((0:Int)<=List.getD (ak s) (Int.toNat (↑x_1:Int)) (dfl (Ty.int IntKind.i64))/\List.getD (ak s) (Int.toNat (↑x_1:Int)) (dfl (Ty.int IntKind.i64)) < (↑(List.length s.names):Int))/\(List.length (if s.names=[] then [] else List.map (fun (i:Int) ↦List.getD s.names (Int.toNat i) []) (List.take x_1 (ak s)))=List.length (if s.names=[] then [] else List.map (fun (i:Int) ↦List.getD s.names (Int.toNat i) []) (List.take x_1 (ak s)))/\(List.length (if s.names=[] then [] else List.map (fun (i:Int) ↦List.getD s.names (Int.toNat i) []) (List.take x_1 (ak s)))+List.length [List.getD s.names (Int.toNat (List.getD (ak s) (Int.toNat (↑x_1:Int)) (dfl (Ty.int IntKind.i64)))) (dfl Ty.str)]) *(16:Nat)<=(140737488355328:Nat))/\((0:Int)<=List.getD (ak s) (Int.toNat (↑x_1:Int)) (dfl (Ty.int IntKind.i64))/\List.getD (ak s) (Int.toNat (↑x_1:Int)) (dfl (Ty.int IntKind.i64)) < (↑(List.length s.parts):Int))/\(sz (List.getD s.parts (Int.toNat (List.getD (ak s) (Int.toNat (↑x_1:Int)) (dfl (Ty.int IntKind.i64)))) (dfl (Ty.st SN.shape)))<=n/\allS cZ (List.getD s.parts (Int.toNat (List.getD (ak s) (Int.toNat (↑x_1:Int)) (dfl (Ty.int IntKind.i64)))) (dfl (Ty.st SN.shape)))=true)/\(List.length (List.map (fun (i:Int) ↦List.getD (sortedL s.parts) (Int.toNat i) dE) (List.take x_1 (ak s)))=x_1/\(List.length (List.map (fun (i:Int) ↦List.getD (sortedL s.parts) (Int.toNat i) dE) (List.take x_1 (ak s)))+List.length [sortedS (List.getD s.parts (Int.toNat (List.getD (ak s) (Int.toNat (↑x_1:Int)) (dfl (Ty.int IntKind.i64)))) (dfl (Ty.st SN.shape)))]) *(88:Nat)<=(140737488355328:Nat))/\inR IntKind.i64 ((↑x_1:Int)+(1:Int))/\∃(y:Nat),y<=List.length s.parts/\List.length s.parts - y < List.length s.parts - x_1/\(↑x_1:Int)+(1:Int)=(↑y:Int)/\(↑x:Int)=(↑x:Int)/\s=s/\Int.toNat (↑(List.length s.parts):Int)=Int.toNat (↑(List.length s.parts):Int)/\(↑(Int.toNat (↑(List.length s.parts):Int)):Int)=(↑(Int.toNat (↑(List.length s.parts):Int)):Int)/\false=false/\false=false/\Int.toNat (↑(List.length s.parts):Int)=Int.toNat (↑(List.length s.parts):Int)/\(↑(Int.toNat (↑(List.length s.parts):Int)):Int)=(↑(Int.toNat (↑(List.length s.parts):Int)):Int)/\s.kind=s.kind/\s.pkg=s.pkg/\s.name=s.name/\((if s.names=[] then [] else List.map (fun (i:Int) ↦List.getD s.names (Int.toNat i) []) (List.take x_1 (ak s)))++[List.getD s.names (Int.toNat (List.getD (ak s) (Int.toNat (↑x_1:Int)) (dfl (Ty.int IntKind.i64)))) (dfl Ty.str)]=if s.names=[] then [] else List.map (fun (i:Int) ↦List.getD s.names (Int.toNat i) []) (List.take y (ak s)))/\List.map (fun (i:Int) ↦List.getD (sortedL s.parts) (Int.toNat i) dE) (List.take x_1 (ak s))++[sortedS (List.getD s.parts (Int.toNat (List.getD (ak s) (Int.toNat (↑x_1:Int)) (dfl (Ty.int IntKind.i64)))) (dfl (Ty.st SN.shape)))]=List.map (fun (i:Int) ↦List.getD (sortedL s.parts) (Int.toNat i) dE) (List.take y (ak s))/\ak s=ak s/\List.length ((if s.names=[] then [] else List.map (fun (i:Int) ↦List.getD s.names (Int.toNat i) []) (List.take x_1 (ak s)))++[List.getD s.names (Int.toNat (List.getD (ak s) (Int.toNat (↑x_1:Int)) (dfl (Ty.int IntKind.i64)))) (dfl Ty.str)])=List.length (if s.names=[] then []
  else List.map (fun (i:Int) ↦List.getD s.names (Int.toNat i) []) (List.take y (ak s)))/\List.length (List.map (fun (i:Int) ↦List.getD (sortedL s.parts) (Int.toNat i) dE) (List.take x_1 (ak s))++[sortedS (List.getD s.parts (Int.toNat (List.getD (ak s) (Int.toNat (↑x_1:Int)) (dfl (Ty.int IntKind.i64)))) (dfl (Ty.st SN.shape)))])=y/\s=s/\(0:Int)=(0:Int)/\aD UInt8=aD UInt8/\aD UInt8=aD UInt8/\True else ((0:Int)<=List.getD (ak s) (Int.toNat (↑x_1:Int)) (dfl (Ty.int IntKind.i64))/\List.getD (ak s) (Int.toNat (↑x_1:Int)) (dfl (Ty.int IntKind.i64)) < (↑(List.length s.parts):Int))/\(sz (List.getD s.parts (Int.toNat (List.getD (ak s) (Int.toNat (↑x_1:Int)) (dfl (Ty.int IntKind.i64)))) (dfl (Ty.st SN.shape)))<=n/\allS cZ (List.getD s.parts (Int.toNat (List.getD (ak s) (Int.toNat (↑x_1:Int)) (dfl (Ty.int IntKind.i64)))) (dfl (Ty.st SN.shape)))=true)/\(List.length (List.map (fun (i:Int) ↦List.getD (sortedL s.parts) (Int.toNat i) dE) (List.take x_1 (ak s)))=x_1/\(List.length (List.map (fun (i:Int) ↦List.getD (sortedL s.parts) (Int.toNat i) dE) (List.take x_1 (ak s)))+List.length [sortedS (List.getD s.parts (Int.toNat (List.getD (ak s) (Int.toNat (↑x_1:Int)) (dfl (Ty.int IntKind.i64)))) (dfl (Ty.st SN.shape)))]) *(88:Nat)<=(140737488355328:Nat))/\inR IntKind.i64 ((↑x_1:Int)+(1:Int))/\∃(y:Nat),y<=List.length s.parts/\List.length s.parts - y < List.length s.parts - x_1/\(↑x_1:Int)+(1:Int)=(↑y:Int)/\(↑x:Int)=(↑x:Int)/\s=s/\Int.toNat (↑(List.length s.parts):Int)=Int.toNat (↑(List.length s.parts):Int)/\(↑(Int.toNat (↑(List.length s.parts):Int)):Int)=(↑(Int.toNat (↑(List.length s.parts):Int)):Int)/\false=false/\false=false/\Int.toNat (↑(List.length s.parts):Int)=Int.toNat (↑(List.length s.parts):Int)/\(↑(Int.toNat (↑(List.length s.parts):Int)):Int)=(↑(Int.toNat (↑(List.length s.parts):Int)):Int)/\s.kind=s.kind/\s.pkg=s.pkg/\s.name=s.name/\((if s.names=[] then [] else List.map (fun (i:Int) ↦List.getD s.names (Int.toNat i) []) (List.take x_1 (ak s)))=if s.names=[] then [] else List.map (fun (i:Int) ↦List.getD s.names (Int.toNat i) []) (List.take y (ak s)))/\List.map (fun (i:Int) ↦List.getD (sortedL s.parts) (Int.toNat i) dE) (List.take x_1 (ak s))++[sortedS (List.getD s.parts (Int.toNat (List.getD (ak s) (Int.toNat (↑x_1:Int)) (dfl (Ty.int IntKind.i64)))) (dfl (Ty.st SN.shape)))]=List.map (fun (i:Int) ↦List.getD (sortedL s.parts) (Int.toNat i) dE) (List.take y (ak s))/\ak s=ak s/\List.length (if s.names=[] then [] else List.map (fun (i:Int) ↦List.getD s.names (Int.toNat i) []) (List.take x_1 (ak s)))=List.length (if s.names=[] then [] else List.map (fun (i:Int) ↦List.getD s.names (Int.toNat i) []) (List.take y (ak s)))/\List.length (List.map (fun (i:Int) ↦List.getD (sortedL s.parts) (Int.toNat i) dE) (List.take x_1 (ak s))++[sortedS (List.getD s.parts (Int.toNat (List.getD (ak s) (Int.toNat (↑x_1:Int)) (dfl (Ty.int IntKind.i64)))) (dfl (Ty.st SN.shape)))])=y/\s=s/\(0:Int)=(0:Int)/\aD UInt8=aD UInt8/\aD UInt8=aD UInt8/\True else True/\s.kind=(sortedS s).kind/\s.pkg=(sortedS s).pkg/\s.name=(sortedS s).name/\(if s.names=[] then [] else List.map (fun (i:Int) ↦List.getD s.names (Int.toNat i) []) (List.take x_1 (ak s)))=(sortedS s).names/\List.map (fun (i:Int) ↦List.getD (sortedL s.parts) (Int.toNat i) dE) (List.take x_1 (ak s))=(sortedS s).parts/\True:=by
 have ln:=hs.parts.len
 have hz:=j6 s
 have hl:=ky s.parts
 have hor:cZ s=true/\allL cZ s.parts=true:=by rw [kz] at ho;simpa using ho
 simp only [Int.toNat_natCast,eq_self,true_and,and_true]
 refine ⟨by omega,⟨0,by omega,rfl,by simp [bU]⟩,?_⟩
 rintro k hk
 refine ab (fun h=>?_) (fun h=>?_)
 ·replace h:=Xo h
  exact ⟨by omega,by simp [cJ];omega,bc (by omega) ln,k+1,by omega,by omega,by omega,xX (by omega)⟩
 replace h:¬((k:Int) < (s.parts.length:Int)):=fun e=>h (Xd e)
 have e:k=s.parts.length:=by omega
 subst e
 simp only [Nat.sub_self,List.replicate_zero,List.append_nil]
 have hr:bU s.parts.length=[]↔s.parts=[]:=by rw [←List.length_eq_zero_iff,cJ,List.length_eq_zero_iff]
 have hp2:=pc s
 have at_:∀k,k < s.parts.length→0<=(ak s).getD k (dfl (.int .i64))/\(ak s).getD k (dfl (.int .i64)) < s.parts.length:=fun k hk=>
  ve.1 (getD_mem (ak s) k (dfl (.int .i64)) (by rw [hp2];exact hk))
 refine ab (fun h2=>?_) (fun h2=>?_)
 ·have hne:s.names≠[]:=by intro e;rw [e] at h2;simp at h2
  have ho1:s.names.length=s.parts.length/\s.names.Nodup:=by
   have:=hor.1;unfold cZ at this;simpa [hne] using this
  refine ⟨⟨by rw [cJ],?_,fun x hx=>?_,ho1.2,by rw [cJ];omega⟩,⟨0,by omega,rfl,by simp,by simp,?_,by simp,rfl⟩,?_⟩
  ·rw [Ne,hr];intro e;rw [e] at ho1;exact hne (List.length_eq_zero_iff.1 (by simpa using ho1.1))
  ·rw [ho1.1];exact nT.1 hx
  ·unfold ak fq cw;rw [if_neg hne]
  ·rintro k hk2
   refine ab (fun h=>?_) (fun h=>?_)
   ·replace h:=Xo h
    have hk3:k < s.parts.length:=by omega
    obtain ⟨a1,a2⟩:=at_ k hk3
    refine ⟨by omega,by omega,?_⟩
    rw [if_pos h2]
    have hi:((ak s).getD k (dfl (.int .i64))).toNat < s.parts.length:=by omega
    have f1:=eo (getD_mem s.parts _ (dfl (.st .shape)) hi)
    have f2:=ep hor.2 (getD_mem s.parts _ (dfl (.st .shape)) hi)
    have t1:=pK (ak s) k (dfl (.int .i64)) (by rw [hp2];exact hk3)
    have t2:List.map (fun i:Int=>(sortedL s.parts).getD i.toNat dE) (List.take (k+1) (ak s))=List.map (fun i:Int=>(sortedL s.parts).getD i.toNat dE) (List.take k (ak s))++[sortedS (s.parts.getD ((ak s).getD k (dfl (.int .i64))).toNat (dfl (.st .shape)))]:=by rw [t1,List.map_append,List.map_singleton,ik _ _ dE (dfl (.st .shape)) hi]
    have t3:List.map (fun i:Int=>s.names.getD i.toNat []) (List.take (k+1) (ak s))=List.map (fun i:Int=>s.names.getD i.toNat []) (List.take k (ak s))++[s.names.getD ((ak s).getD k (dfl (.int .i64))).toNat []]:=by rw [t1,List.map_append,List.map_singleton]
    have tl:(List.take k (ak s)).length=k:=by rw [List.length_take,hp2];omega
    refine ⟨⟨a1,by omega⟩,?_,⟨a1,a2⟩,⟨by omega,f2⟩,⟨by rw [List.length_map,tl],by rw [List.length_map,tl];simp only [List.length_singleton];omega⟩,bc hk3 ln,k+1,by omega,by omega,by omega,?_,t2.symm,?_,?_⟩
    ·rw [if_neg hne,List.length_map,tl];simp only [List.length_singleton];omega
    ·rw [if_neg hne,if_neg hne,t3];rfl
    ·rw [if_neg hne,if_neg hne,t3];rfl
    ·rw [List.length_append,List.length_map,tl];rfl
   ·replace h:¬((k:Int) < (s.parts.length:Int)):=fun e=>h (Xd e)
    have e:k=s.parts.length:=by omega
    subst e
    rw [←hp2,List.take_length,if_neg hne]
    obtain ⟨kk,pp,nn,ns,ps⟩:=s
    simp only [sortedS]
    rw [if_neg hne]
    exact ⟨trivial,trivial,trivial,rfl,trivial⟩
 ·have hne:s.names=[]:=by
   refine Classical.byContradiction fun hc=>h2 (Xd ?_)
   have:=List.length_pos_iff.2 hc
   omega
  have hpl:ak s=bU s.parts.length:=by unfold ak;rw [if_pos hne]
  simp only [hne,if_true,List.length_nil,List.length_singleton]
  refine ⟨⟨0,by omega,rfl,trivial,by simp,hpl.symm,trivial,rfl⟩,?_⟩
  rintro k hk2
  refine ab (fun h=>?_) (fun h=>?_)
  ·replace h:=Xo h
   have hk3:k < s.parts.length:=by omega
   obtain ⟨a1,a2⟩:=at_ k hk3
   refine ⟨by omega,by omega,?_⟩
   rw [if_neg (by simp)]
   have hi:((ak s).getD k (dfl (.int .i64))).toNat < s.parts.length:=by omega
   have f1:=eo (getD_mem s.parts _ (dfl (.st .shape)) hi)
   have f2:=ep hor.2 (getD_mem s.parts _ (dfl (.st .shape)) hi)
   have t1:=pK (ak s) k (dfl (.int .i64)) (by rw [hp2];exact hk3)
   have t2:List.map (fun i:Int=>(sortedL s.parts).getD i.toNat dE) (List.take (k+1) (ak s))=List.map (fun i:Int=>(sortedL s.parts).getD i.toNat dE) (List.take k (ak s))++[sortedS (s.parts.getD ((ak s).getD k (dfl (.int .i64))).toNat (dfl (.st .shape)))]:=by rw [t1,List.map_append,List.map_singleton,ik _ _ dE (dfl (.st .shape)) hi]
   have tl:(List.take k (ak s)).length=k:=by rw [List.length_take,hp2];omega
   exact ⟨⟨a1,a2⟩,⟨by omega,f2⟩,⟨by rw [List.length_map,tl],by rw [List.length_map,tl];omega⟩,bc hk3 ln,k+1,by omega,by omega,by omega,trivial,t2.symm,trivial,by rw [List.length_append,List.length_map,tl];rfl⟩
  ·replace h:¬((k:Int) < (s.parts.length:Int)):=fun e=>h (Xd e)
   have e:k=s.parts.length:=by omega
   subst e
   rw [←hp2,List.take_length]
   obtain ⟨kk,pp,nn,ns,ps⟩:=s
   simp only at hne
   subst hne
   simp only [sortedS,if_true]
   exact ⟨trivial,trivial,trivial,trivial,trivial⟩
theorem AH (s:Shape)  :
  if (!decide (sz s<=(400:Nat)))=true then True/\(3:Int)=aF s/\True else if decide ((40:Int) < if sz s<=(400:Nat) then deepS s (1:Int) else (0:Int))=true then True/\(91:Int)=aF s/\True else sz s<=(400:Nat)/\if (!allS aq s)=true then True/\(70:Int)=aF s/\True else True/\(0:Int)=aF s/\True:=by
 unfold aF
 by_cases h1:sz s<=400
 ·rw [if_neg (by simp [h1]),if_pos h1,if_neg (show ¬400 < sz s by omega)]
  by_cases h2:(40:Int) < deepS s 1
  ·rw [if_pos (by simp [h2]),if_pos h2];exact ⟨trivial,rfl,trivial⟩
  ·rw [if_neg (by simp [h2]),if_neg h2]
   refine ⟨h1,?_⟩
   cases allS aq s <;> simp
 ·rw [if_pos (by simp [h1]),if_pos (show 400 < sz s by omega)];exact ⟨trivial,rfl,trivial⟩
theorem C4 (s:Shape)  :
  if (!decide (aF s=(0:Int)))=true then True/\s=aW s/\True else (sz s<=(400:Nat)/\allS cZ s=true)/\True/\sortedS s=aW s/\True:=by
 unfold aW
 by_cases h:aF s=0
 ·rw [if_neg (by simp [h]),if_pos h]
  exact ⟨⟨(dT h).1,nV h⟩,trivial,rfl,trivial⟩
 ·rw [if_pos (by simp [h]),if_neg h];exact ⟨trivial,rfl,trivial⟩
theorem C5 (n:Nat) (s:Shape) (m:Int) (hs:Wf (.st .shape) s) (ho:sz s<=n+1/\0<=m/\m<=1000000) :
  (∃(x:Nat × Int),(x.1<=List.length s.parts/\(1:Int)<=x.2/\x.2<=m+(1:Int)/\sizeL (List.drop x.1 s.parts) x.2 m=sizeF s m)/\(1:Int)=x.2/\(0:Int)=(↑x.1:Int)/\s=s/\m=m/\(0:Int)=(0:Int)/\s=s/\True)/\∀(x:Nat × Int),x.1<=List.length s.parts/\(1:Int)<=x.2/\x.2<=m+(1:Int)/\sizeL (List.drop x.1 s.parts) x.2 m=sizeF s m→if decide ((↑x.1:Int) < (↑(List.length s.parts):Int))=true then if decide (x.2<=m)=true then ((0:Int)<=(↑x.1:Int)/\(↑x.1:Int) < (↑(List.length s.parts):Int))/\inR IntKind.i64 (m - x.2)/\(sz (List.getD s.parts (Int.toNat (↑x.1:Int)) (dfl (Ty.st SN.shape)))<=n/\(0:Int)<=m - x.2/\m - x.2<=(1000000:Int))/\inR IntKind.i64 (x.2+sizeF (List.getD s.parts (Int.toNat (↑x.1:Int)) (dfl (Ty.st SN.shape))) (m - x.2))/\inR IntKind.i64 ((↑x.1:Int)+(1:Int))/\∃(y:Nat × Int),(y.1<=List.length s.parts/\(1:Int)<=y.2/\y.2<=m+(1:Int)/\sizeL (List.drop y.1 s.parts) y.2 m=sizeF s m)/\List.length s.parts - y.1 < List.length s.parts - x.1/\x.2+sizeF (List.getD s.parts (Int.toNat (↑x.1:Int)) (dfl (Ty.st SN.shape))) (m - x.2)=y.2/\(↑x.1:Int)+(1:Int)=(↑y.1:Int)/\s=s/\m=m/\(0:Int)=(0:Int)/\s=s/\True else True/\x.2=sizeF s m/\True else True/\x.2=sizeF s m/\True:=by
 have ln:=hs.parts.len
 have hz:=j6 s
 obtain ⟨ho1,ho2,ho3⟩:=ho
 have h0:sizeL s.parts 1 m=sizeF s m:=by cases s;rfl
 simp only [Int.toNat_natCast,eq_self,true_and,and_true]
 refine ⟨⟨(0,1),⟨Nat.zero_le _,by omega,by omega,h0⟩,rfl,rfl⟩,?_⟩
 rintro ⟨k,c⟩ ⟨h1,h2,h3,h4⟩
 simp only at h1 h2 h3 h4 ⊢
 refine ab (fun hk=>?_) (fun hk=>?_)
 ·replace hk:=Xo hk
  have hk:k < s.parts.length:=by omega
  have hm:=eo (getD_mem s.parts k (dfl (.st .shape)) hk)
  rw [aH s.parts k (dfl (.st .shape)) hk] at h4
  simp only [sizeL] at h4
  refine ab (fun hc=>?_) (fun hc=>?_)
  ·replace hc:=Xo hc
   rw [if_pos hc] at h4
   have hb:=sizeF_bd (s.parts.getD k (dfl (.st .shape))) (m - c) (by omega)
   exact ⟨by omega,bF (by omega) (by omega),by omega,bF (by omega) (by omega),bc hk ln,(k+1,_),⟨by omega,by simp only;omega,by simp only;omega,h4⟩,by simp only;omega,rfl,rfl⟩
  ·rw [if_neg (fun e=>hc (Xd e))] at h4
   exact h4
 ·replace hk:¬((k:Int) < (s.parts.length:Int)):=fun e=>hk (Xd e)
  have e:k=s.parts.length:=by omega
  subst e
  rw [List.drop_length] at h4
  exact h4
theorem yF (n:Nat) (a b:Shape) (ha:Wf (.st .shape) a) (hb:Wf (.st .shape) b) (hn:sz a<=n+1) :
  if (!decide (a.kind=b.kind))=true then True/\false=eqS a b/\True else if (!decide (a.pkg=b.pkg))=true then True/\false=eqS a b/\True else if (!decide (a.name=b.name))=true then True/\false=eqS a b/\True else if (!decide ((↑(List.length a.names):Int)=(↑(List.length b.names):Int)))=true then True/\false=eqS a b/\True else if (!decide ((↑(List.length a.parts):Int)=(↑(List.length b.parts):Int)))=true then True/\false=eqS a b/\True else (∃(x:Nat),(x<=List.length a.names/\List.length a.names=List.length b.names/\List.length a.parts=List.length b.parts/\eqS a b=(decide (List.drop x a.names=List.drop x b.names) && eqL a.parts b.parts))/\(0:Int)=(↑x:Int)/\a=a/\b=b/\false=false/\a=a/\b=b/\True)/\∀(x:Nat),x<=List.length a.names/\List.length a.names=List.length b.names/\List.length a.parts=List.length b.parts/\eqS a b=(decide (List.drop x a.names=List.drop x b.names) && eqL a.parts b.parts)→if decide ((↑x:Int) < (↑(List.length a.names):Int))=true then ((0:Int)<=(↑x:Int)/\(↑x:Int) < (↑(List.length a.names):Int))/\((0:Int)<=(↑x:Int)/\(↑x:Int) < (↑(List.length b.names):Int))/\if (!decide (List.getD a.names (Int.toNat (↑x:Int)) (dfl Ty.str)=List.getD b.names (Int.toNat (↑x:Int)) (dfl Ty.str)))=true then True/\false=eqS a b/\True else inR IntKind.i64 ((↑x:Int)+(1:Int))/\∃(y:Nat),(y<=List.length a.names/\List.length a.names=List.length b.names/\List.length a.parts=List.length b.parts/\eqS a b=(decide (List.drop y a.names=List.drop y b.names) && eqL a.parts b.parts))/\List.length a.names - y < List.length a.names - x/\(↑x:Int)+(1:Int)=(↑y:Int)/\a=a/\b=b/\false=false/\a=a/\b=b/\True else (∃(x_1:Nat),(x_1<=List.length a.parts/\List.length a.parts=List.length b.parts/\eqS a b=eqL (List.drop x_1 a.parts) (List.drop x_1 b.parts))/\(0:Int)=(↑x_1:Int)/\(↑x:Int)=(↑x:Int)/\a=a/\b=b/\false=false/\false=false/\a=a/\b=b/\True)/\∀(x_1:Nat),x_1<=List.length a.parts/\List.length a.parts=List.length b.parts/\eqS a b=eqL (List.drop x_1 a.parts) (List.drop x_1 b.parts)→if decide ((↑x_1:Int) < (↑(List.length a.parts):Int))=true then ((0:Int)<=(↑x_1:Int)/\(↑x_1:Int) < (↑(List.length a.parts):Int))/\((0:Int)<=(↑x_1:Int)/\(↑x_1:Int) < (↑(List.length b.parts):Int))/\sz (List.getD a.parts (Int.toNat (↑x_1:Int)) (dfl (Ty.st SN.shape)))<=n/\if (!eqS (List.getD a.parts (Int.toNat (↑x_1:Int)) (dfl (Ty.st SN.shape))) (List.getD b.parts (Int.toNat (↑x_1:Int)) (dfl (Ty.st SN.shape))))=true then True/\false=eqS a b/\True else inR IntKind.i64 ((↑x_1:Int)+(1:Int))/\∃(y:Nat),(y<=List.length a.parts/\List.length a.parts=List.length b.parts/\eqS a b=eqL (List.drop y a.parts) (List.drop y b.parts))/\List.length a.parts - y < List.length a.parts - x_1/\(↑x_1:Int)+(1:Int)=(↑y:Int)/\(↑x:Int)=(↑x:Int)/\a=a/\b=b/\false=false/\false=false/\a=a/\b=b/\True else True/\true=eqS a b/\True:=by
 have lna:=ha.names.len
 have lpa:=ha.parts.len
 have hz:=j6 a
 have he:eqS a b=(decide (a.kind=b.kind) && decide (a.pkg=b.pkg) && decide (a.name=b.name) && decide (a.names=b.names) && eqL a.parts b.parts):=by cases a;cases b;rfl
 simp only [Int.toNat_natCast,eq_self,true_and,and_true]
 refine ab (fun h=>?_) (fun h1=>ab (fun h=>?_) (fun h2=>ab (fun h=>?_) (fun h3=>ab (fun h=>?_) (fun h4=>ab (fun h=>?_) (fun h5=>?_)))))
 ·rw [he];simp only [Bool.not_eq_true'] at h;rw [h];simp
 ·rw [he];simp only [Bool.not_eq_true'] at h;rw [h];simp
 ·rw [he];simp only [Bool.not_eq_true'] at h;rw [h];simp
 ·have:¬a.names=b.names:=by intro e;rw [e] at h;simp at h
  rw [he];simp [this]
 ·have:a.parts.length≠b.parts.length:=by intro e;rw [e] at h;simp at h
  rw [he,wS this];simp
 have l4:a.names.length=b.names.length:=by simp at h4;omega
 have l5:a.parts.length=b.parts.length:=by simp at h5;omega
 have he':eqS a b=(decide (a.names=b.names) && eqL a.parts b.parts):=by
  rw [he];simp only [Bool.not_eq_true,Bool.not_eq_false'] at h1 h2 h3;rw [h1,h2,h3];simp
 refine ⟨⟨0,⟨Nat.zero_le _,l4,l5,by simpa using he'⟩,rfl⟩,?_⟩
 rintro k ⟨k1,_,_,k4⟩
 refine ab (fun h=>?_) (fun h=>?_)
 ·replace h:=Xo h
  have hk:k < a.names.length:=by omega
  have hk':k < b.names.length:=by omega
  rw [aH a.names k (dfl .str) hk,aH b.names k (dfl .str) hk'] at k4
  refine ⟨by omega,by omega,ab (fun c=>?_) (fun c=>?_)⟩
  ·have c':¬a.names.getD k (dfl .str)=b.names.getD k (dfl .str):=by simpa using c
   rw [k4]
   have:¬(a.names.getD k (dfl .str) ::a.names.drop (k+1)=b.names.getD k (dfl .str) ::b.names.drop (k+1)):=fun e=>c' (List.cons.inj e).1
   simp only [this,decide_false,Bool.false_and]
  ·have c':a.names.getD k (dfl .str)=b.names.getD k (dfl .str):=by simpa using c
   refine ⟨bc hk lna,k+1,⟨by omega,l4,l5,?_⟩,by omega,by omega⟩
   rw [k4,c']
   congr 1
   rw [decide_eq_decide]
   simp
 ·replace h:¬((k:Int) < (a.names.length:Int)):=fun e=>h (Xd e)
  have e:k=a.names.length:=by omega
  subst e
  have k4':eqS a b=eqL a.parts b.parts:=by rw [k4,List.drop_length,l4,List.drop_length];simp
  refine ⟨⟨0,⟨Nat.zero_le _,l5,by simpa using k4'⟩,rfl⟩,?_⟩
  rintro j ⟨j1,_,j3⟩
  refine ab (fun h=>?_) (fun h=>?_)
  ·replace h:=Xo h
   have hj:j < a.parts.length:=by omega
   have hj':j < b.parts.length:=by omega
   have hm:=eo (getD_mem a.parts j (dfl (.st .shape)) hj)
   rw [aH a.parts j (dfl (.st .shape)) hj,aH b.parts j (dfl (.st .shape)) hj'] at j3
   simp only [eqL] at j3
   refine ⟨by omega,by omega,by omega,ab (fun c=>?_) (fun c=>?_)⟩
   ·have c':eqS (a.parts.getD j (dfl (.st .shape))) (b.parts.getD j (dfl (.st .shape)))=false:=by simpa using c
    rw [j3,c'];rfl
   ·have c':eqS (a.parts.getD j (dfl (.st .shape))) (b.parts.getD j (dfl (.st .shape)))=true:=by simpa using c
    rw [c',Bool.true_and] at j3
    exact ⟨bc hj lpa,j+1,⟨by omega,l5,j3⟩,by omega,by omega⟩
  ·replace h:¬((j:Int) < (a.parts.length:Int)):=fun e=>h (Xd e)
   have e:j=a.parts.length:=by omega
   subst e
   rw [j3,List.drop_length,l5,List.drop_length];rfl
theorem yG (l:List Bndg) (N:Nat) (hl:Wf (.lst (.st .bind)) l) (hN:∀x∈l,sz x.shape<=N) :
  if decide ((60:Int) < (↑(List.length l):Int))=true then True/\false=fv l/\True else (∃(x:Nat),(x<=List.length l/\me (List.drop x l)=fv l)/\(0:Int)=(↑x:Int)/\l=l/\false=false/\True)/\∀(x:Nat),x<=List.length l/\me (List.drop x l)=fv l→if decide ((↑x:Int) < (↑(List.length l):Int))=true then ((0:Int)<=(↑x:Int)/\(↑x:Int) < (↑(List.length l):Int))/\(sz (List.getD l (Int.toNat (↑x:Int)) (dfl (Ty.st SN.bind))).shape<=N/\(0:Int)<=(800:Int)/\(800:Int)<=(1000000:Int))/\if decide ((800:Int) < sizeF (List.getD l (Int.toNat (↑x:Int)) (dfl (Ty.st SN.bind))).shape (800:Int))=true then True/\false=fv l/\True else inR IntKind.i64 ((↑x:Int)+(1:Int))/\∃(y:Nat),(y<=List.length l/\me (List.drop y l)=fv l)/\List.length l - y < List.length l - x/\(↑x:Int)+(1:Int)=(↑y:Int)/\l=l/\false=false/\True else True/\true=fv l/\True:=by
 have ln:=hl.len
 simp only [Int.toNat_natCast,eq_self,true_and,and_true]
 refine ab (fun h=>?_) (fun h=>?_)
 ·unfold fv
  rw [if_pos (Xo h)]
 have h:¬(60:Int) < (l.length:Int):=fun e=>h (Xd e)
 have hF:fv l=me l:=by unfold fv;rw [if_neg h]
 refine ⟨⟨0,⟨Nat.zero_le _,by rw [List.drop_zero,hF]⟩,rfl⟩,?_⟩
 rintro k ⟨h1,h2⟩
 refine ab (fun hk=>?_) (fun hk=>?_)
 ·replace hk:=Xo hk
  have hk:k < l.length:=by omega
  have hm:=hN _ (getD_mem l k (dfl (.st .bind)) hk)
  rw [aH l k (dfl (.st .bind)) hk,me] at h2
  refine ⟨by omega,⟨hm,by omega,by omega⟩,ab (fun hc=>?_) (fun hc=>?_)⟩
  ·rw [if_pos (Xo hc)] at h2
   exact h2
  ·rw [if_neg (fun e=>hc (Xd e))] at h2
   exact ⟨bc hk ln,k+1,⟨by omega,h2⟩,by omega,by omega⟩
 ·have e:k=l.length:=by
   have:¬((k:Int) < (l.length:Int)):=fun e=>hk (Xd e)
   omega
  subst e
  rw [List.drop_length] at h2
  exact h2
theorem vB (e:Envt) (he:Wf (.st .env) e) :
  if fv e.types=true then if fv e.values=true then True/\fv e.own=ir e/\True else True/\false=ir e/\True else True/\false=ir e/\True:=by
 unfold ir
 cases fv e.types <;> cases fv e.values <;> cases fv e.own <;> simp
theorem C6 (e:Envt) (l:List Bndg) (he:Wf (.st .env) e) (hl:Wf (.lst (.st .bind)) l) (ho:e.values.length<=1000000000/\l.length<=1000) :
  List.length e.values *(120:Nat)<=(140737488355328:Nat)/\(List.length e.values=List.length e.values/\(List.length e.values+List.length l) *(120:Nat)<=(140737488355328:Nat))/\True/\e.self=(bq e l).self/\e.types=(bq e l).types/\e.values++l=e.values++l/\e.own=(bq e l).own/\True:=by
 obtain ⟨h1,h2⟩:=ho
 exact ⟨by omega,⟨rfl,by omega⟩,trivial,rfl,rfl,rfl,rfl,trivial⟩
theorem yH (n:Nat) (t:Trm) (m:Int) (hs:Wf (.st .term) t) (hz:szT t<=n+1) (h0:0<=m) (h1:m<=1000000) :
  (∃(x:Nat × Int × Int),(x.1<=List.length t.parts/\(1:Int)<=x.2.1/\x.2.1<=m+(1:Int)/\(0:Int)<=x.2.2/\x.2.2+(1:Int)<=x.2.1/\countL (List.drop x.1 t.parts) m x.2.1 x.2.2=countL t.parts m (1:Int) (0:Int))/\(1:Int)=x.2.1/\(0:Int)=x.2.2/\(0:Int)=(↑x.1:Int)/\t=t/\m=m/\(0:Int)=(0:Int)/\(0:Int)=(0:Int)/\t.parts=t.parts/\(↑(List.length t.parts):Int)=(↑(List.length t.parts):Int)/\t=t/\True)/\∀(x:Nat × Int × Int),x.1<=List.length t.parts/\(1:Int)<=x.2.1/\x.2.1<=m+(1:Int)/\(0:Int)<=x.2.2/\x.2.2+(1:Int)<=x.2.1/\countL (List.drop x.1 t.parts) m x.2.1 x.2.2=countL t.parts m (1:Int) (0:Int)→if decide ((↑x.1:Int) < (↑(List.length t.parts):Int))=true then ((0:Int)<=(↑x.1:Int)/\(↑x.1:Int) < (↑(List.length t.parts):Int))/\if decide (m < x.2.1)=true then inR IntKind.i64 (x.2.2+(1:Int))/\True/\x.2.1=(countT t m).1/\x.2.2+(1:Int)=(countT t m).2/\True else inR IntKind.i64 (m - x.2.1)/\(szT (List.getD t.parts (Int.toNat (↑x.1:Int)) (dfl (Ty.st SN.term)))<=n/\(0:Int)<=m - x.2.1/\m - x.2.1<=(1000000:Int))/\inR IntKind.i64 (x.2.1+(countT (List.getD t.parts (Int.toNat (↑x.1:Int)) (dfl (Ty.st SN.term))) (m - x.2.1)).1)/\inR IntKind.i64 ((↑x.1:Int)+(1:Int))/\∃(y:Nat × Int × Int),(y.1<=List.length t.parts/\(1:Int)<=y.2.1/\y.2.1<=m+(1:Int)/\(0:Int)<=y.2.2/\y.2.2+(1:Int)<=y.2.1/\countL (List.drop y.1 t.parts) m y.2.1 y.2.2=countL t.parts m (1:Int) (0:Int))/\List.length t.parts - y.1 < List.length t.parts - x.1/\x.2.1+(countT (List.getD t.parts (Int.toNat (↑x.1:Int)) (dfl (Ty.st SN.term))) (m - x.2.1)).1=y.2.1/\max x.2.2 (countT (List.getD t.parts (Int.toNat (↑x.1:Int)) (dfl (Ty.st SN.term))) (m - x.2.1)).2=y.2.2/\(↑x.1:Int)+(1:Int)=(↑y.1:Int)/\t=t/\m=m/\(0:Int)=(0:Int)/\(0:Int)=(0:Int)/\t.parts=t.parts/\(↑(List.length t.parts):Int)=(↑(List.length t.parts):Int)/\t=t/\True else inR IntKind.i64 (x.2.2+(1:Int))/\True/\x.2.1=(countT t m).1/\x.2.2+(1:Int)=(countT t m).2/\True:=by
 have ln:=hs.term_parts.len
 rw [xY]
 refine ⟨⟨(0,1,0),⟨Nat.zero_le _,by decide,by show (1:Int)<=m+1;omega,by decide,by decide,rfl⟩,rfl,rfl,rfl,?_⟩,?_⟩
 ·exact Xr
 rintro ⟨k,a,d⟩ ⟨h1,h2,h3,h4,h5,h6⟩
 simp only [Int.toNat_natCast] at h1 h2 h3 h4 h5 h6 ⊢
 refine ab (fun h=>?_) (fun h=>?_)
 ·replace h:=Xo h
  have hk:k < t.parts.length:=by omega
  rw [aH t.parts k (dfl (.st .term)) hk,countL] at h6
  refine ⟨by omega,ab (fun c=>?_) (fun c=>?_)⟩
  ·replace c:=Xo c
   rw [if_pos c] at h6
   rw [←h6]
   refine ⟨bF (by omega) (by omega),?_⟩
   exact Xr
  ·replace c:¬m < a:=fun e=>c (Xd e)
   rw [if_neg c] at h6
   have hm:=szT_mem (getD_mem t.parts k (dfl (.st .term)) hk)
   have he:=szT_eq t
   have hb:=countT_bound (t.parts.getD k (dfl (.st .term))) (m - a) (by omega)
   refine ⟨bF (by omega) (by omega),⟨by omega,by omega,by omega⟩,bF (by omega) (by omega),bc hk ln,(k+1,_,_),⟨by show k+1<=_;omega,?_,?_,?_,?_,h6⟩,by show _ - (k+1) < _;omega,rfl,rfl,by show _=((k+1:Nat):Int);omega,?_⟩
   ·show (1:Int)<=a+_;omega
   ·show a+_<=m+1;omega
   ·show (0:Int)<=max d _;omega
   ·show max d _+1<=a+_;omega
   exact Xr
 ·replace h:¬((k:Int) < (t.parts.length:Int)):=fun e=>h (Xd e)
  have e:k=t.parts.length:=by omega
  subst e
  rw [List.drop_length,countL] at h6
  rw [←h6]
  refine ⟨bF (by omega) (by omega),?_⟩
  exact Xr
theorem vC  (x:Str)  :
  True/\(!aY x)=!aY x/\True:=by
 exact ⟨trivial,by trivial,trivial⟩
theorem vD  (l:List Str)  (hl:Wf (.lst .str) l) :
  (∃(x:Nat),(x<=List.length l/\bp aY (List.drop x l) x=bp aY l (0:Nat))/\(0:Int)=(↑x:Int)/\l=l/\(↑(List.length l):Int)=(↑(List.length l):Int)/\True)/\∀(x:Nat),x<=List.length l/\bp aY (List.drop x l) x=bp aY l (0:Nat)→if decide ((↑x:Int) < (↑(List.length l):Int))=true then ((0:Int)<=(↑x:Int)/\(↑x:Int) < (↑(List.length l):Int))/\if (!aY (List.getD l (Int.toNat (↑x:Int)) (dfl Ty.str)))=true then True/\(↑x:Int)=bp aY l (0:Nat)/\True else inR IntKind.i64 ((↑x:Int)+(1:Int))/\∃(y:Nat),(y<=List.length l/\bp aY (List.drop y l) y=bp aY l (0:Nat))/\List.length l - y < List.length l - x/\(↑x:Int)+(1:Int)=(↑y:Int)/\l=l/\(↑(List.length l):Int)=(↑(List.length l):Int)/\True else True/\(-1:Int)=bp aY l (0:Nat)/\True:=by
 have ln:=hl.len
 simp only [Int.toNat_natCast]
 refine ⟨⟨0,⟨Nat.zero_le _,by simp⟩,rfl,by trivial,by trivial,trivial⟩,?_⟩
 rintro k ⟨h1,h2⟩
 refine ab (fun h=>?_) (fun h=>?_)
 ·replace h:=Xo h
  have hk:k < l.length:=by omega
  rw [aH l k (dfl .str) hk,bp] at h2
  refine ⟨by omega,ab (fun c=>?_) (fun c=>?_)⟩
  ·have c:aY (l.getD k (dfl .str))=false:=by simpa using c
   rw [c,if_neg Bool.false_ne_true] at h2
   rw [←h2]
   exact ⟨trivial,rfl,trivial⟩
  ·have c:aY (l.getD k (dfl .str))=true:=by simpa using c
   rw [if_pos c] at h2
   refine ⟨bc hk ln,k+1,⟨by omega,h2⟩,by omega,by omega,by trivial,by trivial,trivial⟩
 ·replace h:¬((k:Int) < (l.length:Int)):=fun e=>h (Xd e)
  have e:k=l.length:=by omega
  subst e
  rw [List.drop_length,bp] at h2
  rw [←h2]
  exact ⟨trivial,rfl,trivial⟩
theorem vE  (l:List Str)  :
  True/\decide ((0:Int)<=bp aY l (0:Nat))=!List.all l aY/\True:=by
 exact ⟨trivial,gM aY l 0,trivial⟩
theorem AI  (l:List Str)  :
  True/\(!!List.all l aY)=List.all l aY/\True:=by
 exact ⟨trivial,Bool.not_not _,trivial⟩
theorem AJ (l:List Str) (ho:l.length *16<=140737488355328) :
  List.length l *(16:Nat)<=(140737488355328:Nat)/\if List.all l aY=true then List.length (List.mergeSort l fun (x y:Str) ↦decide (x<=y))=List.length (List.mergeSort l fun (x y:Str) ↦decide (x<=y))/\True/\decide ((↑(List.length (Lib.compact (List.mergeSort l fun (x y:Str) ↦decide (x<=y)))):Int)=(↑(List.length l):Int))=(List.all l aY && decide (List.Nodup l))/\True else True/\false=(List.all l aY && decide (List.Nodup l))/\True:=by
 have hc:=iZ l
 unfold ed at hc
 refine ⟨ho,ab (fun h=>?_) (fun h=>?_)⟩
 ·refine ⟨by trivial,trivial,?_,trivial⟩
  rw [h,Bool.true_and,decide_eq_decide,←hc]
  omega
 ·have h:l.all aY=false:=by simpa using h
  exact ⟨trivial,by rw [h];rfl,trivial⟩
theorem vF (n:Nat) (x:Shape)  (ho:sz x<=n) :
  sz x<=n/\True/\(!allS bk x)=!allS bk x/\True:=by
 exact ⟨ho,trivial,by trivial,trivial⟩
theorem vG (n:Nat) (l:List Shape)  (hl:Wf (.lst (.st .shape)) l) (ho:∀x∈l,sz x<=n) :
  (∃(x:Nat),(x<=List.length l/\bp (allS bk) (List.drop x l) x=bp (allS bk) l (0:Nat))/\(0:Int)=(↑x:Int)/\l=l/\(↑(List.length l):Int)=(↑(List.length l):Int)/\True)/\∀(x:Nat),x<=List.length l/\bp (allS bk) (List.drop x l) x=bp (allS bk) l (0:Nat)→if decide ((↑x:Int) < (↑(List.length l):Int))=true then ((0:Int)<=(↑x:Int)/\(↑x:Int) < (↑(List.length l):Int))/\sz (List.getD l (Int.toNat (↑x:Int)) (dfl (Ty.st SN.shape)))<=n/\if (!allS bk (List.getD l (Int.toNat (↑x:Int)) (dfl (Ty.st SN.shape))))=true then True/\(↑x:Int)=bp (allS bk) l (0:Nat)/\True else inR IntKind.i64 ((↑x:Int)+(1:Int))/\∃(y:Nat),(y<=List.length l/\bp (allS bk) (List.drop y l) y=bp (allS bk) l (0:Nat))/\List.length l - y < List.length l - x/\(↑x:Int)+(1:Int)=(↑y:Int)/\l=l/\(↑(List.length l):Int)=(↑(List.length l):Int)/\True else True/\(-1:Int)=bp (allS bk) l (0:Nat)/\True:=by
 have ln:=hl.len
 simp only [Int.toNat_natCast]
 refine ⟨⟨0,⟨Nat.zero_le _,by simp⟩,rfl,by trivial,by trivial,trivial⟩,?_⟩
 rintro k ⟨h1,h2⟩
 refine ab (fun h=>?_) (fun h=>?_)
 ·replace h:=Xo h
  have hk:k < l.length:=by omega
  rw [aH l k (dfl (.st .shape)) hk,bp] at h2
  refine ⟨by omega,ho _ (getD_mem l k _ hk),ab (fun c=>?_) (fun c=>?_)⟩
  ·have c:(allS bk) (l.getD k (dfl (.st .shape)))=false:=by simpa using c
   rw [c,if_neg Bool.false_ne_true] at h2
   rw [←h2]
   exact ⟨trivial,rfl,trivial⟩
  ·have c:(allS bk) (l.getD k (dfl (.st .shape)))=true:=by simpa using c
   rw [if_pos c] at h2
   refine ⟨bc hk ln,k+1,⟨by omega,h2⟩,by omega,by omega,by trivial,by trivial,trivial⟩
 ·replace h:¬((k:Int) < (l.length:Int)):=fun e=>h (Xd e)
  have e:k=l.length:=by omega
  subst e
  rw [List.drop_length,bp] at h2
  rw [←h2]
  exact ⟨trivial,rfl,trivial⟩
theorem vH (n:Nat) (l:List Shape)  (ho:∀x∈l,sz x<=n) :
  (∀(x:Shape),x∈l→sz x<=n)/\True/\decide ((0:Int)<=bp (allS bk) l (0:Nat))=!List.all l (allS bk)/\True:=by
 exact ⟨ho,trivial,gM (allS bk) l 0,trivial⟩
theorem AK (n:Nat) (l:List Shape)  (ho:∀x∈l,sz x<=n) :
  (∀(x:Shape),x∈l→sz x<=n)/\True/\(!!List.all l (allS bk))=List.all l (allS bk)/\True:=by
 exact ⟨ho,trivial,Bool.not_not _,trivial⟩
theorem C7 (n:Nat) (s:Shape) (ho:sz s<=n+1) :
  if (!decide (s.kind=(10:Int)))=true then (∀(x:Shape),x∈s.parts→sz x<=n)/\True/\List.all s.parts (allS bk)=allS bk s/\True else True/\false=allS bk s/\True:=by
 have e0:allS bk s=(bk s && s.parts.all (allS bk)):=by rw [kz,sL]
 have h0:=j6 s
 have hm:∀x∈s.parts,sz x<=n:=fun x hx=>by have:=eo hx;omega
 rw [e0]
 refine ab (fun h=>?_) (fun h=>?_)
 ·have h:bk s=true:=h
  rw [h,Bool.true_and]
  exact ⟨hm,trivial,rfl,trivial⟩
 ·have h:bk s=false:=by simpa [bk] using h
  rw [h]
  exact ⟨trivial,rfl,trivial⟩
theorem yI (s:Shape)  :
  if decide (aF s=(0:Int))=true then sz s<=(400:Nat)/\True/\allS bk s=(decide (aF s=(0:Int)) && allS bk s)/\True else True/\false=(decide (aF s=(0:Int)) && allS bk s)/\True:=by
 refine ab (fun h=>?_) (fun h=>?_)
 ·have h:aF s=0:=by simpa using h
  refine ⟨?_,trivial,by simp [h],trivial⟩
  unfold aF at h
  by_cases c:400 < sz s
  ·rw [if_pos c] at h;exact absurd h (by decide)
  ·omega
 ·have h:¬aF s=0:=by simpa using h
  exact ⟨trivial,by simp [h],trivial⟩
theorem D0 (t:Trm)  :
  True/\(↑(List.length t.names):Int)=(↑(List.length t.names):Int)/\(↑(List.length t.vars):Int)=(↑(List.length t.vars):Int)/\(↑(List.length t.shapes):Int)=(↑(List.length t.shapes):Int)/\(↑(List.length t.parts):Int)=(↑(List.length t.parts):Int)/\True:=by
 exact Xr
theorem AM (s:Str) (hs:Wf .str s) :
  (∃(x:Nat),(x<=List.length s/\List.all s ew=List.all (List.drop x s) ew)/\(0:Int)=(↑x:Int)/\s=s/\bh s=bh s/\(↑(List.length (bh s)):Int)=(↑(List.length (bh s)):Int)/\True)/\∀(x:Nat),x<=List.length s/\List.all s ew=List.all (List.drop x s) ew→if decide ((↑x:Int) < (↑(List.length (bh s)):Int))=true then ((0:Int)<=(↑x:Int)/\(↑x:Int) < (↑(List.length (bh s)):Int))/\if decide (List.getD (bh s) (Int.toNat (↑x:Int)) (dfl (Ty.int IntKind.u8)) < (32:Int))=true then if (!decide (List.getD (bh s) (Int.toNat (↑x:Int)) (dfl (Ty.int IntKind.u8))=(10:Int)))=true then if (!decide (List.getD (bh s) (Int.toNat (↑x:Int)) (dfl (Ty.int IntKind.u8))=(9:Int)))=true then True/\false=oh s/\True else inR IntKind.i64 ((↑x:Int)+(1:Int))/\∃(y:Nat),(y<=List.length s/\List.all s ew=List.all (List.drop y s) ew)/\List.length s - y < List.length s - x/\(↑x:Int)+(1:Int)=(↑y:Int)/\s=s/\bh s=bh s/\(↑(List.length (bh s)):Int)=(↑(List.length (bh s)):Int)/\True else inR IntKind.i64 ((↑x:Int)+(1:Int))/\∃(y:Nat),(y<=List.length s/\List.all s ew=List.all (List.drop y s) ew)/\List.length s - y < List.length s - x/\(↑x:Int)+(1:Int)=(↑y:Int)/\s=s/\bh s=bh s/\(↑(List.length (bh s)):Int)=(↑(List.length (bh s)):Int)/\True else inR IntKind.i64 ((↑x:Int)+(1:Int))/\∃(y:Nat),(y<=List.length s/\List.all s ew=List.all (List.drop y s) ew)/\List.length s - y < List.length s - x/\(↑x:Int)+(1:Int)=(↑y:Int)/\s=s/\bh s=bh s/\(↑(List.length (bh s)):Int)=(↑(List.length (bh s)):Int)/\True else True/\Option.isNone (nW s)=oh s/\True:=by
 have ln:=hs.str
 have hbl:(bh s).length=s.length:=List.length_map _
 simp only [hbl,Int.toNat_natCast]
 refine ⟨⟨0,⟨Nat.zero_le _,rfl⟩,?_⟩,?_⟩
 ·exact Xr
 rintro k ⟨h1,h2⟩
 refine ab (fun h=>?_) (fun h=>?_)
 ·have hk:k < s.length:=by have:=Xo h;omega
  rw [aH s k 0 hk,List.all_cons] at h2
  have hq:=yi (s.getD k 0)
  simp only [sV s k hk]
  have yes:¬(bI (s.getD k 0) < 32/\bI (s.getD k 0)≠10/\bI (s.getD k 0)≠9)→s.all ew=(s.drop (k+1)).all ew:=fun e=>by
   have:ew (s.getD k 0)=true:=by
    cases hh:ew (s.getD k 0) with
    | true=>rfl
    | false=>exact absurd (hq.1 hh) e
   rw [h2,this,Bool.true_and]
  refine ⟨⟨by omega,by omega⟩,?_⟩
  repeat' (refine ab (fun _=>?_) (fun _=>?_))
  all_goals (simp only [decide_eq_true_eq,Bool.not_eq_true',decide_eq_false_iff_not] at *)
  all_goals first
   | (refine ⟨trivial,?_,trivial⟩;unfold oh;rw [h2,hq.2 (by omega),Bool.false_and,Bool.false_and])
   | (refine ⟨bc hk ln,k+1,⟨by omega,yes (by omega)⟩,by omega,by omega,?_⟩;exact Xr)
 ·have hk:k=s.length:=by
   have:¬((k:Int) < (s.length:Int)):=fun e=>h (Xd e)
   omega
  refine ⟨trivial,?_,trivial⟩
  unfold oh
  rw [h2,hk,List.drop_length]
  rfl
theorem tn  (x:Shape)  :
  True/\(!(decide (aF x=(0:Int)) && allS bk x))=!bN x/\True:=by
 exact ⟨trivial,by trivial,trivial⟩
theorem tp  (l:List Shape)  (hl:Wf (.lst (.st .shape)) l) :
  (∃(x:Nat),(x<=List.length l/\bp bN (List.drop x l) x=bp bN l (0:Nat))/\(0:Int)=(↑x:Int)/\l=l/\(↑(List.length l):Int)=(↑(List.length l):Int)/\True)/\∀(x:Nat),x<=List.length l/\bp bN (List.drop x l) x=bp bN l (0:Nat)→if decide ((↑x:Int) < (↑(List.length l):Int))=true then ((0:Int)<=(↑x:Int)/\(↑x:Int) < (↑(List.length l):Int))/\if (!bN (List.getD l (Int.toNat (↑x:Int)) (dfl (Ty.st SN.shape))))=true then True/\(↑x:Int)=bp bN l (0:Nat)/\True else inR IntKind.i64 ((↑x:Int)+(1:Int))/\∃(y:Nat),(y<=List.length l/\bp bN (List.drop y l) y=bp bN l (0:Nat))/\List.length l - y < List.length l - x/\(↑x:Int)+(1:Int)=(↑y:Int)/\l=l/\(↑(List.length l):Int)=(↑(List.length l):Int)/\True else True/\(-1:Int)=bp bN l (0:Nat)/\True:=by
 have ln:=hl.len
 simp only [Int.toNat_natCast]
 refine ⟨⟨0,⟨Nat.zero_le _,by simp⟩,rfl,by trivial,by trivial,trivial⟩,?_⟩
 rintro k ⟨h1,h2⟩
 refine ab (fun h=>?_) (fun h=>?_)
 ·replace h:=Xo h
  have hk:k < l.length:=by omega
  rw [aH l k (dfl (.st .shape)) hk,bp] at h2
  refine ⟨by omega,ab (fun c=>?_) (fun c=>?_)⟩
  ·have c:bN (l.getD k (dfl (.st .shape)))=false:=by simpa using c
   rw [c,if_neg Bool.false_ne_true] at h2
   rw [←h2]
   exact ⟨trivial,rfl,trivial⟩
  ·have c:bN (l.getD k (dfl (.st .shape)))=true:=by simpa using c
   rw [if_pos c] at h2
   refine ⟨bc hk ln,k+1,⟨by omega,h2⟩,by omega,by omega,by trivial,by trivial,trivial⟩
 ·replace h:¬((k:Int) < (l.length:Int)):=fun e=>h (Xd e)
  have e:k=l.length:=by omega
  subst e
  rw [List.drop_length,bp] at h2
  rw [←h2]
  exact ⟨trivial,rfl,trivial⟩
theorem tq  (l:List Shape)  :
  True/\decide ((0:Int)<=bp bN l (0:Nat))=!List.all l bN/\True:=by
 exact ⟨trivial,gM bN l 0,trivial⟩
theorem yJ  (l:List Shape)  :
  True/\(!!List.all l bN)=List.all l bN/\True:=by
 exact ⟨trivial,Bool.not_not _,trivial⟩
theorem AN (t:Trm) (ht:Wf (.st .term) t) (ho:t.names.length<=8796093022208) :
  (if decide (t.pos < (0:Int))=true then true=!gj t/\t=t/\false=false/\t=t/\(↑(List.length t.names):Int)=(↑(List.length t.names):Int)/\(↑(List.length t.vars):Int)=(↑(List.length t.vars):Int)/\(↑(List.length t.shapes):Int)=(↑(List.length t.shapes):Int)/\(↑(List.length t.parts):Int)=(↑(List.length t.parts):Int)/\True else if (!decide (t.n=(0:Int)))=true then if (!decide (t.kind=(1:Int)))=true then true=!gj t/\t=t/\false=false/\t=t/\(↑(List.length t.names):Int)=(↑(List.length t.names):Int)/\(↑(List.length t.vars):Int)=(↑(List.length t.vars):Int)/\(↑(List.length t.shapes):Int)=(↑(List.length t.shapes):Int)/\(↑(List.length t.parts):Int)=(↑(List.length t.parts):Int)/\True else if (!decide (t.pkg=[]))=true then if (!decide (t.kind=(5:Int)))=true then true=!gj t/\t=t/\false=false/\t=t/\(↑(List.length t.names):Int)=(↑(List.length t.names):Int)/\(↑(List.length t.vars):Int)=(↑(List.length t.vars):Int)/\(↑(List.length t.shapes):Int)=(↑(List.length t.shapes):Int)/\(↑(List.length t.parts):Int)=(↑(List.length t.parts):Int)/\True else (!List.all t.shapes bN)=!gj t/\t=t/\false=false/\t=t/\(↑(List.length t.names):Int)=(↑(List.length t.names):Int)/\(↑(List.length t.vars):Int)=(↑(List.length t.vars):Int)/\(↑(List.length t.shapes):Int)=(↑(List.length t.shapes):Int)/\(↑(List.length t.parts):Int)=(↑(List.length t.parts):Int)/\True else (!List.all t.shapes bN)=!gj t/\t=t/\false=false/\t=t/\(↑(List.length t.names):Int)=(↑(List.length t.names):Int)/\(↑(List.length t.vars):Int)=(↑(List.length t.vars):Int)/\(↑(List.length t.shapes):Int)=(↑(List.length t.shapes):Int)/\(↑(List.length t.parts):Int)=(↑(List.length t.parts):Int)/\True else if (!decide (t.pkg=[]))=true then if (!decide (t.kind=(5:Int)))=true then true=!gj t/\t=t/\false=false/\t=t/\(↑(List.length t.names):Int)=(↑(List.length t.names):Int)/\(↑(List.length t.vars):Int)=(↑(List.length t.vars):Int)/\(↑(List.length t.shapes):Int)=(↑(List.length t.shapes):Int)/\(↑(List.length t.parts):Int)=(↑(List.length t.parts):Int)/\True else (!List.all t.shapes bN)=!gj t/\t=t/\false=false/\t=t/\(↑(List.length t.names):Int)=(↑(List.length t.names):Int)/\(↑(List.length t.vars):Int)=(↑(List.length t.vars):Int)/\(↑(List.length t.shapes):Int)=(↑(List.length t.shapes):Int)/\(↑(List.length t.parts):Int)=(↑(List.length t.parts):Int)/\True else (!List.all t.shapes bN)=!gj t/\t=t/\false=false/\t=t/\(↑(List.length t.names):Int)=(↑(List.length t.names):Int)/\(↑(List.length t.vars):Int)=(↑(List.length t.vars):Int)/\(↑(List.length t.shapes):Int)=(↑(List.length t.shapes):Int)/\(↑(List.length t.parts):Int)=(↑(List.length t.parts):Int)/\True)/\if (!gj t)=true then True/\false=aj t/\True else if decide (t.kind=(1:Int))=true then if decide (t.name=[])=true then if decide ((0:Int)<=t.n)=true then if decide (t.n<=(999999999999999:Int))=true then True/\(decide ((↑(List.length t.names):Int)=(0:Int)) && (decide ((↑(List.length t.vars):Int)=(0:Int)) && (decide ((↑(List.length t.shapes):Int)=(0:Int)) && (decide ((↑(List.length t.parts):Int)=(0:Int)) && true))))=aj t/\True else True/\false=aj t/\True else True/\false=aj t/\True else True/\false=aj t/\True else if decide (t.kind=(2:Int))=true then if oh t.name=true then True/\(decide ((↑(List.length t.names):Int)=(0:Int)) && (decide ((↑(List.length t.vars):Int)=(0:Int)) && (decide ((↑(List.length t.shapes):Int)=(0:Int)) && (decide ((↑(List.length t.parts):Int)=(0:Int)) && true))))=aj t/\True else True/\false=aj t/\True else if decide (t.kind=(3:Int))=true
  then if decide (t.name=[])=true then True/\(decide ((↑(List.length t.names):Int)=(0:Int)) && (decide ((↑(List.length t.vars):Int)=(0:Int)) && (decide ((↑(List.length t.shapes):Int)=(0:Int)) && (decide ((↑(List.length t.parts):Int)=(0:Int)) && true))))=aj t/\True else True/\false=aj t/\True else if decide (t.kind=(4:Int))=true then if decide (t.name=[])=true then True/\(decide ((↑(List.length t.names):Int)=(0:Int)) && (decide ((↑(List.length t.vars):Int)=(0:Int)) && (decide ((↑(List.length t.shapes):Int)=(0:Int)) && (decide ((↑(List.length t.parts):Int)=(0:Int)) && true))))=aj t/\True else True/\false=aj t/\True else if decide (t.kind=(5:Int))=true then if aY t.name=true then if decide (t.pkg=[])=true then True/\(decide ((↑(List.length t.names):Int)=(0:Int)) && (decide ((↑(List.length t.vars):Int)=(0:Int)) && (decide ((↑(List.length t.shapes):Int)=(0:Int)) && (decide ((↑(List.length t.parts):Int)=(0:Int)) && true))))=aj t/\True else if aY t.pkg=true then True/\(decide ((↑(List.length t.names):Int)=(0:Int)) && (decide ((↑(List.length t.vars):Int)=(0:Int)) && (decide ((↑(List.length t.shapes):Int)=(0:Int)) && (decide ((↑(List.length t.parts):Int)=(0:Int)) && true))))=aj t/\True else True/\false=aj t/\True else True/\false=aj t/\True else if decide (t.kind=(6:Int))=true then if decide (t.name=[])=true then if decide ((↑(List.length t.names):Int)<=(4096:Int))=true then List.length t.names *(16:Nat)<=(140737488355328:Nat)/\if (List.all t.names aY && decide (List.Nodup t.names))=true then True/\(decide ((↑(List.length t.names):Int)=(↑(List.length t.names):Int)) && (decide ((↑(List.length t.vars):Int)=(0:Int)) && (decide ((↑(List.length t.shapes):Int)=(↑(List.length t.names):Int)) && (decide ((↑(List.length t.parts):Int)=(1:Int)) && true))))=aj t/\True else True/\false=aj t/\True else True/\false=aj t/\True else True/\false=aj t/\True else if decide (t.kind=(7:Int))=true then if decide (t.name=[])=true then if decide ((0:Int) < (↑(List.length t.parts):Int))=true then True/\(decide ((↑(List.length t.names):Int)=(0:Int)) && (decide ((↑(List.length t.vars):Int)=(0:Int)) && (decide ((↑(List.length t.shapes):Int)=(0:Int)) && (decide ((↑(List.length t.parts):Int)=(↑(List.length t.parts):Int)) && true))))=aj t/\True else True/\false=aj t/\True else True/\false=aj t/\True else if decide (t.kind=(8:Int))=true then if decide (t.name=[])=true then List.length t.names *(16:Nat)<=(140737488355328:Nat)/\if (List.all t.names aY && decide (List.Nodup t.names))=true then True/\(decide ((↑(List.length t.names):Int)=(↑(List.length t.names):Int)) && (decide ((↑(List.length t.vars):Int)=(0:Int)) && (decide ((↑(List.length t.shapes):Int)=(0:Int)) && (decide ((↑(List.length t.parts):Int)=(↑(List.length t.names):Int)) && true))))=aj t/\True else True/\false=aj t/\True else True/\false=aj t/\True else if decide (t.kind=(9:Int))=true then if aY t.name=true then True/\(decide ((↑(List.length t.names):Int)=(0:Int)) && (decide ((↑(List.length t.vars):Int)=(0:Int)) && (decide ((↑(List.length t.shapes):Int)=(0:Int)) && (decide ((↑(List.length t.parts):Int)=(1:Int)) && true))))=aj t/\True else True/\false=aj t/\True else if decide (t.kind=(10:Int))=true then if aY t.name=true then True/\(decide ((↑(List.length t.names):Int)=(0:Int)) && (decide ((↑(List.length t.vars):Int)=(0:Int)) && (decide ((↑(List.length t.shapes):Int)=(0:Int)) && (decide ((↑(List.length t.parts):Int)=(1:Int)) && true))))=aj t/\True else True/\false=aj t/\True else if decide (t.kind=(11:Int))=true
  then if decide (t.name=[])=true then True/\(decide ((↑(List.length t.names):Int)=(0:Int)) && (decide ((↑(List.length t.vars):Int)=(0:Int)) && (decide ((↑(List.length t.shapes):Int)=(1:Int)) && (decide ((↑(List.length t.parts):Int)=(↑(List.length t.parts):Int)) && true))))=aj t/\True else True/\false=aj t/\True else if decide (t.kind=(12:Int))=true then if decide (t.name=[])=true then True/\(decide ((↑(List.length t.names):Int)=(0:Int)) && (decide ((↑(List.length t.vars):Int)=(0:Int)) && (decide ((↑(List.length t.shapes):Int)=(1:Int)) && (decide ((↑(List.length t.parts):Int)=(3:Int)) && true))))=aj t/\True else True/\false=aj t/\True else if decide (t.kind=(13:Int))=true then if decide (t.name=[])=true then List.length t.names *(16:Nat)<=(140737488355328:Nat)/\if (List.all t.names aY && decide (List.Nodup t.names))=true then if List.all t.vars aY=true then inR IntKind.i64 ((↑(List.length t.names):Int)+(1:Int))/\inR IntKind.i64 ((↑(List.length t.names):Int)+(1:Int))/\True/\(decide ((↑(List.length t.names):Int)=(↑(List.length t.names):Int)) && (decide ((↑(List.length t.vars):Int)=(↑(List.length t.names):Int)) && (decide ((↑(List.length t.shapes):Int)=(↑(List.length t.names):Int)+(1:Int)) && (decide ((↑(List.length t.parts):Int)=(↑(List.length t.names):Int)+(1:Int)) && true))))=aj t/\True else True/\false=aj t/\True else True/\false=aj t/\True else True/\false=aj t/\True else if decide (t.kind=(14:Int))=true then if aY t.name=true then True/\(decide ((↑(List.length t.names):Int)=(0:Int)) && (decide ((↑(List.length t.vars):Int)=(0:Int)) && (decide ((↑(List.length t.shapes):Int)=(0:Int)) && (decide ((↑(List.length t.parts):Int)=(2:Int)) && true))))=aj t/\True else True/\false=aj t/\True else if decide (t.kind=(15:Int))=true then if decide (t.name=[])=true then True/\(decide ((↑(List.length t.names):Int)=(0:Int)) && (decide ((↑(List.length t.vars):Int)=(0:Int)) && (decide ((↑(List.length t.shapes):Int)=(1:Int)) && (decide ((↑(List.length t.parts):Int)=(1:Int)) && true))))=aj t/\True else True/\false=aj t/\True else if decide (t.kind=(16:Int))=true then if ek t.name=true then True/\(decide ((↑(List.length t.names):Int)=(0:Int)) && (decide ((↑(List.length t.vars):Int)=(0:Int)) && (decide ((↑(List.length t.shapes):Int)=(0:Int)) && (decide ((↑(List.length t.parts):Int)=(1:Int)) && true))))=aj t/\True else True/\false=aj t/\True else if decide (t.kind=(17:Int))=true then if ek t.name=true then True/\(decide ((↑(List.length t.names):Int)=(0:Int)) && (decide ((↑(List.length t.vars):Int)=(0:Int)) && (decide ((↑(List.length t.shapes):Int)=(0:Int)) && (decide ((↑(List.length t.parts):Int)=(1:Int)) && true))))=aj t/\True else True/\false=aj t/\True else True/\false=aj t/\True:=by
 refine ⟨?_,ab (fun h=>?_) (fun h=>?_)⟩
 ·unfold gj
  repeat' (refine ab (fun _=>?_) (fun _=>?_))
  all_goals simp_all
 ·have h:gj t=false:=by simpa using h
  unfold aj
  rw [h]
  exact ⟨trivial,rfl,trivial⟩
 have h:gj t=true:=by simpa using h
 have e0:aj t=wV t:=by unfold aj;rw [h,Bool.true_and]
 rw [e0]
 clear h e0
 unfold wV fj r6
 simp only [dnZ,dn1,dn2,dn3,dnN,dnS,dnL,dnP]
 generalize t.names.all aY=na
 generalize t.vars.all aY=va
 repeat' (first | refine ab (fun _=>?_) (fun _=>?_) | refine ⟨by omega,?_⟩ | refine ⟨bF (by omega) (by omega),?_⟩ | fail)
 all_goals (refine ⟨trivial,?_,trivial⟩;try simp_all)
 all_goals first | (simp only [Bool.and_assoc];done) | (intros;omega)
theorem tt (n:Nat) (x:Trm)  (ho:szT x<=n/\fewT x=true) :
  (szT x<=n/\fewT x=true)/\True/\(!allT aj x)=!allT aj x/\True:=by
 exact ⟨ho,trivial,by trivial,trivial⟩
theorem tu (n:Nat) (l:List Trm)  (hl:Wf (.lst (.st .term)) l) (ho:∀x∈l,szT x<=n/\fewT x=true) :
  (∃(x:Nat),(x<=List.length l/\bp (allT aj) (List.drop x l) x=bp (allT aj) l (0:Nat))/\(0:Int)=(↑x:Int)/\l=l/\(↑(List.length l):Int)=(↑(List.length l):Int)/\True)/\∀(x:Nat),x<=List.length l/\bp (allT aj) (List.drop x l) x=bp (allT aj) l (0:Nat)→if decide ((↑x:Int) < (↑(List.length l):Int))=true then ((0:Int)<=(↑x:Int)/\(↑x:Int) < (↑(List.length l):Int))/\(szT (List.getD l (Int.toNat (↑x:Int)) (dfl (Ty.st SN.term)))<=n/\fewT (List.getD l (Int.toNat (↑x:Int)) (dfl (Ty.st SN.term)))=true)/\if (!allT aj (List.getD l (Int.toNat (↑x:Int)) (dfl (Ty.st SN.term))))=true then True/\(↑x:Int)=bp (allT aj) l (0:Nat)/\True else inR IntKind.i64 ((↑x:Int)+(1:Int))/\∃(y:Nat),(y<=List.length l/\bp (allT aj) (List.drop y l) y=bp (allT aj) l (0:Nat))/\List.length l - y < List.length l - x/\(↑x:Int)+(1:Int)=(↑y:Int)/\l=l/\(↑(List.length l):Int)=(↑(List.length l):Int)/\True else True/\(-1:Int)=bp (allT aj) l (0:Nat)/\True:=by
 have ln:=hl.len
 simp only [Int.toNat_natCast]
 refine ⟨⟨0,⟨Nat.zero_le _,by simp⟩,rfl,by trivial,by trivial,trivial⟩,?_⟩
 rintro k ⟨h1,h2⟩
 refine ab (fun h=>?_) (fun h=>?_)
 ·replace h:=Xo h
  have hk:k < l.length:=by omega
  rw [aH l k (dfl (.st .term)) hk,bp] at h2
  refine ⟨by omega,ho _ (getD_mem l k _ hk),ab (fun c=>?_) (fun c=>?_)⟩
  ·have c:(allT aj) (l.getD k (dfl (.st .term)))=false:=by simpa using c
   rw [c,if_neg Bool.false_ne_true] at h2
   rw [←h2]
   exact ⟨trivial,rfl,trivial⟩
  ·have c:(allT aj) (l.getD k (dfl (.st .term)))=true:=by simpa using c
   rw [if_pos c] at h2
   refine ⟨bc hk ln,k+1,⟨by omega,h2⟩,by omega,by omega,by trivial,by trivial,trivial⟩
 ·replace h:¬((k:Int) < (l.length:Int)):=fun e=>h (Xd e)
  have e:k=l.length:=by omega
  subst e
  rw [List.drop_length,bp] at h2
  rw [←h2]
  exact ⟨trivial,rfl,trivial⟩
theorem tv (n:Nat) (l:List Trm)  (ho:∀x∈l,szT x<=n/\fewT x=true) :
  (∀(x:Trm),x∈l→szT x<=n/\fewT x=true)/\True/\decide ((0:Int)<=bp (allT aj) l (0:Nat))=!List.all l (allT aj)/\True:=by
 exact ⟨ho,trivial,gM (allT aj) l 0,trivial⟩
theorem yK (n:Nat) (l:List Trm)  (ho:∀x∈l,szT x<=n/\fewT x=true) :
  (∀(x:Trm),x∈l→szT x<=n/\fewT x=true)/\True/\(!!List.all l (allT aj))=List.all l (allT aj)/\True:=by
 exact ⟨ho,trivial,Bool.not_not _,trivial⟩
theorem yL (n:Nat) (t:Trm) (ho:szT t<=n+1/\fewT t=true) :
  List.length t.names<=(8796093022208:Nat)/\if aj t=true then (∀(x:Trm),x∈t.parts→szT x<=n/\fewT x=true)/\True/\List.all t.parts (allT aj)=allT aj t/\True else True/\false=allT aj t/\True:=by
 obtain ⟨h1,h2⟩:=ho
 have e0:allT aj t=(aj t && t.parts.all (allT aj)):=by rw [allT_eq,allTL_all]
 have h0:=szT_eq t
 rw [e0]
 refine ⟨vk h2,ab (fun h=>?_) (fun h=>?_)⟩
 ·rw [h,Bool.true_and]
  exact ⟨fun x hx=>⟨by have:=szT_mem hx;omega,yh h2 hx⟩,trivial,rfl,trivial⟩
 ·have h:aj t=false:=by simpa using h
  rw [h]
  exact ⟨trivial,rfl,trivial⟩
theorem yM (x:Trm) (ho:fewT x=true) :
  (szT x<=szT x/\(0:Int)<=(4096:Int)/\(4096:Int)<=(1000000:Int))/\if decide ((4096:Int) < (countT x (4096:Int)).1)=true then True/\(3:Int)=di x/\True else if decide ((40:Int) < (countT x (4096:Int)).2)=true then True/\(91:Int)=di x/\True else (szT x<=szT x/\fewT x=true)/\if (!allT aj x)=true then True/\(80:Int)=di x/\True else True/\(0:Int)=di x/\True:=by
 refine ⟨⟨Nat.le_refl _,by omega,by omega⟩,ab (fun h=>?_) (fun h=>?_)⟩
 ·replace h:=Xo h
  unfold di
  rw [if_pos h]
  exact ⟨trivial,rfl,trivial⟩
 have h:¬_:=fun e=>h (Xd e)
 have e1:di x=if 40 < (countT x 4096).2 then 91 else if allT aj x=true then 0 else 80:=by unfold di;rw [if_neg h]
 refine ab (fun k=>?_) (fun k=>?_)
 ·rw [if_pos (Xo k)] at e1
  rw [e1]
  exact ⟨trivial,rfl,trivial⟩
 rw [if_neg (fun e=>k (Xd e))] at e1
 refine ⟨⟨Nat.le_refl _,ho⟩,ab (fun j=>?_) (fun j=>?_)⟩
 ·have j:allT aj x=false:=by simpa using j
  rw [j,if_neg Bool.false_ne_true] at e1
  rw [e1]
  exact ⟨trivial,rfl,trivial⟩
 ·have j:allT aj x=true:=by simpa using j
  rw [if_pos j] at e1
  rw [e1]
  exact ⟨trivial,rfl,trivial⟩
theorem AO (n:Nat) (s:Trm) (m:Int) (hs:Wf (.st .term) s) (ho:szT s<=n+1/\0<=m/\m<=1000000) :
  (∃(x:Nat × Int),(x.1<=List.length s.parts/\(1:Int)<=x.2/\x.2<=m+(1:Int)/\sizeTL (List.drop x.1 s.parts) x.2 m=dm s m)/\(1:Int)=x.2/\(0:Int)=(↑x.1:Int)/\s=s/\m=m/\(0:Int)=(0:Int)/\s=s/\True)/\∀(x:Nat × Int),x.1<=List.length s.parts/\(1:Int)<=x.2/\x.2<=m+(1:Int)/\sizeTL (List.drop x.1 s.parts) x.2 m=dm s m→if decide ((↑x.1:Int) < (↑(List.length s.parts):Int))=true then if decide (x.2<=m)=true then ((0:Int)<=(↑x.1:Int)/\(↑x.1:Int) < (↑(List.length s.parts):Int))/\inR IntKind.i64 (m - x.2)/\(szT (List.getD s.parts (Int.toNat (↑x.1:Int)) (dfl (Ty.st SN.term)))<=n/\(0:Int)<=m - x.2/\m - x.2<=(1000000:Int))/\inR IntKind.i64 (x.2+dm (List.getD s.parts (Int.toNat (↑x.1:Int)) (dfl (Ty.st SN.term))) (m - x.2))/\inR IntKind.i64 ((↑x.1:Int)+(1:Int))/\∃(y:Nat × Int),(y.1<=List.length s.parts/\(1:Int)<=y.2/\y.2<=m+(1:Int)/\sizeTL (List.drop y.1 s.parts) y.2 m=dm s m)/\List.length s.parts - y.1 < List.length s.parts - x.1/\x.2+dm (List.getD s.parts (Int.toNat (↑x.1:Int)) (dfl (Ty.st SN.term))) (m - x.2)=y.2/\(↑x.1:Int)+(1:Int)=(↑y.1:Int)/\s=s/\m=m/\(0:Int)=(0:Int)/\s=s/\True else True/\x.2=dm s m/\True else True/\x.2=dm s m/\True:=by
 have ln:=hs.term_parts.len
 have hz:=szT_eq s
 obtain ⟨ho1,ho2,ho3⟩:=ho
 have h0:sizeTL s.parts 1 m=dm s m:=by cases s;rw [dm]
 simp only [Int.toNat_natCast,eq_self,true_and,and_true]
 refine ⟨⟨(0,1),⟨Nat.zero_le _,by omega,by omega,h0⟩,rfl,rfl⟩,?_⟩
 rintro ⟨k,c⟩ ⟨h1,h2,h3,h4⟩
 simp only at h1 h2 h3 h4 ⊢
 refine ab (fun hk=>?_) (fun hk=>?_)
 ·replace hk:=Xo hk
  have hk:k < s.parts.length:=by omega
  have hm:=szT_mem (getD_mem s.parts k (dfl (.st .term)) hk)
  rw [aH s.parts k (dfl (.st .term)) hk] at h4
  simp only [sizeTL] at h4
  refine ab (fun hc=>?_) (fun hc=>?_)
  ·replace hc:=Xo hc
   rw [if_pos hc] at h4
   have hb:=sizeT_bd (s.parts.getD k (dfl (.st .term))) (m - c) (by omega)
   exact ⟨by omega,bF (by omega) (by omega),by omega,bF (by omega) (by omega),bc hk ln,(k+1,_),⟨by omega,by simp only;omega,by simp only;omega,h4⟩,by simp only;omega,rfl,rfl⟩
  ·rw [if_neg (fun e=>hc (Xd e))] at h4
   exact h4
 ·replace hk:¬((k:Int) < (s.parts.length:Int)):=fun e=>hk (Xd e)
  have e:k=s.parts.length:=by omega
  subst e
  rw [List.drop_length] at h4
  simp only [sizeTL] at h4
  exact h4
theorem yN (a b:Shape) (f:Bool)  :
  True/\(f ==decide (a.kind=(6:Int)))=decide (f=decide (a.kind=(6:Int)))/\True:=by
 exact ⟨trivial,rfl,trivial⟩
theorem AP   :
  True/\True:=by
 exact ⟨trivial,trivial⟩
theorem AQ (s:Shape) (m:Str) (hs:Wf (.st .shape) s) (ho:aq s=true) :
  if decide ((0:Int)<=bK s.names m (0:Int))=true then ((0:Int)<=bK s.names m (0:Int)/\bK s.names m (0:Int) < (↑(List.length s.parts):Int))/\True/\some (List.getD s.parts (Int.toNat (bK s.names m (0:Int))) (dfl (Ty.st SN.shape)))=aZ s m/\True else True/\aZ s m=none/\True:=by
 rcases Ay m (dfl (.st .shape)) ho with ⟨h1,h2⟩ | ⟨h1,h2,h3⟩
 ·refine ab (fun h=>absurd (Xo h) h1) (fun _=>⟨trivial,h2,trivial⟩)
 ·exact ab (fun _=>⟨⟨h1,h2⟩,trivial,h3.symm,trivial⟩) (fun h=>absurd (Xd h1) h)
theorem yO (m:Str) (s:Shape) (ho:aq s=true) :
  aq s=true/\True/\Option.isNone (aZ s m)=Option.isNone (aZ s m)/\s=s/\True:=by
 exact ⟨ho,trivial,rfl,rfl,trivial⟩
theorem AR (a b:Shape)  :
  if decide (aF a=(0:Int))=true then True/\decide (aF b=(0:Int))=(decide (aF a=(0:Int)) && decide (aF b=(0:Int)))/\True else True/\false=(decide (aF a=(0:Int)) && decide (aF b=(0:Int)))/\True:=by
 cases decide (aF a=0) <;> simp
theorem C8 (l:List Str) (s:Shape) (hl:Wf (.lst .str) l) (ho:aq s=true) :
  (∃(x:Nat),(x<=List.length l/\bp (fun (m:Str) ↦Option.isSome (aZ s m)) (List.drop x l) x=bp (fun (m:Str) ↦Option.isSome (aZ s m)) l (0:Nat))/\(0:Int)=(↑x:Int)/\l=l/\(↑(List.length l):Int)=(↑(List.length l):Int)/\s=s/\True)/\∀(x:Nat),x<=List.length l/\bp (fun (m:Str) ↦Option.isSome (aZ s m)) (List.drop x l) x=bp (fun (m:Str) ↦Option.isSome (aZ s m)) l (0:Nat)→if decide ((↑x:Int) < (↑(List.length l):Int))=true then ((0:Int)<=(↑x:Int)/\(↑x:Int) < (↑(List.length l):Int))/\aq s=true/\if Option.isNone (aZ s (List.getD l (Int.toNat (↑x:Int)) (dfl Ty.str)))=true then True/\(↑x:Int)=bp (fun (m:Str) ↦Option.isSome (aZ s m)) l (0:Nat)/\s=s/\True else inR IntKind.i64 ((↑x:Int)+(1:Int))/\∃(y:Nat),(y<=List.length l/\bp (fun (m:Str) ↦Option.isSome (aZ s m)) (List.drop y l) y=bp (fun (m:Str) ↦Option.isSome (aZ s m)) l (0:Nat))/\List.length l - y < List.length l - x/\(↑x:Int)+(1:Int)=(↑y:Int)/\l=l/\(↑(List.length l):Int)=(↑(List.length l):Int)/\s=s/\True else True/\(-1:Int)=bp (fun (m:Str) ↦Option.isSome (aZ s m)) l (0:Nat)/\s=s/\True:=by
 have ln:=hl.len
 simp only [Int.toNat_natCast,eq_self,true_and,and_true]
 refine ⟨⟨0,⟨Nat.zero_le _,by simp⟩,rfl⟩,?_⟩
 rintro k ⟨h1,h2⟩
 refine ab (fun h=>?_) (fun h=>?_)
 ·replace h:=Xo h
  have hk:k < l.length:=by omega
  rw [aH l k (dfl .str) hk,bp] at h2
  refine ⟨by omega,ho,ab (fun c=>?_) (fun c=>?_)⟩
  ·have c:(aZ s (l.getD k (dfl .str))).isSome=false:=by rw [Option.isNone_iff_eq_none] at c;rw [c];rfl
   rw [c,if_neg Bool.false_ne_true] at h2
   exact h2
  ·have c:(aZ s (l.getD k (dfl .str))).isSome=true:=by cases hp:aZ s (l.getD k (dfl .str)) with | none=>rw [hp] at c;exact absurd rfl c | some x=>rfl
   rw [if_pos c] at h2
   exact ⟨bc hk ln,k+1,⟨by omega,h2⟩,by omega,by omega⟩
 ·replace h:¬((k:Int) < (l.length:Int)):=fun e=>h (Xd e)
  have e:k=l.length:=by omega
  subst e
  rw [List.drop_length,bp] at h2
  exact h2
theorem C9 (l:List Str) (s:Shape) (ho:aq s=true) :
  aq s=true/\True/\(decide ((0:Int)<=bp (fun (m:Str) ↦Option.isSome (aZ s m)) l (0:Nat))=!List.all l fun (m:Str) ↦Option.isSome (aZ s m))/\s=s/\True:=by
 exact ⟨ho,trivial,gM _ l 0,rfl,trivial⟩
theorem AT (n:Nat) (a b:Shape) (ha:Wf (.st .shape) a) (hb:Wf (.st .shape) b) (hn:sz a+sz b<=n+1) (oa:allS aq a=true) (ob:allS aq b=true) :
  if decide (a.kind=(4:Int))=true then True/\true=aX (n+(1:Nat)) a b/\True else if decide (b.kind=(4:Int))=true then True/\true=aX (n+(1:Nat)) a b/\True else if (!decide (a.kind=b.kind))=true then True/\false=aX (n+(1:Nat)) a b/\True else if (!decide (a.pkg=b.pkg))=true then True/\false=aX (n+(1:Nat)) a b/\True else if (!decide (a.name=b.name))=true then True/\false=aX (n+(1:Nat)) a b/\True else (if decide (a.kind=(6:Int))=true then true=(decide (a.kind=(6:Int)) || decide (a.kind=(7:Int)))/\a=a/\b=b/\false=false/\false=false/\false=false/\a=a/\b=b/\True else decide (a.kind=(7:Int))=(decide (a.kind=(6:Int)) || decide (a.kind=(7:Int)))/\a=a/\b=b/\false=false/\false=false/\false=false/\a=a/\b=b/\True)/\if (decide (a.kind=(6:Int)) || decide (a.kind=(7:Int)))=true then (∃(x:Nat),(x<=List.length a.names/\dA (aX n) (decide (a.kind=(7:Int))) b (List.drop x a.names) (List.drop x a.parts)=dA (aX n) (decide (a.kind=(7:Int))) b a.names a.parts)/\(0:Int)=(↑x:Int)/\true=true/\a=a/\b=b/\false=false/\false=false/\a.names=a.names/\(↑(List.length a.names):Int)=(↑(List.length a.names):Int)/\a=a/\b=b/\True)/\∀(x:Nat),x<=List.length a.names/\dA (aX n) (decide (a.kind=(7:Int))) b (List.drop x a.names) (List.drop x a.parts)=dA (aX n) (decide (a.kind=(7:Int))) b a.names a.parts→if decide ((↑x:Int) < (↑(List.length a.names):Int))=true then ((0:Int)<=(↑x:Int)/\(↑x:Int) < (↑(List.length a.names):Int))/\aq b=true/\if Option.isNone (aZ b (List.getD a.names (Int.toNat (↑x:Int)) (dfl Ty.str)))=true then if (!decide (true=decide (a.kind=(6:Int))))=true then True/\false=aX (n+(1:Nat)) a b/\True else if Option.isSome (aZ b (List.getD a.names (Int.toNat (↑x:Int)) (dfl Ty.str)))=true then ((0:Int)<=(↑x:Int)/\(↑x:Int) < (↑(List.length a.parts):Int))/\Option.isSome (aZ b (List.getD a.names (Int.toNat (↑x:Int)) (dfl Ty.str)))=true/\(sz (List.getD a.parts (Int.toNat (↑x:Int)) (dfl (Ty.st SN.shape)))+sz (Option.getD (aZ b (List.getD a.names (Int.toNat (↑x:Int)) (dfl Ty.str))) (dfl (Ty.st SN.shape)))<=n/\allS aq (List.getD a.parts (Int.toNat (↑x:Int)) (dfl (Ty.st SN.shape)))=true/\allS aq (Option.getD (aZ b (List.getD a.names (Int.toNat (↑x:Int)) (dfl Ty.str))) (dfl (Ty.st SN.shape)))=true)/\if (!aX n (List.getD a.parts (Int.toNat (↑x:Int)) (dfl (Ty.st SN.shape))) (Option.getD (aZ b (List.getD a.names (Int.toNat (↑x:Int)) (dfl Ty.str))) (dfl (Ty.st SN.shape))))=true then True/\false=aX (n+(1:Nat)) a b/\True else inR IntKind.i64 ((↑x:Int)+(1:Int))/\∃(y:Nat),(y<=List.length a.names/\dA (aX n) (decide (a.kind=(7:Int))) b (List.drop y a.names) (List.drop y a.parts)=dA (aX n) (decide (a.kind=(7:Int))) b a.names a.parts)/\List.length a.names - y < List.length a.names - x/\(↑x:Int)+(1:Int)=(↑y:Int)/\true=true/\a=a/\b=b/\false=false/\false=false/\a.names=a.names/\(↑(List.length a.names):Int)=(↑(List.length a.names):Int)/\a=a/\b=b/\True else inR IntKind.i64 ((↑x:Int)+(1:Int))/\∃(y:Nat),(y<=List.length a.names/\dA (aX n) (decide (a.kind=(7:Int))) b (List.drop y a.names) (List.drop y a.parts)=dA (aX n) (decide (a.kind=(7:Int))) b a.names a.parts)/\List.length a.names - y < List.length a.names - x/\(↑x:Int)+(1:Int)=(↑y:Int)/\true=true/\a=a/\b=b/\false=false/\false=false/\a.names=a.names/\(↑(List.length a.names):Int)=(↑(List.length a.names):Int)/\a=a/\b=b/\True else if Option.isSome (aZ b (List.getD a.names (Int.toNat (↑x:Int)) (dfl Ty.str)))=true then ((0:Int)<=(↑x:Int)/\(↑x:Int) < (↑(List.length a.parts):Int))
  /\Option.isSome (aZ b (List.getD a.names (Int.toNat (↑x:Int)) (dfl Ty.str)))=true/\(sz (List.getD a.parts (Int.toNat (↑x:Int)) (dfl (Ty.st SN.shape)))+sz (Option.getD (aZ b (List.getD a.names (Int.toNat (↑x:Int)) (dfl Ty.str))) (dfl (Ty.st SN.shape)))<=n/\allS aq (List.getD a.parts (Int.toNat (↑x:Int)) (dfl (Ty.st SN.shape)))=true/\allS aq (Option.getD (aZ b (List.getD a.names (Int.toNat (↑x:Int)) (dfl Ty.str))) (dfl (Ty.st SN.shape)))=true)/\if (!aX n (List.getD a.parts (Int.toNat (↑x:Int)) (dfl (Ty.st SN.shape))) (Option.getD (aZ b (List.getD a.names (Int.toNat (↑x:Int)) (dfl Ty.str))) (dfl (Ty.st SN.shape))))=true then True/\false=aX (n+(1:Nat)) a b/\True else inR IntKind.i64 ((↑x:Int)+(1:Int))/\∃(y:Nat),(y<=List.length a.names/\dA (aX n) (decide (a.kind=(7:Int))) b (List.drop y a.names) (List.drop y a.parts)=dA (aX n) (decide (a.kind=(7:Int))) b a.names a.parts)/\List.length a.names - y < List.length a.names - x/\(↑x:Int)+(1:Int)=(↑y:Int)/\true=true/\a=a/\b=b/\false=false/\false=false/\a.names=a.names/\(↑(List.length a.names):Int)=(↑(List.length a.names):Int)/\a=a/\b=b/\True else inR IntKind.i64 ((↑x:Int)+(1:Int))/\∃(y:Nat),(y<=List.length a.names/\dA (aX n) (decide (a.kind=(7:Int))) b (List.drop y a.names) (List.drop y a.parts)=dA (aX n) (decide (a.kind=(7:Int))) b a.names a.parts)/\List.length a.names - y < List.length a.names - x/\(↑x:Int)+(1:Int)=(↑y:Int)/\true=true/\a=a/\b=b/\false=false/\false=false/\a.names=a.names/\(↑(List.length a.names):Int)=(↑(List.length a.names):Int)/\a=a/\b=b/\True else if decide (false=decide (b.kind=(6:Int)))=true then True/\true=aX (n+(1:Nat)) a b/\True else aq a=true/\True/\(!!List.all b.names fun (m:Str) ↦Option.isSome (aZ a m))=aX (n+(1:Nat)) a b/\True else if (!decide ((↑(List.length a.parts):Int)=(↑(List.length b.parts):Int)))=true then True/\false=aX (n+(1:Nat)) a b/\True else (∃(x:Nat),(x<=List.length a.parts/\aX (n+(1:Nat)) a b=iA (aX n) (decide (a.kind=(8:Int))) (List.drop x a.parts) (List.drop x b.parts))/\(0:Int)=(↑x:Int)/\false=false/\a=a/\b=b/\false=false/\false=false/\false=false/\(↑(List.length a.parts):Int)=(↑(List.length a.parts):Int)/\a=a/\b=b/\True)/\∀(x:Nat),x<=List.length a.parts/\aX (n+(1:Nat)) a b=iA (aX n) (decide (a.kind=(8:Int))) (List.drop x a.parts) (List.drop x b.parts)→if decide ((↑x:Int) < (↑(List.length a.parts):Int))=true then ((0:Int)<=(↑x:Int)/\(↑x:Int) < (↑(List.length a.parts):Int))/\((0:Int)<=(↑x:Int)/\(↑x:Int) < (↑(List.length b.parts):Int))/\if decide (a.kind=(8:Int))=true then inR IntKind.i64 ((↑(List.length a.parts):Int) - (1:Int))/\if decide ((↑x:Int) < (↑(List.length a.parts):Int) - (1:Int))=true then (sz (List.getD b.parts (Int.toNat (↑x:Int)) (dfl (Ty.st SN.shape)))+sz (List.getD a.parts (Int.toNat (↑x:Int)) (dfl (Ty.st SN.shape)))<=n/\allS aq (List.getD b.parts (Int.toNat (↑x:Int)) (dfl (Ty.st SN.shape)))=true/\allS aq (List.getD a.parts (Int.toNat (↑x:Int)) (dfl (Ty.st SN.shape)))=true)/\if (!aX n (List.getD b.parts (Int.toNat (↑x:Int)) (dfl (Ty.st SN.shape))) (List.getD a.parts (Int.toNat (↑x:Int)) (dfl (Ty.st SN.shape))))=true then True/\false=aX (n+(1:Nat)) a b/\True else inR IntKind.i64 ((↑x:Int)+(1:Int))/\∃(y:Nat),(y<=List.length a.parts/\aX (n+(1:Nat)) a b=iA (aX n) (decide (a.kind=(8:Int))) (List.drop y a.parts) (List.drop y b.parts))/\List.length a.parts - y < List.length a.parts - x/\(↑x:Int)+(1:Int)=(↑y:Int)/\false=false/\a=a/\b=b/\false=false/\false=false/\false=false
  /\(↑(List.length a.parts):Int)=(↑(List.length a.parts):Int)/\a=a/\b=b/\True else (sz (List.getD a.parts (Int.toNat (↑x:Int)) (dfl (Ty.st SN.shape)))+sz (List.getD b.parts (Int.toNat (↑x:Int)) (dfl (Ty.st SN.shape)))<=n/\allS aq (List.getD a.parts (Int.toNat (↑x:Int)) (dfl (Ty.st SN.shape)))=true/\allS aq (List.getD b.parts (Int.toNat (↑x:Int)) (dfl (Ty.st SN.shape)))=true)/\if (!aX n (List.getD a.parts (Int.toNat (↑x:Int)) (dfl (Ty.st SN.shape))) (List.getD b.parts (Int.toNat (↑x:Int)) (dfl (Ty.st SN.shape))))=true then True/\false=aX (n+(1:Nat)) a b/\True else inR IntKind.i64 ((↑x:Int)+(1:Int))/\∃(y:Nat),(y<=List.length a.parts/\aX (n+(1:Nat)) a b=iA (aX n) (decide (a.kind=(8:Int))) (List.drop y a.parts) (List.drop y b.parts))/\List.length a.parts - y < List.length a.parts - x/\(↑x:Int)+(1:Int)=(↑y:Int)/\false=false/\a=a/\b=b/\false=false/\false=false/\false=false/\(↑(List.length a.parts):Int)=(↑(List.length a.parts):Int)/\a=a/\b=b/\True else (sz (List.getD a.parts (Int.toNat (↑x:Int)) (dfl (Ty.st SN.shape)))+sz (List.getD b.parts (Int.toNat (↑x:Int)) (dfl (Ty.st SN.shape)))<=n/\allS aq (List.getD a.parts (Int.toNat (↑x:Int)) (dfl (Ty.st SN.shape)))=true/\allS aq (List.getD b.parts (Int.toNat (↑x:Int)) (dfl (Ty.st SN.shape)))=true)/\if (!aX n (List.getD a.parts (Int.toNat (↑x:Int)) (dfl (Ty.st SN.shape))) (List.getD b.parts (Int.toNat (↑x:Int)) (dfl (Ty.st SN.shape))))=true then True/\false=aX (n+(1:Nat)) a b/\True else inR IntKind.i64 ((↑x:Int)+(1:Int))/\∃(y:Nat),(y<=List.length a.parts/\aX (n+(1:Nat)) a b=iA (aX n) (decide (a.kind=(8:Int))) (List.drop y a.parts) (List.drop y b.parts))/\List.length a.parts - y < List.length a.parts - x/\(↑x:Int)+(1:Int)=(↑y:Int)/\false=false/\a=a/\b=b/\false=false/\false=false/\false=false/\(↑(List.length a.parts):Int)=(↑(List.length a.parts):Int)/\a=a/\b=b/\True else True/\true=aX (n+(1:Nat)) a b/\True:=by
 have la:=ha.parts.len
 have lb:=hb.parts.len
 have za:=j6 a
 have zb:=j6 b
 have fa:=mI oa
 have fb:=mI ob
 simp only [Int.toNat_natCast,eq_self,true_and,and_true]
 refine ab (fun h4=>by rw [aX,h4];rfl) (fun h4=>?_)
 refine ab (fun h5=>by rw [aX,h5];simp) (fun h5=>?_)
 refine ab (fun hk=>?_) (fun hk=>?_)
 ·rw [aX];simp at h4 h5 hk;simp [h4,h5,hk]
 refine ab (fun hp=>?_) (fun hp=>?_)
 ·rw [aX];simp at h4 h5 hp;simp [h4,h5,hp]
 refine ab (fun hm=>?_) (fun hm=>?_)
 ·rw [aX];simp at h4 h5 hm;simp [h4,h5,hm]
 simp at h4 h5 hk hp hm
 have hU:aX (n+1) a b=(if a.kind=6 then dA (aX n) false b a.names a.parts && b.names.all (fun m=>(aZ a m).isSome)
    else if a.kind=7 then dA (aX n) true b a.names a.parts
    else decide (a.parts.length=b.parts.length) && iA (aX n) (decide (a.kind=8)) a.parts b.parts):=by
  rw [aX];simp [h4,h5,hk,hp,hm]
 have lna:=ha.names.len
 refine ⟨ab (fun h=>by simp at h;simp [h]) (fun h=>by simp at h;simp [h]),ab (fun h67=>?_) (fun h67=>?_)⟩
 ·have hV:aX (n+1) a b=(dA (aX n) (decide (a.kind=7)) b a.names a.parts && (if b.kind=6 then b.names.all (fun m=>(aZ a m).isSome) else true)):=by
   rw [hU,←hk]
   by_cases h6:a.kind=6
   ·simp [h6]
   ·simp at h67
    simp [h67.resolve_left h6]
  refine ⟨⟨0,⟨Nat.zero_le _,by simp⟩,rfl⟩,?_⟩
  rintro k ⟨k1,k2⟩
  refine ab (fun h=>?_) (fun h=>?_)
  ·replace h:=Xo h
   have hk':k < a.names.length:=by omega
   have nl:a.names.length=a.parts.length:=(kE fa.1).resolve_left (fun e=>by rw [e] at hk';simp at hk')
   have hkp:k < a.parts.length:=by omega
   rw [aH a.names k (dfl .str) hk',aH a.parts k (dfl (.st .shape)) hkp] at k2
   simp only [dA] at k2
   refine ⟨by omega,fb.1,?_⟩
   cases hq:aZ b (a.names.getD k (dfl .str)) with
   | none=>
    rw [hq] at k2
    simp only [Option.isNone,Option.isSome,if_true,Bool.false_eq_true,if_false]
    refine ab (fun c=>?_) (fun c=>?_)
    ·rw [hV,←k2]
     simp at c h67
     simp [h67.resolve_left c]
    ·simp at c
     refine ⟨bc hk' lna,k+1,⟨by omega,?_⟩,by omega,by omega⟩
     rw [←k2]
     simp [c]
   | some x=>
    rw [hq] at k2
    simp only [Option.isNone,Option.isSome,if_true,Bool.false_eq_true,if_false,Option.getD,true_and]
    have m1:=getD_mem a.parts k (dfl (.st .shape)) hkp
    have m2:=(yo hq).2
    have s1:=eo m1
    have s2:=eo m2
    refine ⟨by omega,⟨by omega,ep fa.2 m1,ep fb.2 m2⟩,ab (fun c=>?_) (fun c=>?_)⟩
    ·simp only [Bool.not_eq_true'] at c
     rw [hV,←k2]
     simp only [c,Bool.false_and]
    ·simp only [Bool.not_eq_true',Bool.not_eq_false] at c
     refine ⟨bc hk' lna,k+1,⟨by omega,?_⟩,by omega,by omega⟩
     rw [←k2]
     simp only [c,Bool.true_and]
  ·replace h:¬((k:Int) < (a.names.length:Int)):=fun e=>h (Xd e)
   have e:k=a.names.length:=by omega
   subst e
   rw [List.drop_length] at k2
   simp only [dA] at k2
   rw [hV,←k2]
   refine ab (fun c=>?_) (fun c=>?_)
   ·simp at c
    simp [c]
   ·simp at c
    exact ⟨fa.1,by simp [c]⟩
 ·simp at h67
  have hW:aX (n+1) a b=(decide (a.parts.length=b.parts.length) && iA (aX n) (decide (a.kind=8)) a.parts b.parts):=by
   rw [hU,if_neg h67.1,if_neg h67.2]
  refine ab (fun c=>?_) (fun c=>?_)
  ·rw [hW]
   simp at c
   have c':¬a.parts.length=b.parts.length:=by omega
   simp [c']
  simp at c
  have c':a.parts.length=b.parts.length:=by omega
  rw [Xd c',Bool.true_and] at hW
  refine ⟨⟨0,⟨Nat.zero_le _,by simpa using hW⟩,rfl⟩,?_⟩
  rintro k ⟨k1,k2⟩
  refine ab (fun h=>?_) (fun h=>?_)
  ·replace h:=Xo h
   have ka:k < a.parts.length:=by omega
   have kb:k < b.parts.length:=by omega
   rw [aH a.parts k (dfl (.st .shape)) ka,aH b.parts k (dfl (.st .shape)) kb] at k2
   simp only [iA] at k2
   have m1:=getD_mem a.parts k (dfl (.st .shape)) ka
   have m2:=getD_mem b.parts k (dfl (.st .shape)) kb
   have s1:=eo m1
   have s2:=eo m2
   have f1:=ep fa.2 m1
   have f2:=ep fb.2 m2
   refine ⟨by omega,by omega,ab (fun h8=>?_) (fun h8=>?_)⟩
   ·simp at h8
    refine ⟨bF (by omega) (by omega),ab (fun l=>?_) (fun l=>?_)⟩
    ·replace l:=Xo l
     have le:(decide (a.kind=8) && !(a.parts.drop (k+1)).isEmpty)=true:=by
      simp [h8];omega
     rw [if_pos le] at k2
     refine ⟨⟨by omega,f2,f1⟩,ab (fun c=>?_) (fun c=>?_)⟩
     ·simp only [Bool.not_eq_true'] at c;rw [k2,c];rfl
     ·simp only [Bool.not_eq_true',Bool.not_eq_false] at c
      exact ⟨bc ka la,k+1,⟨by omega,by rw [k2,c];rfl⟩,by omega,by omega⟩
    ·replace l:¬((k:Int) < (a.parts.length:Int) - 1):=fun e=>l (Xd e)
     have le:¬(decide (a.kind=8) && !(a.parts.drop (k+1)).isEmpty)=true:=by
      simp;omega
     rw [if_neg le] at k2
     refine ⟨⟨by omega,f1,f2⟩,ab (fun c=>?_) (fun c=>?_)⟩
     ·simp only [Bool.not_eq_true'] at c;rw [k2,c];rfl
     ·simp only [Bool.not_eq_true',Bool.not_eq_false] at c
      exact ⟨bc ka la,k+1,⟨by omega,by rw [k2,c];rfl⟩,by omega,by omega⟩
   ·simp at h8
    have le:¬(decide (a.kind=8) && !(a.parts.drop (k+1)).isEmpty)=true:=by simp [h8]
    rw [if_neg le] at k2
    refine ⟨⟨by omega,f1,f2⟩,ab (fun c=>?_) (fun c=>?_)⟩
    ·simp only [Bool.not_eq_true'] at c;rw [k2,c];rfl
    ·simp only [Bool.not_eq_true',Bool.not_eq_false] at c
     exact ⟨bc ka la,k+1,⟨by omega,by rw [k2,c];rfl⟩,by omega,by omega⟩
  ·replace h:¬((k:Int) < (a.parts.length:Int)):=fun e=>h (Xd e)
   have e:k=a.parts.length:=by omega
   subst e
   rw [List.drop_length] at k2
   rw [k2]
   simp [iA]
theorem Ca (a b:Shape) (ha:Wf (.st .shape) a) (hb:Wf (.st .shape) b) :
  if (decide (aF a=(0:Int)) && decide (aF b=(0:Int)))=true then (sz a+sz b<=(800:Nat)/\allS aq a=true/\allS aq b=true)/\True/\aX (800:Nat) a b=kD a b/\True else True/\false=kD a b/\True:=by
 refine ab (fun h=>?_) (fun h=>?_)
 ·simp only [Bool.and_eq_true,decide_eq_true_eq] at h
  have c1:=dT h.1
  have c2:=dT h.2
  refine ⟨⟨by omega,c1.2.2,c2.2.2⟩,trivial,?_,trivial⟩
  rw [kD,h.1,h.2]
  rfl
 ·refine ⟨trivial,?_,trivial⟩
  rw [kD,Bool.eq_false_iff.2 h]
  rfl
theorem Cb (k:Nam) (v:Shape)  :
  True/\dG [] k v=dG [] k v/\True:=by
 exact ⟨trivial,rfl,trivial⟩
theorem Cc (m:List (Nam × Shape)) (k:Nam) (v:Shape)  :
  True/\dG m k v=dG m k v/\True:=by
 exact ⟨trivial,rfl,trivial⟩
theorem Cd (k:Nam)  :
  True/\{kind:=(0:Int),pkg:=[],name:=[],names:=[],parts:=[]:Shape}=ao/\false=Option.isSome (b6 [] k.pkg k.name)/\True:=by
 exact ⟨trivial,rfl,rfl,trivial⟩
theorem Ce (m:List (Nam × Shape)) (k:Nam)  :
  True/\Option.getD (cQ m k) {kind:=(0:Int),pkg:=[],name:=[],names:=[],parts:=[]:Shape}=Option.getD (b6 m k.pkg k.name) ao/\Option.isSome (cQ m k)=Option.isSome (b6 m k.pkg k.name)/\m=m/\True:=by
 exact ⟨trivial,rfl,rfl,rfl,trivial⟩
theorem AU (n:Nat) (s:Shape) (hs:Wf (.st .shape) s) (hn:sz s<=n+1) (h4:n+1<=400) (os:allS aq s=true) :
  if decide (s.kind=(9:Int))=true then True/\ao=Option.getD (fillS (b6 []) s) ao/\Option.isSome (b6 [] s.pkg s.name)=Option.isSome (fillS (b6 []) s)/\True else ((0:Int)<=(↑(List.length s.parts):Int)/\(↑(List.length s.parts):Int) *(↑(88:Nat):Int)<=(140737488355328:Int))/\(∃(x:Nat × List Shape),(x.1<=List.length s.parts/\List.length x.2=x.1/\fillL (b6 []) s.parts=Option.map (fun (x_1:List Shape) ↦x.2++x_1) (fillL (b6 []) (List.drop x.1 s.parts)))/\(0:Int)=(↑x.1:Int)/\[]=x.2/\s=s/\false=false/\s.parts=s.parts/\(↑(List.length s.parts):Int)=(↑(List.length s.parts):Int)/\(0:Nat)=List.length x.2/\s=s/\(0:Int)=(0:Int)/\aD UInt8=aD UInt8/\aD UInt8=aD UInt8/\True)/\∀(x:Nat × List Shape),x.1<=List.length s.parts/\List.length x.2=x.1/\fillL (b6 []) s.parts=Option.map (fun (x_1:List Shape) ↦x.2++x_1) (fillL (b6 []) (List.drop x.1 s.parts))→if decide ((↑x.1:Int) < (↑(List.length s.parts):Int))=true then ((0:Int)<=(↑x.1:Int)/\(↑x.1:Int) < (↑(List.length s.parts):Int))/\(sz (List.getD s.parts (Int.toNat (↑x.1:Int)) (dfl (Ty.st SN.shape)))<=n/\n<=(400:Nat)/\allS aq (List.getD s.parts (Int.toNat (↑x.1:Int)) (dfl (Ty.st SN.shape)))=true)/\if (!Option.isSome (fillS (b6 []) (List.getD s.parts (Int.toNat (↑x.1:Int)) (dfl (Ty.st SN.shape)))))=true then True/\(0:Int)=(Option.getD (fillS (b6 []) s) ao).kind/\[]=(Option.getD (fillS (b6 []) s) ao).pkg/\[]=(Option.getD (fillS (b6 []) s) ao).name/\(Option.getD (fillS (b6 []) s) ao).names=[]/\(Option.getD (fillS (b6 []) s) ao).parts=[]/\false=Option.isSome (fillS (b6 []) s)/\True else (List.length x.2=List.length x.2/\(List.length x.2+List.length [Option.getD (fillS (b6 []) (List.getD s.parts (Int.toNat (↑x.1:Int)) (dfl (Ty.st SN.shape)))) ao]) *(88:Nat)<=(140737488355328:Nat))/\inR IntKind.i64 ((↑x.1:Int)+(1:Int))/\∃(y:Nat × List Shape),(y.1<=List.length s.parts/\List.length y.2=y.1/\fillL (b6 []) s.parts=Option.map (fun (x:List Shape) ↦y.2++x) (fillL (b6 []) (List.drop y.1 s.parts)))/\List.length s.parts - y.1 < List.length s.parts - x.1/\(↑x.1:Int)+(1:Int)=(↑y.1:Int)/\x.2++[Option.getD (fillS (b6 []) (List.getD s.parts (Int.toNat (↑x.1:Int)) (dfl (Ty.st SN.shape)))) ao]=y.2/\s=s/\false=false/\s.parts=s.parts/\(↑(List.length s.parts):Int)=(↑(List.length s.parts):Int)/\List.length (x.2++[Option.getD (fillS (b6 []) (List.getD s.parts (Int.toNat (↑x.1:Int)) (dfl (Ty.st SN.shape)))) ao])=List.length y.2/\s=s/\(0:Int)=(0:Int)/\aD UInt8=aD UInt8/\aD UInt8=aD UInt8/\True else List.length s.names *(16:Nat)<=(140737488355328:Nat)/\True/\s.kind=(Option.getD (fillS (b6 []) s) ao).kind/\s.pkg=(Option.getD (fillS (b6 []) s) ao).pkg/\s.name=(Option.getD (fillS (b6 []) s) ao).name/\s.names=(Option.getD (fillS (b6 []) s) ao).names/\x.2=(Option.getD (fillS (b6 []) s) ao).parts/\true=Option.isSome (fillS (b6 []) s)/\True:=by
 have fs:=mI os
 have zs:=j6 s
 have ln:=hs.parts.len
 have lz:=ky s.parts
 simp only [Int.toNat_natCast,eq_self,true_and,and_true]
 refine ab (fun h9=>?_) (fun h9=>?_)
 ·simp only [decide_eq_true_eq] at h9
  rw [kG,if_pos h9]
  exact ⟨rfl,rfl⟩
 simp only [decide_eq_true_eq] at h9
 have hf:fillS (b6 []) s=(fillL (b6 []) s.parts).map fun q=>⟨s.kind,s.pkg,s.name,s.names,q⟩:=by rw [kG,if_neg h9]
 refine ⟨⟨by omega,by omega⟩,⟨(0,[]),⟨Nat.zero_le _,rfl,by simp⟩,rfl,rfl,rfl⟩,?_⟩
 rintro ⟨k,q⟩ ⟨h1,h2,h3⟩
 dsimp only at h1 h2 h3 ⊢
 refine ab (fun h=>?_) (fun h=>?_)
 ·replace h:=Xo h
  have hk:k < s.parts.length:=by omega
  rw [aH s.parts k (dfl (.st .shape)) hk] at h3
  simp only [fillL] at h3
  have m1:=getD_mem s.parts k (dfl (.st .shape)) hk
  have s1:=eo m1
  refine ⟨by omega,⟨by omega,by omega,ep fs.2 m1⟩,?_⟩
  cases hx:fillS (b6 []) (s.parts.getD k (dfl (.st .shape))) with
  | none=>
   rw [hx] at h3
   refine ab (fun c=>?_) (fun c=>absurd rfl c)
   rw [hf,h3]
   exact ⟨rfl,rfl,rfl,rfl,rfl,rfl⟩
  | some x=>
   rw [hx] at h3
   refine ab (fun c=>absurd c Bool.false_ne_true) (fun c=>?_)
   refine ⟨by simp only [Option.getD,List.length_cons,List.length_nil];omega,bc hk ln,(k+1,q++[x]),⟨by omega,by simp [h2],?_⟩,by dsimp only;omega,by dsimp only;omega,rfl,rfl⟩
   rw [h3]
   cases fillL (b6 []) (s.parts.drop (k+1)) with
   | none=>rfl
   | some l=>simp
 ·replace h:¬((k:Int) < (s.parts.length:Int)):=fun e=>h (Xd e)
  have e:k=s.parts.length:=by omega
  subst e
  rw [List.drop_length] at h3
  simp only [fillL,Option.map,List.append_nil] at h3
  rw [hf,h3]
  refine ⟨?_,rfl,rfl,rfl,rfl,rfl,rfl⟩
  rcases kE fs.1 with g | g
  ·rw [g];simp
  ·omega
theorem AW (n:Nat) (m:List (Nam × Shape)) (s:Shape) (hs:Wf (.st .shape) s) (hn:sz s<=n+1) (h4:n+1<=400) (os:allS aq s=true) :
  if decide (s.kind=(9:Int))=true then True/\Option.getD (b6 m s.pkg s.name) ao=Option.getD (fillS (b6 m) s) ao/\Option.isSome (b6 m s.pkg s.name)=Option.isSome (fillS (b6 m) s)/\m=m/\True else ((0:Int)<=(↑(List.length s.parts):Int)/\(↑(List.length s.parts):Int) *(↑(88:Nat):Int)<=(140737488355328:Int))/\(∃(x:Nat × List Shape),(x.1<=List.length s.parts/\List.length x.2=x.1/\fillL (b6 m) s.parts=Option.map (fun (x_1:List Shape) ↦x.2++x_1) (fillL (b6 m) (List.drop x.1 s.parts)))/\(0:Int)=(↑x.1:Int)/\[]=x.2/\s=s/\false=false/\s.parts=s.parts/\(↑(List.length s.parts):Int)=(↑(List.length s.parts):Int)/\(0:Nat)=List.length x.2/\m=m/\s=s/\(0:Int)=(0:Int)/\aD UInt8=aD UInt8/\aD UInt8=aD UInt8/\True)/\∀(x:Nat × List Shape),x.1<=List.length s.parts/\List.length x.2=x.1/\fillL (b6 m) s.parts=Option.map (fun (x_1:List Shape) ↦x.2++x_1) (fillL (b6 m) (List.drop x.1 s.parts))→if decide ((↑x.1:Int) < (↑(List.length s.parts):Int))=true then ((0:Int)<=(↑x.1:Int)/\(↑x.1:Int) < (↑(List.length s.parts):Int))/\(sz (List.getD s.parts (Int.toNat (↑x.1:Int)) (dfl (Ty.st SN.shape)))<=n/\n<=(400:Nat)/\allS aq (List.getD s.parts (Int.toNat (↑x.1:Int)) (dfl (Ty.st SN.shape)))=true)/\if (!Option.isSome (fillS (b6 m) (List.getD s.parts (Int.toNat (↑x.1:Int)) (dfl (Ty.st SN.shape)))))=true then True/\(0:Int)=(Option.getD (fillS (b6 m) s) ao).kind/\[]=(Option.getD (fillS (b6 m) s) ao).pkg/\[]=(Option.getD (fillS (b6 m) s) ao).name/\(Option.getD (fillS (b6 m) s) ao).names=[]/\(Option.getD (fillS (b6 m) s) ao).parts=[]/\false=Option.isSome (fillS (b6 m) s)/\m=m/\True else (List.length x.2=List.length x.2/\(List.length x.2+List.length [Option.getD (fillS (b6 m) (List.getD s.parts (Int.toNat (↑x.1:Int)) (dfl (Ty.st SN.shape)))) ao]) *(88:Nat)<=(140737488355328:Nat))/\inR IntKind.i64 ((↑x.1:Int)+(1:Int))/\∃(y:Nat × List Shape),(y.1<=List.length s.parts/\List.length y.2=y.1/\fillL (b6 m) s.parts=Option.map (fun (x:List Shape) ↦y.2++x) (fillL (b6 m) (List.drop y.1 s.parts)))/\List.length s.parts - y.1 < List.length s.parts - x.1/\(↑x.1:Int)+(1:Int)=(↑y.1:Int)/\x.2++[Option.getD (fillS (b6 m) (List.getD s.parts (Int.toNat (↑x.1:Int)) (dfl (Ty.st SN.shape)))) ao]=y.2/\s=s/\false=false/\s.parts=s.parts/\(↑(List.length s.parts):Int)=(↑(List.length s.parts):Int)/\List.length (x.2++[Option.getD (fillS (b6 m) (List.getD s.parts (Int.toNat (↑x.1:Int)) (dfl (Ty.st SN.shape)))) ao])=List.length y.2/\m=m/\s=s/\(0:Int)=(0:Int)/\aD UInt8=aD UInt8/\aD UInt8=aD UInt8/\True else List.length s.names *(16:Nat)<=(140737488355328:Nat)/\True/\s.kind=(Option.getD (fillS (b6 m) s) ao).kind/\s.pkg=(Option.getD (fillS (b6 m) s) ao).pkg/\s.name=(Option.getD (fillS (b6 m) s) ao).name/\s.names=(Option.getD (fillS (b6 m) s) ao).names/\x.2=(Option.getD (fillS (b6 m) s) ao).parts/\true=Option.isSome (fillS (b6 m) s)/\m=m/\True:=by
 have fs:=mI os
 have zs:=j6 s
 have ln:=hs.parts.len
 have lz:=ky s.parts
 simp only [Int.toNat_natCast,eq_self,true_and,and_true]
 refine ab (fun h9=>?_) (fun h9=>?_)
 ·simp only [decide_eq_true_eq] at h9
  rw [kG,if_pos h9]
  exact ⟨rfl,rfl⟩
 simp only [decide_eq_true_eq] at h9
 have hf:fillS (b6 m) s=(fillL (b6 m) s.parts).map fun q=>⟨s.kind,s.pkg,s.name,s.names,q⟩:=by rw [kG,if_neg h9]
 refine ⟨⟨by omega,by omega⟩,⟨(0,[]),⟨Nat.zero_le _,rfl,by simp⟩,rfl,rfl,rfl⟩,?_⟩
 rintro ⟨k,q⟩ ⟨h1,h2,h3⟩
 dsimp only at h1 h2 h3 ⊢
 refine ab (fun h=>?_) (fun h=>?_)
 ·replace h:=Xo h
  have hk:k < s.parts.length:=by omega
  rw [aH s.parts k (dfl (.st .shape)) hk] at h3
  simp only [fillL] at h3
  have m1:=getD_mem s.parts k (dfl (.st .shape)) hk
  have s1:=eo m1
  refine ⟨by omega,⟨by omega,by omega,ep fs.2 m1⟩,?_⟩
  cases hx:fillS (b6 m) (s.parts.getD k (dfl (.st .shape))) with
  | none=>
   rw [hx] at h3
   refine ab (fun c=>?_) (fun c=>absurd rfl c)
   rw [hf,h3]
   exact ⟨rfl,rfl,rfl,rfl,rfl,rfl⟩
  | some x=>
   rw [hx] at h3
   refine ab (fun c=>absurd c Bool.false_ne_true) (fun c=>?_)
   refine ⟨by simp only [Option.getD,List.length_cons,List.length_nil];omega,bc hk ln,(k+1,q++[x]),⟨by omega,by simp [h2],?_⟩,by dsimp only;omega,by dsimp only;omega,rfl,rfl⟩
   rw [h3]
   cases fillL (b6 m) (s.parts.drop (k+1)) with
   | none=>rfl
   | some l=>simp
 ·replace h:¬((k:Int) < (s.parts.length:Int)):=fun e=>h (Xd e)
  have e:k=s.parts.length:=by omega
  subst e
  rw [List.drop_length] at h3
  simp only [fillL,Option.map,List.append_nil] at h3
  rw [hf,h3]
  refine ⟨?_,rfl,rfl,rfl,rfl,rfl,rfl⟩
  rcases kE fs.1 with g | g
  ·rw [g];simp
  ·omega
theorem yP   :
  (∃(x:Nat),True/\(0:Int)=(0:Int)/\aD (den (Ty.st SN.bind))=aD (den (Ty.st SN.bind))/\aD (den (Ty.st SN.bind))=aD (den (Ty.st SN.bind))/\(↑(List.length ([]:List Bndg)):Int)=(↑(List.length ([]:List Bndg)):Int)/\True)/\∀(x:Nat),True→True/\True:=by
 exact ⟨⟨0,trivial,rfl,rfl,rfl,rfl,trivial⟩,fun _ _=>⟨trivial,trivial⟩⟩
theorem yQ (b:Bndg) (r:List Bndg) (hl:Wf (.lst (.st .bind)) (b ::r)) :
  if decide ((0:Int) < (↑(List.length (b ::r)):Int))=true then ((0:Int)<=(0:Int)/\(0:Int) < (↑(List.length (b ::r)):Int))/\inR IntKind.i64 ((0:Int)+(1:Int))/\(∃(x:Nat × List (Nam × Shape)),(x.1<=List.length (b ::r)/\mg (List.drop x.1 (b ::r)) x.2=gl (b ::r))/\(0:Int)+(1:Int)=(↑x.1:Int)/\b ::r=b ::r/\b ::r=b ::r/\(↑(List.length (b ::r)):Int)=(↑(List.length (b ::r)):Int)/\dG [] {pkg:=(List.getD (b ::r) (Int.toNat (0:Int)) (dfl (Ty.st SN.bind))).pkg,name:=(List.getD (b ::r) (Int.toNat (0:Int)) (dfl (Ty.st SN.bind))).name:Nam} (List.getD (b ::r) (Int.toNat (0:Int)) (dfl (Ty.st SN.bind))).shape=x.2/\True)/\∀(x:Nat × List (Nam × Shape)),x.1<=List.length (b ::r)/\mg (List.drop x.1 (b ::r)) x.2=gl (b ::r)→if decide ((↑x.1:Int) < (↑(List.length (b ::r)):Int))=true then ((0:Int)<=(↑x.1:Int)/\(↑x.1:Int) < (↑(List.length (b ::r)):Int))/\inR IntKind.i64 ((↑x.1:Int)+(1:Int))/\∃(y:Nat × List (Nam × Shape)),(y.1<=List.length (b ::r)/\mg (List.drop y.1 (b ::r)) y.2=gl (b ::r))/\List.length (b ::r) - y.1 < List.length (b ::r) - x.1/\(↑x.1:Int)+(1:Int)=(↑y.1:Int)/\b ::r=b ::r/\b ::r=b ::r/\(↑(List.length (b ::r)):Int)=(↑(List.length (b ::r)):Int)/\dG x.2 {pkg:=(List.getD (b ::r) (Int.toNat (↑x.1:Int)) (dfl (Ty.st SN.bind))).pkg,name:=(List.getD (b ::r) (Int.toNat (↑x.1:Int)) (dfl (Ty.st SN.bind))).name:Nam} (List.getD (b ::r) (Int.toNat (↑x.1:Int)) (dfl (Ty.st SN.bind))).shape=y.2/\True else True/\x.2=gl (b ::r)/\True else True/\False:=by
 have ln:=hl.len
 refine ab (fun _=>?_) (fun h=>absurd (Xd (by simp only [List.length_cons];omega)) h)
 simp only [Int.toNat_natCast,eq_self,true_and,and_true]
 refine ⟨by simp only [List.length_cons];omega,bF (by omega) (by omega),⟨(1,dG [] ⟨b.pkg,b.name⟩ b.shape),⟨by simp,rfl⟩,rfl,rfl⟩,?_⟩
 rintro ⟨k,m⟩ ⟨h1,h2⟩
 dsimp only at h1 h2 ⊢
 refine ab (fun h=>?_) (fun h=>?_)
 ·replace h:=Xo h
  have hk:k < (b ::r).length:=by omega
  rw [aH (b ::r) k (dfl (.st .bind)) hk] at h2
  exact ⟨by omega,bc hk ln,(k+1,_),⟨by omega,h2⟩,by dsimp only;omega,by dsimp only;omega,rfl⟩
 ·replace h:¬((k:Int) < ((b ::r).length:Int)):=fun e=>h (Xd e)
  have e:k=(b ::r).length:=by omega
  subst e
  rw [List.drop_length] at h2
  exact h2
theorem tw (s:Shape) (hs:Wf (.st .shape) s) :
  if (!decide (aF s=(0:Int)))=true then True/\(0:Int)=(au s []).1.kind/\[]=(au s []).1.pkg/\[]=(au s []).1.name/\(au s []).1.names=[]/\(au s []).1.parts=[]/\aF s=(au s []).2/\True else (sz s<=(400:Nat)/\(400:Nat)<=(400:Nat)/\allS aq s=true)/\if (!Option.isSome (fillS (b6 []) s))=true then True/\(0:Int)=(au s []).1.kind/\[]=(au s []).1.pkg/\[]=(au s []).1.name/\(au s []).1.names=[]/\(au s []).1.parts=[]/\(110:Int)=(au s []).2/\True else if (!decide (aF (Option.getD (fillS (b6 []) s) ao)=(0:Int)))=true then True/\(0:Int)=(au s []).1.kind/\[]=(au s []).1.pkg/\[]=(au s []).1.name/\(au s []).1.names=[]/\(au s []).1.parts=[]/\aF (Option.getD (fillS (b6 []) s) ao)=(au s []).2/\True else True/\aW (Option.getD (fillS (b6 []) s) ao)=(au s []).1/\(0:Int)=(au s []).2/\True:=by
 have hr:au s []=if aF s=0 then (match fillS (b6 []) s with | none=>(ao,110) | some q=>if aF q=0 then (aW q,0) else (ao,aF q)) else (ao,aF s):=by
  unfold au;rw [←tc];try rfl
 refine ab (fun h=>?_) (fun h=>?_)
 ·have h:¬aF s=0:=by simpa using h
  rw [hr,if_neg h]
  exact ⟨trivial,rfl,rfl,rfl,rfl,rfl,rfl,trivial⟩
 ·have h:aF s=0:=by simpa using h
  rw [hr,if_pos h]
  have c:=dT h
  refine ⟨⟨c.1,Nat.le_refl _,c.2.2⟩,?_⟩
  cases hq:fillS (b6 []) s with
  | none=>exact ab (fun _=>⟨trivial,rfl,rfl,rfl,rfl,rfl,rfl,trivial⟩) (fun g=>absurd rfl g)
  | some q=>
   refine ab (fun g=>absurd g Bool.false_ne_true) (fun _=>ab (fun g=>?_) (fun g=>?_))
   ·have g:¬aF q=0:=by simpa using g
    dsimp only
    rw [if_neg g]
    exact ⟨trivial,rfl,rfl,rfl,rfl,rfl,rfl,trivial⟩
   ·have g:aF q=0:=by simpa using g
    dsimp only
    rw [if_pos g]
    exact ⟨trivial,rfl,rfl,trivial⟩
theorem vI (s:Shape) (b:Bndg) (r:List Bndg) (hs:Wf (.st .shape) s) (hl:Wf (.lst (.st .bind)) (b ::r)) :
  if (!decide (aF s=(0:Int)))=true then True/\(0:Int)=(au s (b ::r)).1.kind/\[]=(au s (b ::r)).1.pkg/\[]=(au s (b ::r)).1.name/\(au s (b ::r)).1.names=[]/\(au s (b ::r)).1.parts=[]/\aF s=(au s (b ::r)).2/\True else (sz s<=(400:Nat)/\(400:Nat)<=(400:Nat)/\allS aq s=true)/\if (!Option.isSome (fillS (b6 (gl (b ::r))) s))=true then True/\(0:Int)=(au s (b ::r)).1.kind/\[]=(au s (b ::r)).1.pkg/\[]=(au s (b ::r)).1.name/\(au s (b ::r)).1.names=[]/\(au s (b ::r)).1.parts=[]/\(110:Int)=(au s (b ::r)).2/\True else if (!decide (aF (Option.getD (fillS (b6 (gl (b ::r))) s) ao)=(0:Int)))=true then True/\(0:Int)=(au s (b ::r)).1.kind/\[]=(au s (b ::r)).1.pkg/\[]=(au s (b ::r)).1.name/\(au s (b ::r)).1.names=[]/\(au s (b ::r)).1.parts=[]/\aF (Option.getD (fillS (b6 (gl (b ::r))) s) ao)=(au s (b ::r)).2/\True else True/\aW (Option.getD (fillS (b6 (gl (b ::r))) s) ao)=(au s (b ::r)).1/\(0:Int)=(au s (b ::r)).2/\True:=by
 have hr:au s (b ::r)=if aF s=0 then (match fillS (b6 (gl (b ::r))) s with | none=>(ao,110) | some q=>if aF q=0 then (aW q,0) else (ao,aF q)) else (ao,aF s):=by
  unfold au;rw [←tc];try rfl
 refine ab (fun h=>?_) (fun h=>?_)
 ·have h:¬aF s=0:=by simpa using h
  rw [hr,if_neg h]
  exact ⟨trivial,rfl,rfl,rfl,rfl,rfl,rfl,trivial⟩
 ·have h:aF s=0:=by simpa using h
  rw [hr,if_pos h]
  have c:=dT h
  refine ⟨⟨c.1,Nat.le_refl _,c.2.2⟩,?_⟩
  cases hq:fillS (b6 (gl (b ::r))) s with
  | none=>exact ab (fun _=>⟨trivial,rfl,rfl,rfl,rfl,rfl,rfl,trivial⟩) (fun g=>absurd rfl g)
  | some q=>
   refine ab (fun g=>absurd g Bool.false_ne_true) (fun _=>ab (fun g=>?_) (fun g=>?_))
   ·have g:¬aF q=0:=by simpa using g
    dsimp only
    rw [if_neg g]
    exact ⟨trivial,rfl,rfl,rfl,rfl,rfl,rfl,trivial⟩
   ·have g:aF q=0:=by simpa using g
    dsimp only
    rw [if_pos g]
    exact ⟨trivial,rfl,rfl,trivial⟩
theorem D1 (k:Int)  :
  True/\k=(ofK k).kind/\[]=(ofK k).pkg/\[]=(ofK k).name/\(ofK k).names=[]/\(ofK k).parts=[]/\True:=by
 exact ⟨trivial,rfl,rfl,rfl,rfl,rfl,trivial⟩
theorem yR (e a:Int)  :
  True/\e=e/\a=a/\True:=by
 exact ⟨trivial,rfl,rfl,trivial⟩
theorem AX (l:List Bndg) (o m:Str) (hl:Wf (.lst (.st .bind)) l) :
  inR IntKind.i64 ((↑(List.length l):Int) - (1:Int))/\(∃(x:Nat),(x<=List.length l/\aO l o m=aO (List.take x l) o m)/\(↑(List.length l):Int) - (1:Int)=(↑x:Int) - (1:Int)/\l=l/\o=o/\m=m/\(0:Int)=(0:Int)/\aD UInt8=aD UInt8/\aD UInt8=aD UInt8/\True)/\∀(x:Nat),x<=List.length l/\aO l o m=aO (List.take x l) o m→if decide ((0:Int)<=(↑x:Int) - (1:Int))=true then ((0:Int)<=(↑x:Int) - (1:Int)/\(↑x:Int) - (1:Int) < (↑(List.length l):Int))/\if decide ((List.getD l (Int.toNat ((↑x:Int) - (1:Int))) (dfl (Ty.st SN.bind))).pkg=o)=true then ((0:Int)<=(↑x:Int) - (1:Int)/\(↑x:Int) - (1:Int) < (↑(List.length l):Int))/\if decide ((List.getD l (Int.toNat ((↑x:Int) - (1:Int))) (dfl (Ty.st SN.bind))).name=m)=true then ((0:Int)<=(↑x:Int) - (1:Int)/\(↑x:Int) - (1:Int) < (↑(List.length l):Int))/\True/\aW (List.getD l (Int.toNat ((↑x:Int) - (1:Int))) (dfl (Ty.st SN.bind))).shape=Option.elim (aO l o m) ao aW/\true=Option.isSome (aO l o m)/\True else inR IntKind.i64 ((↑x:Int) - (1:Int) - (1:Int))/\∃(y:Nat),(y<=List.length l/\aO l o m=aO (List.take y l) o m)/\y < x/\(↑x:Int) - (1:Int) - (1:Int)=(↑y:Int) - (1:Int)/\l=l/\o=o/\m=m/\(0:Int)=(0:Int)/\aD UInt8=aD UInt8/\aD UInt8=aD UInt8/\True else inR IntKind.i64 ((↑x:Int) - (1:Int) - (1:Int))/\∃(y:Nat),(y<=List.length l/\aO l o m=aO (List.take y l) o m)/\y < x/\(↑x:Int) - (1:Int) - (1:Int)=(↑y:Int) - (1:Int)/\l=l/\o=o/\m=m/\(0:Int)=(0:Int)/\aD UInt8=aD UInt8/\aD UInt8=aD UInt8/\True else True/\(0:Int)=(Option.elim (aO l o m) ao aW).kind/\[]=(Option.elim (aO l o m) ao aW).pkg/\[]=(Option.elim (aO l o m) ao aW).name/\(Option.elim (aO l o m) ao aW).names=[]/\(Option.elim (aO l o m) ao aW).parts=[]/\false=Option.isSome (aO l o m)/\True:=by
 have ln:=hl.len
 refine ⟨bF (by omega) (by omega),⟨l.length,⟨Nat.le_refl _,by rw [List.take_length]⟩,rfl,rfl,rfl,rfl,rfl,rfl,rfl,trivial⟩,?_⟩
 rintro x ⟨h1,h2⟩
 refine ab (fun h=>?_) (fun h=>?_)
 ·have h:=Xo h
  obtain ⟨k,rfl⟩:∃k,x=k+1:=⟨x - 1,by omega⟩
  have e1:(((k+1:Nat):Int) - 1)=(k:Int):=by omega
  rw [te l o m (dfl (.st .bind)) (by omega)] at h2
  simp only [e1,Int.toNat_natCast,eq_self,true_and,and_true]
  have next:aO l o m=aO (l.take k) o m→inR IntKind.i64 ((k:Int) - 1)/\∃(y:Nat),(y<=List.length l/\aO l o m=aO (List.take y l) o m)/\y < k+1/\(k:Int) - 1=(y:Int) - 1:=
   fun g=>⟨bF (by omega) (by omega),k,⟨by omega,g⟩,by omega,rfl⟩
  refine ⟨by omega,ab (fun c1=>?_) (fun c1=>?_)⟩
  ·have c1:=Xo c1
   refine ⟨by omega,ab (fun c2=>?_) (fun c2=>?_)⟩
   ·have c2:=Xo c2
    rw [if_pos ⟨c1,c2⟩] at h2
    rw [h2]
    exact ⟨by omega,rfl,rfl⟩
   ·rw [if_neg (fun g=>c2 (Xd g.2))] at h2
    exact next h2
  ·rw [if_neg (fun g=>c1 (Xd g.1))] at h2
   exact next h2
 ·have h:¬(0:Int)<=(x:Int) - 1:=fun e=>h (Xd e)
  obtain rfl:x=0:=by omega
  rw [h2]
  exact ⟨trivial,rfl,rfl,rfl,rfl,rfl,rfl,trivial⟩
theorem yS (n:Nat) (t:Trm) (e:Envt) (ht:Wf (.st .term) t) (he:Wf (.st .env) e) (hz:szT t<=n+1) (hf:allT aj t=true) (hv:e.values.length+4096 *szT t<=100000000) :
  (szT t<=n+(1:Nat)/\allT aj t=true/\List.length e.values+(4096:Nat) *szT t<=(100000000:Nat))/\if decide ((an (aa n) t e).2.err=(0:Int))=true then if (!decide (aF (an (aa n) t e).1=(0:Int)))=true then if (!decide (aF (an (aa n) t e).1=(0:Int)))=true then True/\(0:Int)=(aa (n+(1:Nat)) t e).1.kind/\[]=(aa (n+(1:Nat)) t e).1.pkg/\[]=(aa (n+(1:Nat)) t e).1.name/\(aa (n+(1:Nat)) t e).1.names=[]/\(aa (n+(1:Nat)) t e).1.parts=[]/\aF (an (aa n) t e).1=(aa (n+(1:Nat)) t e).2.err/\t.pos=(aa (n+(1:Nat)) t e).2.pos/\True else True/\aW (an (aa n) t e).1=(aa (n+(1:Nat)) t e).1/\(0:Int)=(aa (n+(1:Nat)) t e).2.err/\(0:Int)=(aa (n+(1:Nat)) t e).2.pos/\True else if (!decide ((an (aa n) t e).2.err=(0:Int)))=true then True/\(0:Int)=(aa (n+(1:Nat)) t e).1.kind/\[]=(aa (n+(1:Nat)) t e).1.pkg/\[]=(aa (n+(1:Nat)) t e).1.name/\(aa (n+(1:Nat)) t e).1.names=[]/\(aa (n+(1:Nat)) t e).1.parts=[]/\(an (aa n) t e).2.err=(aa (n+(1:Nat)) t e).2.err/\(an (aa n) t e).2.pos=(aa (n+(1:Nat)) t e).2.pos/\True else True/\aW (an (aa n) t e).1=(aa (n+(1:Nat)) t e).1/\(0:Int)=(aa (n+(1:Nat)) t e).2.err/\(0:Int)=(aa (n+(1:Nat)) t e).2.pos/\True else if (!decide ((an (aa n) t e).2.err=(0:Int)))=true then True/\(0:Int)=(aa (n+(1:Nat)) t e).1.kind/\[]=(aa (n+(1:Nat)) t e).1.pkg/\[]=(aa (n+(1:Nat)) t e).1.name/\(aa (n+(1:Nat)) t e).1.names=[]/\(aa (n+(1:Nat)) t e).1.parts=[]/\(an (aa n) t e).2.err=(aa (n+(1:Nat)) t e).2.err/\(an (aa n) t e).2.pos=(aa (n+(1:Nat)) t e).2.pos/\True else True/\aW (an (aa n) t e).1=(aa (n+(1:Nat)) t e).1/\(0:Int)=(aa (n+(1:Nat)) t e).2.err/\(0:Int)=(aa (n+(1:Nat)) t e).2.pos/\True:=by
 refine ⟨⟨hz,hf,hv⟩,?_⟩
 rw [show aa (n+1) t e=iu t (an (aa n) t e) from rfl]
 generalize an (aa n) t e=r
 unfold iu
 by_cases h1:r.2.err=0
 ·by_cases h2:aF r.1=0
  ·simp [h1,h2,cU]
  ·simp [h1,h2,ao]
 ·simp [h1,ao]
theorem AY (n:Nat) (t:Trm) (w:Shape) (e:Envt) (ht:Wf (.st .term) t) (hw:Wf (.st .shape) w) (he:Wf (.st .env) e) (hz:szT t<=n) (hf:allT aj t=true) (hv:e.values.length+4096 *szT t<=100000000) :
  (szT t<=n/\allT aj t=true/\List.length e.values+(4096:Nat) *szT t<=(100000000:Nat))/\if decide ((aa n t e).2.err=(0:Int))=true then if (!kD (aa n t e).1 w)=true then True/\(140:Int)=(ay (aa n) t w e).err/\t.pos=(ay (aa n) t w e).pos/\True else True/\(aa n t e).2.err=(ay (aa n) t w e).err/\(aa n t e).2.pos=(ay (aa n) t w e).pos/\True else True/\(aa n t e).2.err=(ay (aa n) t w e).err/\(aa n t e).2.pos=(ay (aa n) t w e).pos/\True:=by
 refine ⟨⟨hz,hf,hv⟩,?_⟩
 unfold ay
 by_cases h1:(aa n t e).2.err=0
 ·cases h2:kD (aa n t e).1 w <;> simp [h1,h2]
 ·simp [h1]
end Go.AL.Seat
end
