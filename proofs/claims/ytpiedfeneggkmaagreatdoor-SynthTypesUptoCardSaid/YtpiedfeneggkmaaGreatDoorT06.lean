/- Plain facts. The layer: Go code as conditions, and that they are sound. What the functions' conditions say, proved. The contracts of the functions. No condition. -/
import Derived.Test.YtpiedfeneggkmaaGreatDoorT05
import Derived.BigQuiet
import Derived.Deep.QuietTactic
import Derived.Recover
import Derived.Shelf.SlSortCmp.Whole1
import Derived.Shelf.Slices.Clone
import Derived.Shelf.Small.Strs
import Derived.Test.YtpiedfeneggkmaaGreatDoorProg
set_option linter.all false
set_option maxRecDepth 100000
section
namespace Go.Proofs.YtpiedfeneggkmaaGreatDoor.Join
open Go.AL Go.AL.Seat Go.Pd Go.ChangeShapes Go.WideShapes Go.RowKit Go.Lib Go.Shelf
variable {H:Type}
theorem Ef(d:DataW H):1<=Rows.uptoBulk d:=by
 cases d with
 |lit l=>cases l<;>(unfold Rows.uptoBulk;omega)
 |_=>unfold Rows.uptoBulk;omega
theorem vX:∀l:List (DataW H),l.length<=Rows.uptoBulkAll l
 |[]=>Nat.zero_le _
 |d::r=>by have:=vX r;have:=Ef d;unfold Rows.uptoBulkAll;rw[List.length_cons];omega
theorem mr{d:DataW H}:∀{l:List (DataW H)},d∈l->Rows.uptoBulk d<=Rows.uptoBulkAll l
 |x::r,h=>by
  unfold Rows.uptoBulkAll;rcases List.mem_cons.1 h with rfl|h
  ·omega
  ·have:=mr h;omega
theorem BZ(P:Program):GoodR (H:=H) P 1048576 1048576 (fun _ d=>Rows.uptoBulk d<=1048576) where
 str t s ht h:=by unfold Rows.uptoBulk at h;omega
 len t e es sp ht h h16:=by have:=vX es;unfold Rows.uptoBulk at h;omega
 el t e es sp ht h x hx:=by have:=mr hx;unfold Rows.uptoBulk at h;omega
 part t fs ps ht h i f p hf hp:=by have:=mr (List.mem_of_getElem? hp);unfold Rows.uptoBulk at h;omega
theorem Eg{ds:List (DataW H)}(h:Rows.uptoSmall H ds=true){d:DataW H}(hd:d∈ds):Rows.uptoBulk d<=1048576:=by have:=mr hd;have:=Xo h;omega
theorem lJ:∀(n:Nat)(s:Trm),szT s<=n->allT (n9 1048576 1048576) s=true->cK s=true/\di s=true
 |0,s,h,_=>by have:=fw s;omega
 |n+1,s,h,ha=>by
  rw[allT_eq,Bool.and_eq_true,allTL_all,List.all_eq_true]at ha;have hb:=ha.1;unfold n9 at hb;rw[Bool.and_eq_true,decide_eq_true_eq,decide_eq_true_eq]at hb;have hp:∀x∈s.parts,cK x=true/\di x=true:=fun x hx=>by have h1:=iy hx;have h2:=jt s;exact lJ n x (by omega) (ha.2 x hx)
  unfold cK di at hp⊢;rw[allT_eq,allT_eq,Bool.and_eq_true,Bool.and_eq_true,allTL_all,allTL_all,List.all_eq_true,List.all_eq_true];refine⟨⟨Xd (by omega),fun x hx=>(hp x hx).1⟩,?_,fun x hx=>(hp x hx).2⟩;rw[Xd (show s.name.length<=2000000 by omega),Xd (show s.names.length<=2000000 by omega)];rfl
end Go.Proofs.YtpiedfeneggkmaaGreatDoor.Join
end
section
open Go Go.AL Go.Proofs
namespace Go.AL.Seat
variable [Tabs]
def r1:TR:=⟨.other,1,8,[.undef],none⟩
def r2:TR:=⟨.int .i64,1,8,[.int .i64 0],some (.int .i64)⟩
def r5:TR:=⟨.int .u8,1,1,[.int .u8 0],some (.int .u8)⟩
def r7:TR:=⟨.strct true [(0,2),(1,3),(2,4),(3,6)],4,24,[.int .i64 0,.int .i64 0,.bool false,.int .u8 0],none⟩
def r9:TR:=⟨.str,1,16,[.str []],some .str⟩
def r12:TR:=⟨.int .u64,1,8,[.int .u64 0],some (.int .u64)⟩
def r13:TR:=⟨.strct false [(0,9),(1,12)],2,24,[.str [],.int .u64 0],none⟩
def r18:TR:=⟨.strct false [(0,17)],1,8,[.nilp],none⟩
def r20:TR:=⟨.iface,1,16,[.nilif],none⟩
def r21:TR:=⟨.int .i32,1,4,[.int .i32 0],some (.int .i32)⟩
def r90:TR:=⟨.strct true [(0,9),(1,3)],2,24,[.str [],.int .i64 0],none⟩
def r92:TR:=⟨.strct false [(0,91),(2,70),(3,37)],5,64,[.str [],.int .i64 0,.nils,.int .i64 0,.int .i64 0],none⟩
def r118:TR:=⟨.strct true [(0,3),(1,3),(2,3),(3,3)],4,32,[.int .i64 0,.int .i64 0,.int .i64 0,.int .i64 0],none⟩
def r125:TR:=⟨.strct false [],0,0,[],none⟩
def r222:TR:=⟨.strct true [(0,5),(1,5)],2,2,[.int .u8 0,.int .u8 0],none⟩
def r257:TR:=⟨.strct false [(0,256)],1,8,[.undef],none⟩
def r265:TR:=⟨.strct false [(0,264)],1,8,[.nilm],none⟩
def r279:TR:=⟨.strct false [(0,9),(1,9),(2,197)],3,48,[.str [],.str [],.nilif],none⟩
def r289:TR:=⟨.strct true [(0,9)],1,16,[.str []],none⟩
def r303:TR:=⟨.strct false [(0,17),(1,17),(2,17),(3,9)],4,40,[.nilp,.nilp,.nilp,.str []],none⟩
def r314:TR:=⟨.strct false [(0,12),(1,12),(2,180),(3,309),(4,5),(5,5),(6,310),(7,311),(8,287),(9,312),(10,313)],11,48,[.int .u64 0,.int .u64 0,.int .u32 0,.int .u8 0,.int .u8 0,.int .u8 0,.int .u8 0,.undef,.nilp,.int .i32 0,.int .i32 0],none⟩
def tbl:List (Nat×TR):=[(1,r1),
 (2,r2),
 (3,r2),
 (4,⟨.bool,1,1,[.bool false],some .bool⟩),
 (5,r5),
 (6,r5),
 (7,r7),
 (8,r7),
 (9,r9),
 (10,r9),
 (11,r9),
 (12,r12),
 (13,r13),
 (14,r13),
 (15,⟨.ptr 304,1,8,[.nilp],none⟩),
 (16,⟨.ptr 307,1,8,[.nilp],none⟩),
 (17,⟨.ptr 315,1,8,[.nilp],none⟩),
 (18,r18),
 (19,r18),
 (20,r20),
 (21,r21),
 (22,⟨.slice 9,1,24,[.nils],some (.lst .str)⟩),
 (23,⟨.slice 34,1,24,[.nils],some (.lst (.st .shape))⟩),
 (24,⟨.slice 26,1,24,[.nils],some (.lst (.st .term))⟩),
 (25,⟨.strct false [(0,3),(1,9),(2,9),(3,3),(4,22),(5,22),(6,23),(7,24),(8,3)],9,152,[.int .i64 0,.str [],.str [],.int .i64 0,.nils,.nils,.nils,.nils,.int .i64 0],none⟩),
 (26,⟨.strct false [(0,3),(1,9),(2,9),(3,3),(4,22),(5,22),(6,23),(7,24),(8,3)],9,152,[.int .i64 0,.str [],.str [],.int .i64 0,.nils,.nils,.nils,.nils,.int .i64 0],some (.st .term)⟩),
 (27,⟨.slice 48,1,24,[.nils],some (.lst (.st .bind))⟩),
 (28,⟨.strct false [(0,9),(1,27),(2,27),(3,27)],4,88,[.str [],.nils,.nils,.nils],none⟩),
 (29,⟨.strct false [(0,9),(1,27),(2,27),(3,27)],4,88,[.str [],.nils,.nils,.nils],some (.st .env)⟩),
 (30,r1),
 (31,r1),
 (32,r1),
 (33,⟨.strct false [(0,3),(1,9),(2,9),(3,22),(4,23)],5,88,[.int .i64 0,.str [],.str [],.nils,.nils],none⟩),
 (34,⟨.strct false [(0,3),(1,9),(2,9),(3,22),(4,23)],5,88,[.int .i64 0,.str [],.str [],.nils,.nils],some (.st .shape)⟩),
 (35,r2),
 (36,⟨.strct true [(0,35),(1,3)],2,16,[.int .i64 0,.int .i64 0],none⟩),
 (37,⟨.strct true [(0,35),(1,3)],2,16,[.int .i64 0,.int .i64 0],some (.st .fault)⟩),
 (39,r1),
 (40,r1),
 (41,r1),
 (42,r1),
 (43,r1),
 (44,r1),
 (45,r1),
 (46,r1),
 (47,⟨.strct false [(0,9),(1,9),(2,34)],7,120,[.str [],.str [],.int .i64 0,.str [],.str [],.nils,.nils],none⟩),
 (48,⟨.strct false [(0,9),(1,9),(2,34)],7,120,[.str [],.str [],.int .i64 0,.str [],.str [],.nils,.nils],some (.st .bind)⟩),
 (49,r1),
 (50,r1),
 (51,r1),
 (52,r1),
 (53,r1),
 (54,r1),
 (55,r1),
 (56,r1),
 (57,r1),
 (59,r1),
 (60,r1),
 (61,r1),
 (62,r1),
 (63,r1),
 (64,r1),
 (65,r1),
 (67,r1),
 (68,r1),
 (69,r1),
 (70,⟨.slice 99,1,24,[.nils],some (.lst (.st .token))⟩),
 (72,r1),
 (74,r1),
 (75,r1),
 (76,r1),
 (77,⟨.slice 3,1,24,[.nils],some (.lst (.int .i64))⟩),
 (78,r1),
 (80,r1),
 (81,r1),
 (83,r1),
 (84,r1),
 (85,r1),
 (86,r1),
 (87,r1),
 (88,r1),
 (89,⟨.ptr 93,1,8,[.nilp],none⟩),
 (90,r90),
 (91,r90),
 (92,r92),
 (93,r92),
 (94,r1),
 (95,r1),
 (96,r1),
 (97,r1),
 (98,⟨.strct true [(0,3),(1,9),(2,3)],3,32,[.int .i64 0,.str [],.int .i64 0],none⟩),
 (99,⟨.strct true [(0,3),(1,9),(2,3)],3,32,[.int .i64 0,.str [],.int .i64 0],some (.st .token)⟩),
 (100,⟨.ptr 105,1,8,[.nilp],none⟩),
 (101,r1),
 (102,⟨.strct false [(0,70),(1,3),(2,37)],4,48,[.nils,.int .i64 0,.int .i64 0,.int .i64 0],none⟩),
 (103,⟨.strct false [(0,70),(1,3),(2,37)],4,48,[.nils,.int .i64 0,.int .i64 0,.int .i64 0],some (.st .par)⟩),
 (104,⟨.strct false [(0,103)],4,48,[.nils,.int .i64 0,.int .i64 0,.int .i64 0],none⟩),
 (105,⟨.strct false [(0,103)],4,48,[.nils,.int .i64 0,.int .i64 0,.int .i64 0],some (.st .par)⟩),
 (106,r1),
 (107,r1),
 (108,r1),
 (110,r1),
 (111,r1),
 (112,r1),
 (114,r1),
 (116,r1),
 (117,r1),
 (118,r118),
 (119,r118),
 (120,r1),
 (121,r1),
 (122,r1),
 (123,r1),
 (124,r1),
 (125,r125),
 (126,r125),
 (128,r1),
 (129,r1),
 (130,r1),
 (131,r12),
 (132,r1),
 (133,r1),
 (134,r1),
 (135,⟨.ptr 91,1,8,[.nilp],none⟩),
 (137,r1),
 (138,r1),
 (139,r1),
 (140,r1),
 (141,⟨.strct true [(0,3),(1,3),(2,3),(3,9)],4,40,[.int .i64 0,.int .i64 0,.int .i64 0,.str []],none⟩),
 (142,⟨.strct true [(0,3),(1,3),(2,3),(3,9)],4,40,[.int .i64 0,.int .i64 0,.int .i64 0,.str []],some (.st .version)⟩),
 (144,r1),
 (146,r1),
 (147,⟨.ptr 103,1,8,[.nilp],none⟩),
 (148,r1),
 (149,r1),
 (150,r1),
 (151,r1),
 (152,r1),
 (153,r1),
 (154,r1),
 (156,r1),
 (158,r1),
 (159,r1),
 (160,r1),
 (162,r1),
 (163,r1),
 (164,⟨.slice 5,1,24,[.nils],some (.lst (.int .u8))⟩),
 (165,r1),
 (166,r1),
 (167,r1),
 (168,r1),
 (169,r1),
 (170,r1),
 (171,r1),
 (172,r2),
 (174,r1),
 (175,r1),
 (176,r1),
 (178,r1),
 (179,r1),
 (180,⟨.int .u32,1,4,[.int .u32 0],some (.int .u32)⟩),
 (181,r1),
 (182,r12),
 (184,r1),
 (185,r1),
 (189,r1),
 (190,r1),
 (191,⟨.ptr 187,1,8,[.nilp],none⟩),
 (193,r1),
 (194,r1),
 (195,⟨.arr 3 3,3,24,[.int .i64 0,.int .i64 0,.int .i64 0],none⟩),
 (196,r20),
 (197,r20),
 (199,r1),
 (200,r1),
 (201,r1),
 (202,r1),
 (203,r1),
 (205,r1),
 (206,r1),
 (207,r1),
 (208,r1),
 (209,r1),
 (210,r1),
 (212,r1),
 (213,r1),
 (214,r1),
 (216,r1),
 (217,r1),
 (218,r1),
 (219,r1),
 (220,r1),
 (222,r222),
 (223,r222),
 (225,r1),
 (226,r1),
 (227,r12),
 (228,r1),
 (229,r1),
 (230,r1),
 (231,⟨.ptr 3,1,8,[.nilp],none⟩),
 (232,r1),
 (233,r1),
 (234,r1),
 (235,r1),
 (236,r1),
 (237,⟨.ptr 258,1,8,[.nilp],none⟩),
 (238,r1),
 (239,r1),
 (240,⟨.ptr 266,1,8,[.nilp],none⟩),
 (241,r1),
 (242,r1),
 (243,r1),
 (244,r1),
 (245,r1),
 (246,⟨.ptr 227,1,8,[.nilp],none⟩),
 (247,r1),
 (248,r1),
 (249,r1),
 (250,r2),
 (252,r1),
 (253,⟨.ptr 280,1,8,[.nilp],none⟩),
 (254,r1),
 (255,r1),
 (256,r1),
 (257,r257),
 (258,r257),
 (259,⟨.ptr 34,1,8,[.nilp],none⟩),
 (260,r1),
 (261,r1),
 (262,⟨.strct true [(0,9),(1,9)],2,32,[.str [],.str []],none⟩),
 (263,⟨.strct true [(0,9),(1,9)],2,32,[.str [],.str []],some (.st .nm)⟩),
 (264,⟨.map 263 34,1,8,[.nilm],none⟩),
 (265,r265),
 (266,r265),
 (267,r1),
 (268,r1),
 (269,r1),
 (270,r1),
 (271,r1),
 (272,r1),
 (273,r1),
 (274,r1),
 (275,r1),
 (277,r1),
 (278,r1),
 (279,r279),
 (280,r279),
 (281,r1),
 (282,r1),
 (283,r1),
 (285,r1),
 (286,r1),
 (287,⟨.ptr 5,1,8,[.nilp],none⟩),
 (288,⟨.ptr 290,1,8,[.nilp],none⟩),
 (289,r289),
 (290,r289),
 (291,r1),
 (292,r1),
 (294,r1),
 (296,r1),
 (297,r1),
 (302,r1),
 (303,r303),
 (304,r303),
 (308,r1),
 (309,r5),
 (310,r5),
 (311,r1),
 (312,r21),
 (313,r21),
 (314,r314),
 (315,r314)]
theorem tk{t:Nat}{r:TR}(h1:(Tryz.prog.info? t).map (fun i=>(i.size,i.bytes,i.zero.map fun z=>z.cells.toList.map cm))=some (r.size,r.bytes,some r.zero):=by kernel_rfl)
 (h2:(Tryz.prog.underlying t).map (aZ Tryz.prog r.ti)=some true:=by kernel_rfl)
 (h3:(ff r.zero r.size&&(Nat.beq r.size 0||Nat.blt 0 r.bytes)&&(match r.ty with | some τ=>Nat.beq (ai τ) r.size&&(Fv τ ==r.isAgg) | none=>true))=true:=by kernel_rfl)
 (h8:(Tryz.prog.info? t).map (fun i=>i.zero.map fun z=>xQ z ==r.isAgg)=some (some true):=by kernel_rfl)
 (h9:(match r.ti with|.strct true _=>!Tryz.prog.stoodInHeld t&&!Tryz.prog.eqGuardType Tryz.prog.depth t|_=>true)=true:=by kernel_rfl):TRok Tryz.prog t r:=TRok.mk' h1 h2 h3 h8 h9
theorem qJ:bz Tryz.prog tbl:=
 .cons tk (.cons tk (.cons tk (.cons tk (.cons tk (.cons tk (.cons tk (.cons tk (.cons tk (.cons tk (.cons tk (.cons tk (.cons tk (.cons tk (.cons tk (.cons tk (.cons tk (.cons tk (.cons tk (.cons tk (.cons tk (.cons tk (.cons tk (.cons tk (.cons tk (.cons tk (.cons tk (.cons tk (.cons tk (.cons tk (.cons tk (.cons tk (.cons tk (.cons tk (.cons tk (.cons tk (.cons tk (.cons tk (.cons tk (.cons tk (.cons tk (.cons tk (.cons tk (.cons tk (.cons tk (.cons tk (.cons tk (.cons tk (.cons tk (.cons tk (.cons tk (.cons tk (.cons tk (.cons tk (.cons tk (.cons tk (.cons tk (.cons tk (.cons tk (.cons tk (.cons tk (.cons tk (.cons tk (.cons tk (.cons tk (.cons tk (.cons tk (.cons tk (.cons tk (.cons tk (.cons tk (.cons tk (.cons tk (.cons tk (.cons tk (.cons tk (.cons tk (.cons tk (.cons tk (.cons tk (.cons tk (.cons tk (.cons tk (.cons tk (.cons tk (.cons tk (.cons tk (.cons tk (.cons tk (.cons tk (.cons tk (.cons tk (.cons tk (.cons tk (.cons tk (.cons tk (.cons tk (.cons tk (.cons tk (.cons tk (.cons tk (.cons tk (.cons tk (.cons tk (.cons tk (.cons tk (.cons tk (.cons tk (.cons tk (.cons tk (.cons tk (.cons tk (.cons tk (.cons tk (.cons tk (.cons tk (.cons tk (.cons tk (.cons tk (.cons tk (.cons tk (.cons tk (.cons tk (.cons tk (.cons tk (.cons tk (.cons tk (.cons tk (.cons tk (.cons tk (.cons tk (.cons tk (.cons tk (.cons tk (.cons tk (.cons tk (.cons tk (.cons tk (.cons tk (.cons tk (.cons tk (.cons tk (.cons tk (.cons tk (.cons tk (.cons tk (.cons tk (.cons tk (.cons tk (.cons tk (.cons tk (.cons tk (.cons tk (.cons tk (.cons tk (.cons tk (.cons tk (.cons tk (.cons tk (.cons tk (.cons tk (.cons tk (.cons tk (.cons tk (.cons tk (.cons tk (.cons tk (.cons tk (.cons tk (.cons tk (.cons tk (.cons tk (.cons tk (.cons tk (.cons tk (.cons tk (.cons tk (.cons tk (.cons tk (.cons tk (.cons tk (.cons tk (.cons tk (.cons tk (.cons tk (.cons tk (.cons tk (.cons tk (.cons tk (.cons tk (.cons tk (.cons tk (.cons tk (.cons tk (.cons tk (.cons tk (.cons tk (.cons tk (.cons tk (.cons tk (.cons tk (.cons tk (.cons tk (.cons tk (.cons tk (.cons tk (.cons tk (.cons tk (.cons tk (.cons tk (.cons tk (.cons tk (.cons tk (.cons tk (.cons tk (.cons tk (.cons tk (.cons tk (.cons tk (.cons tk (.cons tk (.cons tk (.cons tk (.cons tk (.cons tk (.cons tk (.cons tk (.cons tk (.cons tk (.cons tk (.cons tk (.cons tk (.cons tk (.cons tk (.cons tk (.cons tk (.cons tk (.cons tk (.cons tk (.cons tk (.cons tk (.cons tk (.cons tk (.cons tk (.cons tk (.cons tk (.cons tk (.cons tk (.cons tk (.cons tk (.cons tk (.cons tk (.cons tk (.cons tk (.cons tk (.cons tk (.cons tk (.cons tk (.cons tk (.cons tk (.cons tk (.cons tk (.cons tk (.cons tk (.cons tk (.cons tk (.cons tk (.cons tk (.cons tk (.cons tk (.cons tk (.cons tk (.cons tk (.nil)))))))))))))))))))))))))))))))))))))))))))))))))))))))))))))))))))))))))))))))))))))))))))))))))))))))))))))))))))))))))))))))))))))))))))))))))))))))))))))))))))))))))))))))))))))))))))))))))))))))))))))))))))))))))))))))))))))))))))))))))))))))))))))))))))))))))))))))))
theorem mixed:Tryz.prog.follows .mixedOrders=true:=by kernel_rfl
end Go.AL.Seat
end
noncomputable section
namespace Go.AL
variable [Tabs]
def Hd:AV->Bool
 |.ptr k 0=>bU k
 |_=>false
def ptrIn(ks:List Nat):AV->Bool
 |.ptr k _=>ks.contains k
 |_=>false
def G4(ks:List Nat)(t:List (Nat×AV)):List (Nat×AV):=t.map fun x=>(x.1,if ptrIn ks x.2 then x.2 else .undef)
structure RC where
 r0:Code
 rest:Code
 crest:Code
 t5:Nat
 caps:List Operand
 t6:Nat
 t3:Nat
def He(g:Nat)(c cc:Code):Option RC:=
 match c,cc with
 |.seq r0 (.seq (.region _ o1 false) rest),.seq (.region _ o2 false) crest=>
  match o1.toList,o2.toList with
  |[⟨some t5,.makeFunc (.func g') fst caps,_,_,_,none⟩,⟨none,.defer ⟨.value (.tmp t5'),asx,_⟩,_,_,_,none⟩],
   [⟨some t6,.call ⟨.builtin .recover,as2,_⟩,_,_,_,none⟩,⟨some t3,.assign (.tmp t6'),_,_,_,none⟩]=>
   if Nat.beq g' g&&Nat.beq t5' t5&&Nat.beq t6' t6&&fst.isEmpty&&asx.isEmpty&&as2.isEmpty then some ⟨r0,rest,crest,t5,caps.toList,t6,t3⟩else none
  |_,_=>none
 |_,_=>none
def Eh(C:Cfg)(rs:List ResultVar)(L:List dC)(s1:St)(S1:List (Nat×SObj))(S:List (Nat×SObj))(A:Ans)(t2:List (Nat×AV))(s3:St):Prop:=
 match bw (aW s3.b)&&(aW S1).all (fun k=>(aW s3.b).contains k)with
 |true=>
  match jD C.tbl ⟨G4 (aW S1) t2,s3.b⟩ rs with
  |some l=>
   (match jB (aG s1.b) L 998 (gm S1 s3.b),mapVs (nB L 998) (gl L 998) (gl L 998) l with
   |some u',some l'=>fk ⟨[],cJ s1.b u'⟩ fun s4=>sk (some l') s4 A.val (cJ S A.upd)
   |_,_=>False)
  |none=>False
 |false=>False
def vY(C:Cfg)(annC:An)(clo:Func)(R:RC)(caps:List AV)(v:AV)(s2:St)(fin:St->Prop):Prop:=
 il (List.range clo.ntmps) fun keep=>fk ⟨j7 (dr 0 caps) R.t3 v,s2.b⟩ fun s=>swp C keep annC R.crest s fun
  |.exit _,_=>False
  |.pan _,_=>False
  |_,s3=>fin s3
def fwpR(C:Cfg)(ann annC:An)(fn:Func)(g:Nat)(clo:Func)(args:List AV)(S:List (Nat×SObj))(A:Ans):Prop:=
 match fn.body,clo.body,A.pan with
 |some c,some cc,none=>
  match He g c cc with
  |none=>False
  |some R=>
   match bW fn.ntmps c&&bW clo.ntmps cc&&Nat.blt R.t5 fn.ntmps&&kZ args fn.ntmps&&(aW S).all bU&&clo.results.isEmpty&&kZ R.caps clo.ntmps&&kZ R.caps R.t6 with
   |false=>False
   |true=>il ((List.range fn.ntmps)) fun keep=>fk ⟨dr 0 args,S⟩ fun i=>swp C keep ann R.r0 i fun
    |.normal,s1=>
     (match(aW s1.b).map (fun i=>(i,(none:Option (Nat×Nat))))with
     |L=>
      (match bw (L.map (·.1))&&Nat.ble L.length 100,mapVs (toP L) (toI L) (toI L) ((List.range fn.ntmps).map (bq s1.t)),mapVs (toP L) (toI L) (toI L) (R.caps.map (opd (bq s1.t))),lR (aG s1.b) L L 900 with
      |true,some as1,some caps,some S1=>
       (match caps.all Hd with
       |true=>fk ⟨j7 (dr 0 as1) R.t5 .undef,S1⟩ fun i=>swp C keep ann R.rest i fun
        |.exit _,_=>False
        |.pan v,s2=>vY C annC clo R caps v s2 (Eh C fn.results.toList L s1 S1 S A s2.t)
        |_,s2=>vY C annC clo R caps .nilif s2 (Eh C fn.results.toList L s1 S1 S A s2.t)
       |false=>False)
      |_,_,_,_=>False))
    |_,_=>False
 |_,_,_=>False
theorem ng:∀(u S:List (Nat×SObj))(i:Nat),bw (u.map (·.1))=true->aG (cJ S u) i=(aG u i).or (aG S i)
 |[],S,i,_=>by simp[cJ,bd,aX]
 |(j,o)::r,S,i,h=>by
  simp only[List.map_cons,bw,Bool.and_eq_true,Bool.not_eq_true']at h;simp only[cJ];rw[ng r _ i h.2,gH];simp only[bd,aX];by_cases e:j=i
  ·subst e
   have:aG r j=none:=by
    cases hb:aG r j with
    |none=>rfl
    |some o'=>have:=cY r j o' hb;have h1:=h.1;simp only[List.contains_eq_mem,decide_eq_false_iff_not,List.mem_map,not_exists,not_and]at h1;exact absurd rfl (h1 _ this)
   simp[this]
  ·simp[e]
section
variable {P:Program} {C:Cfg}
theorem V.pinned{e0 e:Nat->Option CObj}{w0 w:World}{p0 p:Nat->Nat->Prop}(hk:∀id c,e0 id=some c->∃c',e id=some c'/\CLe c c'){a:AV}{v:Value}(ha:Hd a=true)(h:V ⟨e0,w0,p0⟩ a v):V ⟨e,w,p⟩ a v:=by
 cases h with
 |ptr i o b q len he=>obtain⟨c',h1,h2⟩:=hk i _ he;have:=h2.box;subst this;exact .ptr i o b q len h1
 |_=>simp[Hd]at ha
theorem Holds.retmp'{F:Fr}{s:AS}{a a':Act}{Ω:Om}(h:Holds F s a Ω){n:Nat}{ds:List Deferred}{T:Nat->AV}(hT:∀i,V Ω (T i) (a'.tmps.getD i undef))(hs:a'.tmps.size=n)(hd:a'.defers=ds) :
  Holds ⟨F.w0,F.pub0,n,F.e0,F.dom0,ds,F.tab0⟩ ⟨T,s.B⟩ a' Ω:=
 ⟨hT,hs,hd,h.slots,h.dom,h.inj,h.pubok,h.keep,⟨h.frame.os,h.frame.tape,h.frame.output,h.frame.size,h.frame.block,h.frame.cell,h.frame.kind,h.frame.pub,h.frame.old,h.frame.pcell⟩⟩
inductive Rcv:FrameMode->AV->Om->Value->FrameMode->Prop
 |ret (Ω:Om):Rcv .returning .nilif Ω .nilIface .returning
 |pan (Ω:Om) (a:AV) (v:Value):V Ω a v->Rcv (.panicking [{v,recovered:=false}]) a Ω v (.panicking [{v,recovered:=true}])
structure RCcode(g:Nat)(R:RC)(c cc:Code):Prop where
 code:∃i1 i2 ty1 ps1 af1 ty2 ps2 af2 ts2 ty3 ps3 af3 ts3 ty4 ps4 af4,
  c=.seq R.r0 (.seq (.region i1 #[⟨some R.t5,.makeFunc (.func g) #[] R.caps.toArray,ty1,ps1,af1,none⟩,⟨none,.defer ⟨.value (.tmp R.t5),#[],ts2⟩,ty2,ps2,af2,none⟩] false) R.rest)/\
  cc=.seq (.region i2 #[⟨some R.t6,.call ⟨.builtin .recover,#[],ts3⟩,ty3,ps3,af3,none⟩,⟨some R.t3,.assign (.tmp R.t6),ty4,ps4,af4,none⟩] false) R.crest
theorem Ei{g:Nat}{c cc:Code}{R:RC}(h:He g c cc=some R):RCcode g R c cc:=by
 unfold He at h;split at h
 ·rename_i r0 i1 o1 rest i2 o2 crest;split at h
  ·rename_i h1 h2;split at h
   ·rename_i hc;simp only[Bool.and_eq_true,Nat.beq_eq,Array.isEmpty_iff]at hc;obtain⟨⟨⟨⟨⟨rfl,rfl⟩,rfl⟩,rfl⟩,rfl⟩,rfl⟩:=hc;simp only[Xs]at h;subst h;have e1:=congrArg List.toArray h1;have e2:=congrArg List.toArray h2;simp only[Array.toArray_toList]at e1 e2;subst e1 e2;exact⟨_,_,_,_,_,_,_,_,_,_,_,_,_,_,_,_,rfl,rfl⟩
   ·cases h
  ·cases h
 ·cases h
theorem oj{ts:Array Nat}{d:Option Nat}{ty:Nat}{ps:String}{af:Array Edge}{ρ:Operand->Value}{w:World} :
  (execOp ρ ⟨d,.call ⟨.builtin .recover,#[],ts⟩,ty,ps,af,none⟩).run P w=.ok .recover w:=by
 simp[execOp,resolve,invoke,builtin]
theorem yT(hm:P.follows .mixedOrders=true)(hT:bz P C.tbl)(hS:cn P C.spec){g:Nat}{clo:Func}{c cc:Code}{R:RC}(hR:RCcode g R c cc)(hg:P.funcs[g]?=some clo)(hb:clo.body=some cc)
 (hd:bW clo.ntmps cc=true)(hres:clo.results=#[]){caps:List AV}(hcl:caps.length<=clo.ntmps)(hc6:caps.length<=R.t6){F:Fr}{s2:St}{a2:Act}{Ω2:Om}(h:Holds F s2.abs a2 Ω2){vs:List Value}(hv:VL Ω2 caps vs)
 {u u':FrameMode}{av:AV}{v:Value}(hrc:Rcv u av Ω2 v u'){annC:An}{fin:St->Prop}(hc:vY C annC clo R caps av s2 fin) :
  CallsD P g vs.toArray u Ω2.w fun en u2 w'=>u2=u'/\en=.returned (.tuple #[])/\∃s3 Ω3 a3 T,Ω3.w=w'/\fin s3/\Holds ⟨F.w0,F.pub0,clo.ntmps,F.e0,F.dom0,[],F.tab0⟩ ⟨T,aG s3.b⟩ a3 Ω3:=by
 obtain⟨i1,i2,ty1,ps1,af1,ty2,ps2,af2,ts2,ty3,ps3,af3,ts3,ty4,ps4,af4,_,rfl⟩:=hR;refine callsD_of_wpS hg hb (fun c₀ cs hu=>?_);apply wpS_seq;apply wpS_region;simp only[bW,Bool.and_eq_true,List.all_cons,List.all_nil,Bool.and_true,Nat.blt_eq]at hd;obtain⟨⟨hd6,hd3⟩,hdc⟩:=hd;have hvs:vs.length<=clo.ntmps:=by rw[<-hv.1];exact hcl
 have hbase:Holds ⟨F.w0,F.pub0,clo.ntmps,F.e0,F.dom0,[],F.tab0⟩ ⟨bq (dr 0 caps),aG s2.b⟩ {tmps:=vs.toArray++Array.replicate (clo.ntmps-vs.toArray.size) undef,defers:=[]} Ω2:=
  h.retmp' (fun i=>iT _ hv i) (by simp;omega) rfl
 have key:∃cs',(∃c1,cs'=c1::cs/\c1={c₀ with mode:=u'})/\∀Q':Exit->Act->List Frame->World->Prop,Q' .normal (({tmps:=vs.toArray++Array.replicate (clo.ntmps-vs.toArray.size) undef,defers:=[]}:Act).put (some R.t6) v|>.put (some R.t3) v) cs' Ω2.w->
   wpOpsS P #[⟨some R.t6,.call ⟨.builtin .recover,#[],ts3⟩,ty3,ps3,af3,none⟩,⟨some R.t3,.assign (.tmp R.t6),ty4,ps4,af4,none⟩] Q' [0,1] {tmps:=vs.toArray++Array.replicate (clo.ntmps-vs.toArray.size) undef,defers:=[]} (c₀::cs) Ω2.w:=by
  have two:∀(cs':List Frame)(Q':Exit->Act->List Frame->World->Prop),Q' .normal (({tmps:=vs.toArray++Array.replicate (clo.ntmps-vs.toArray.size) undef,defers:=[]}:Act).put (some R.t6) v|>.put (some R.t3) v) cs' Ω2.w->
    wpOpsS P #[⟨some R.t6,.call ⟨.builtin .recover,#[],ts3⟩,ty3,ps3,af3,none⟩,⟨some R.t3,.assign (.tmp R.t6),ty4,ps4,af4,none⟩] Q' [1] (({tmps:=vs.toArray++Array.replicate (clo.ntmps-vs.toArray.size) undef,defers:=[]}:Act).put (some R.t6) v) cs' Ω2.w:=by
   intro cs' Q' hq;have he:(({tmps:=vs.toArray++Array.replicate (clo.ntmps-vs.toArray.size) undef,defers:=[]}:Act).put (some R.t6) v).eval (.tmp R.t6)=v:=by show(Act.put _ (some R.t6) v).tmps.getD R.t6 undef=v;rw[cR hbase.size hd6,if_pos rfl]
   unfold wpOpsS;simp only[List.getElem?_toArray,List.getElem?_cons_succ,List.getElem?_cons_zero,Region.wanted,if_true];have hr:(execOp (({tmps:=vs.toArray++Array.replicate (clo.ntmps-vs.toArray.size) undef,defers:=[]}:Act).put (some R.t6) v).eval ⟨some R.t3,.assign (.tmp R.t6),ty4,ps4,af4,none⟩).run P Ω2.w=.ok (.value v) Ω2.w:=by show(pure (Next.value (Act.eval _ (.tmp R.t6))):Sem Next).run P Ω2.w=_;rw[he];rfl
   rw[hr];simp only[Oper.upon];exact hq
  cases hrc with
  |ret=>refine⟨_,⟨c₀,rfl,by cases c₀;simp only at hu;subst hu;rfl⟩,fun Q' hq=>?_⟩;unfold wpOpsS;simp only[List.getElem?_toArray,List.getElem?_cons_zero,Region.wanted,if_true];rw[oj];simp only[recoverD,hu];exact two _ Q' hq
  |pan _ _ hv'=>refine⟨_,⟨_,rfl,rfl⟩,fun Q' hq=>?_⟩;unfold wpOpsS;simp only[List.getElem?_toArray,List.getElem?_cons_zero,Region.wanted,if_true];rw[oj];simp only[recoverD,hu];exact two _ Q' hq
 obtain⟨cs',⟨c1,rfl,hc1⟩,key⟩:=key;refine key _ ?_;refine wpS_of_wp ?_;unfold vY at hc;rw[gX,dF]at hc
 have hav:V Ω2 av v:=by
  cases hrc<;>first|exact .nilif|assumption
 have h1:=(hbase.pure (dst:=some R.t6) (val:=.undef) (v:=v) (.undef v) (fun d e=>by cases e;exact hd6)).pure (dst:=some R.t3) (val:=av) (v:=v) hav (fun d e=>by cases e;exact hd3)
 have h2:Holds ⟨F.w0,F.pub0,clo.ntmps,F.e0,F.dom0,[],F.tab0⟩ (St.abs ⟨j7 (dr 0 caps) R.t3 av,s2.b⟩) _ Ω2:=h1.weak (s':=St.abs ⟨j7 (dr 0 caps) R.t3 av,s2.b⟩) (fun i=>by
  simp only[St.abs,fI,cA];by_cases e3:R.t3=i
  ·right;simp[e3]
  ·by_cases e6:R.t6=i
   ·left;subst e6;rw[if_neg e3,fK,if_pos (Nat.zero_le _),Nat.sub_zero];simp[List.getD_eq_getElem?_getD,List.getElem?_eq_none hc6]
   ·right;simp[e3,e6]) rfl
 refine wp_mono (kN hm hT hS _ annC R.crest _ _ _ Ω2 hc hdc h2) ?_;intro e a' w' hq;obtain⟨z,s3,Ω3,q1,q2,q3,q4⟩:=hq;have fin3:fin s3->bodyPostS P clo c₀ cs (fun en u2 w'=>u2=u'/\en=.returned (.tuple #[])/\∃s3 Ω3 a3 T,Ω3.w=w'/\fin s3/\Holds ⟨F.w0,F.pub0,clo.ntmps,F.e0,F.dom0,[],F.tab0⟩ ⟨T,aG s3.b⟩ a3 Ω3) .ret a' (c1::cs) w':=by intro hf;refine⟨q3.defers,u',by rw[hc1],.tuple #[],by simp[results,hres],rfl,rfl,s3,Ω3,a',_,q2,hf,q3⟩
 cases z with
 |normal=>cases q1;exact fin3 q4
 |ret=>cases q1;exact fin3 q4
 |exit id=>exact q4.elim
 |pan v=>exact q4.elim
theorem C0{w:World}{pub:Nat->Nat->Prop}{e:Nat->Option CObj}{n:Nat}{hl:∀id c,e id=some c->bU id=true}{ds:List Deferred}{ht:gS w pub e}{T:Nat->AV}{t:List (Nat×AV)}{b b':List (Nat×SObj)}{a:Act}{Ω:Om}{l:List AV}{us:List Value}{val:AV}
 (hh:Holds ⟨w,pub,n,e,hl,ds,ht⟩ ⟨T,aG b⟩ a Ω)(k2:VL Ω l us)(hend:sk (some l) ⟨t,b⟩ val b') :
  ∃pub' e',V ⟨e',Ω.w,pub'⟩ val (if h:us.toArray.size=1 then us.toArray[0]else .tuple us.toArray)/\After w pub e (aG b') Ω.w pub' e':=by
 unfold sk at hend;split at hend
 ·rename_i x hres;cases hres;obtain⟨u,rfl⟩:=iU (by rw[<-k2.1];rfl);have h1:=hh.retmp' (T:=bq (dr 0 [x])) (a':={tmps:=[u].toArray++Array.replicate 0 undef,defers:=[]}) (n:=1) (ds:=[]) (fun i=>iT 0 k2 i) (by simp) rfl;obtain⟨Ω2,e2,hh2⟩:=dQ (s:=⟨[(0,x)],b⟩) h1 (gr hend);refine⟨Ω2.pub,Ω2.e,?_,?_⟩
  ·have:=hh2.tmps 0;rw[<-e2];exact this
  ·rw[<-e2];exact gY hh2
 ·rename_i l' hne hres;cases hres;split at hend
  ·rename_i rs;split at hend
   ·rename_i hln;have hl2:=ca _ _ hln;have h1:=hh.retmp' (T:=bq (dr 0 l)) (a':={tmps:=us.toArray++Array.replicate 0 undef,defers:=[]}) (n:=us.length) (ds:=[]) (fun i=>iT 0 k2 i) (by simp) rfl;obtain⟨Ω2,e2,hh2⟩:=dQ (s:=⟨dr 0 l,b⟩) h1 (gr hend);have hsz:¬us.toArray.size=1:=by intro h1;obtain⟨x,hx⟩:=iU (l:=l) (by rw[k2.1];simpa using h1);exact hne x hx
    rw[dif_neg hsz];refine⟨Ω2.pub,Ω2.e,?_,?_⟩
    ·refine .tup rs us (by rw[<-k2.1,<-hl2]) (fun j c v hc hv=>?_);have:=hh2.tmps j;simp only[St.abs,fK,Nat.zero_le,if_true,Nat.sub_zero,List.getD_eq_getElem?_getD,hc,Option.getD_some]at this;have e3:(us.toArray++Array.replicate 0 undef).getD j undef=v:=by simp[Array.getD_eq_getD_getElem?,hv]
     rw[e3]at this;rw[<-e2];exact this
    ·rw[<-e2];exact gY hh2
   ·exact hend.elim
  ·exact hend.elim
 ·rename_i h;cases h
theorem CLe.to_box{c:CObj}{b o l:Nat}(h:CLe c (.box b o l)):c=.box b o l:=by cases c<;>simp[CLe]at h;obtain⟨rfl,rfl,rfl⟩:=h;rfl
theorem V.ptrIn{F:Fr}{Ω2 Ω3:Om}{ks:List Nat}(h2:∀id c,F.e0 id=some c->∃c',Ω2.e id=some c'/\CLe c c')(h3:∀id c,F.e0 id=some c->∃c',Ω3.e id=some c'/\CLe c c')
 (hk:∀k∈ks,∃c,F.e0 k=some c){a:AV}{v:Value}(h:V Ω2 a v):V Ω3 (if AL.ptrIn ks a=true then a else .undef) v:=by
 split
 ·rename_i hp
  cases h with
  |ptr i o b q len he=>simp only[AL.ptrIn,List.contains_eq_mem,decide_eq_true_eq]at hp;obtain⟨c,hc⟩:=hk i hp;obtain⟨c2,e2,l2⟩:=h2 i c hc;rw[he]at e2;cases e2;have:=l2.to_box;subst this;obtain⟨c3,e3,l3⟩:=h3 i _ hc;have:=l3.box;subst this;exact .ptr i o b q len e3
  |_=>simp[AL.ptrIn]at hp
 ·exact .undef v
theorem C1(hT:bz P C.tbl){w:World}{pub:Nat->Nat->Prop}{e:Nat->Option CObj}{n n1:Nat}{hl:∀id c,e id=some c->bU id=true}{ht:gS w pub e}{s1:St}{a1:Act}{Ω1:Om}{L:List dC}{ht1:gS Ω1.w Ω1.pub (dm L Ω1.e)}(h3:Holds ⟨w,pub,n,e,hl,[],ht⟩ s1.abs a1 Ω1)
 (hdist:bw (L.map (·.1))=true){S1:List (Nat×SObj)}(hS1:lR (aG s1.b) L L 900=some S1){hl1:∀id c,dm L Ω1.e id=some c->bU id=true}(hk1:∀k∈aW S1,∃c,dm L Ω1.e k=some c)
 {ds:List Deferred}{s2:St}{a2:Act}{Ω2:Om}(q3:Holds ⟨Ω1.w,Ω1.pub,n,dm L Ω1.e,hl1,ds,ht1⟩ s2.abs a2 Ω2){s3:St}{a3:Act}{Ω3:Om}{T:Nat->AV}(h5:Holds ⟨Ω1.w,Ω1.pub,n1,dm L Ω1.e,hl1,[],ht1⟩ ⟨T,aG s3.b⟩ a3 Ω3)
 {fn:Func}{S:List (Nat×SObj)}{A:Ans}(hpan:A.pan=none)(hf:Eh C fn.results.toList L s1 S1 S A s2.t s3) :
  ∃v,(results fn a2.tmps).run P Ω3.w=.ok v Ω3.w/\∃pub' e',(∀b pv u,A.pan=some (b,pv,u)->b=false)/\V ⟨e',Ω3.w,pub'⟩ A.val v/\After w pub e (aG (cJ S A.upd)) Ω3.w pub' e':=by
 unfold Eh at hf;split at hf
 ·rename_i hck;simp only[Bool.and_eq_true,List.all_eq_true]at hck;obtain⟨hd3,hin⟩:=hck;split at hf
  ·rename_i l hres;split at hf
   ·rename_i u' l' hu' hl';rw[dF]at hf
    have hR:Holds ⟨Ω1.w,Ω1.pub,n,dm L Ω1.e,hl1,ds,ht1⟩ (St.abs ⟨G4 (aW S1) s2.t,s3.b⟩) a2 Ω3:=by
     have:=h5.retmp' (T:=bq (G4 (aW S1) s2.t)) (a':=a2) (n:=n) (ds:=ds) (fun i=>by
      rw[show bq (G4 (aW S1) s2.t) i=if ptrIn (aW S1) (bq s2.t i)=true then bq s2.t i else .undef from mc (fun x=>if ptrIn (aW S1) x=true then x else .undef) (by simp[ptrIn]) s2.t i];exact V.ptrIn (F:=⟨Ω1.w,Ω1.pub,n,dm L Ω1.e,hl1,ds,ht1⟩) q3.keep h5.keep hk1 (q3.tmps i)) q3.size q3.defers
     exact this
    obtain⟨us,k1,k2⟩:=eV hT hR _ _ hres;have hmap:(results fn a2.tmps).run P Ω3.w=.ok (if h:us.toArray.size=1 then us.toArray[0]else .tuple us.toArray) Ω3.w:=by rw[lC,<-Array.toArray_toList (xs:=fn.results),List.mapM_toArray];simp only[Sem.run_bind,Sem.run_map,k1,Result.andThen_ok,Sem.run_pure]
    have hB:aG (cJ S1 s3.b)=aG s3.b:=by
     funext i;rw[ng _ _ _ hd3]
     cases h:aG s3.b i with
     |some o=>rfl
     |none=>
      cases h':aG S1 i with
      |none=>rfl
      |some o=>have:=hin i (List.mem_map.2 ⟨(i,o),cY _ _ _ h',rfl⟩);simp only[List.contains_eq_mem,decide_eq_true_eq]at this;exact absurd this (iS _ _ h)
    have hA:After Ω1.w Ω1.pub (dm L Ω1.e) (aG (cJ S1 s3.b)) Ω3.w Ω3.pub Ω3.e:=by rw[hB];exact gY (h5.retmp' (T:=T) (a':=a3) (n:=n1) (ds:=[]) h5.tmps h5.size h5.defers)
    obtain⟨Ω',w1,w2,w3⟩:=mQ h3 (d:=998) (by omega) hdist hS1 hd3 hu' (val:=.tup l) (val':=.tup l') (by simp only[mapV,hl']) (v:=.tuple us.toArray) (V.of_tup k2) hA;obtain⟨us',e1,k3⟩:=w2.tup_inv;have e2:us=us':=by have:=congrArg Array.toList (Value.tuple.inj e1);simpa using this
    subst e2;rw[show s1.abs.B=aG s1.b from rfl,<-iR]at w3;obtain⟨pub',e',p1,p2⟩:=C0 (T:=s1.abs.T) (b:=cJ s1.b u') (t:=[]) w3 k3 hf;rw[w1]at p1 p2;exact⟨_,hmap,pub',e',(fun b pv u h=>by rw[hpan]at h;cases h),p1,p2⟩
   ·exact hf.elim
  ·exact hf.elim
 ·exact hf.elim
theorem fwpR_sound(hm:P.follows .mixedOrders=true)(hT:bz P C.tbl)(hS:cn P C.spec){ann annC:An}{f g:Nat}{fn clo:Func}(hf:P.funcs[f]?=some fn)(hg:P.funcs[g]?=some clo)
 (eg:∀args w,(callFunc g args).run P w=.ok (.enter g args) w){args:List AV}{S:List (Nat×SObj)}{A:Ans}(h:fwpR C ann annC fn g clo args S A):aF P f args S A:=by
 intro w pub e vs hp ht hv hs hdom hinj;unfold fwpR at h;split at h
 ·rename_i c cc hb hcb hpan;split at h
  ·exact h.elim
  ·rename_i R hR;split at h
   ·exact h.elim
   ·rename_i hck;simp only[Bool.and_eq_true,List.all_eq_true,Array.isEmpty_iff,Nat.blt_eq]at hck;obtain⟨⟨⟨⟨⟨⟨⟨hk1,hk2⟩,hk5⟩,hk3⟩,hk4⟩,hres⟩,hcl⟩,hc6⟩:=hck;have hlen:=dV _ _ hk3;have hcl:=dV _ _ hcl;have hc6:=dV _ _ hc6;rw[gX,dF]at h
    have hlent:∀id c,e id=some c->bU id=true:=by
     intro id c hc
     cases hg:aG S id with
     |none=>rw[hdom id hg]at hc;cases hc
     |some o=>exact hk4 id (List.mem_map.2 ⟨(id,o),cY _ _ _ hg,rfl⟩)
    have hRc:=Ei hR;obtain⟨i1,i2,ty1,ps1,af1,ty2,ps2,af2,ts2,ty3,ps3,af3,ts3,ty4,ps4,af4,rfl,_⟩:=id hRc;refine calls_of_wp_defers hf hb ?_;have hh:=jr (n:=fn.ntmps) hp ht hv hlen hs hdom hinj hlent;have hdr:bW fn.ntmps R.r0=true/\bW fn.ntmps R.rest=true:=by simp only[bW,Bool.and_eq_true]at hk1;exact⟨hk1.1,hk1.2.2⟩
    refine wp_seq (wp_mono (kN (F:=⟨w,pub,fn.ntmps,e,hlent,[],ht⟩) hm hT hS _ ann R.r0 _ _ _ _ h hdr.1 hh) ?_);intro en a1 w1 hq;obtain⟨z,s1,Ω1,q1,rfl,h3,h4⟩:=hq
    cases z with
    |exit id=>exact h4.elim
    |ret=>exact h4.elim
    |pan pv=>exact h4.elim
    |normal=>
     cases q1;simp only at h4;generalize hLL:(aW s1.b).map (fun i=>(i,(none:Option (Nat×Nat))))=L at h4;split at h4
     ·rename_i as1 caps S1 hdl has hcaps hS1;simp only[Bool.and_eq_true,Nat.ble_eq]at hdl;obtain⟨hdist,hL100⟩:=hdl;split at h4
      ·rename_i hcp;rw[dF]at h4;obtain⟨k1,k2,k3⟩:=gG L 900 S1 hS1;refine wp_seq (wp_region ?_);show wpOps P _ _ [0,1] a1 Ω1.w;refine cZ (o:=⟨some R.t5,.makeFunc (.func g) #[] R.caps.toArray,ty1,ps1,af1,none⟩) rfl rfl (aQ (v:=.func (.func g) #[] (R.caps.toArray.map a1.eval)) (w':=Ω1.w) (by simp[execOp,Instr.makeFunc]) ?_);have he5:(a1.put (some R.t5) (.func (.func g) #[] (R.caps.toArray.map a1.eval))).eval (.tmp R.t5)=.func (.func g) #[] (R.caps.toArray.map a1.eval):=by show(Act.put a1 (some R.t5) _).tmps.getD R.t5 undef=_;rw[cR h3.size hk5,if_pos rfl]
       refine cZ (o:=⟨none,.defer ⟨.value (.tmp R.t5),#[],ts2⟩,ty2,ps2,af2,none⟩) rfl rfl ?_;have hrun:(execOp (a1.put (some R.t5) (.func (.func g) #[] (R.caps.toArray.map a1.eval))).eval ⟨none,.defer ⟨.value (.tmp R.t5),#[],ts2⟩,ty2,ps2,af2,none⟩).run P Ω1.w=.ok (.defer {target:=.fn (.func g) (R.caps.toArray.map a1.eval),args:=#[]}) Ω1.w:=by have he5':=he5;simp only[List.map_toArray]at he5';simp[execOp,resolve,he5',Deferred.ofValue]
       unfold Oper.wp;rw[hrun];have hcv:R.caps.toArray.map a1.eval=(R.caps.map a1.eval).toArray:=by simp
       have hdef0:a1.defers=[]:=h3.defers
       have hvl1:VL Ω1 ((List.range fn.ntmps).map (bq s1.t)) a1.tmps.toList:=by
        have hz:a1.tmps.size=fn.ntmps:=h3.size;refine⟨by simp;omega,fun j c v hc hv=>?_⟩;simp only[List.getElem?_map,Option.map_eq_some_iff]at hc;obtain⟨q,hq,rfl⟩:=hc;have hqj:q=j:=by have:=List.getElem?_eq_some_iff.1 hq;obtain⟨_,e⟩:=this;simpa using e.symm
        subst hqj;have:=h3.tmps q;rw[Array.getElem?_toList]at hv;simp only[Array.getD_eq_getD_getElem?,hv,Option.getD_some]at this;exact this
       have hvc1:VL Ω1 (R.caps.map (opd (bq s1.t))) (R.caps.map a1.eval):=by refine⟨by simp,fun j c v hc hv=>?_⟩;simp only[List.getElem?_map,Option.map_eq_some_iff]at hc hv;obtain⟨x,hx,rfl⟩:=hc;obtain⟨y,hy,rfl⟩:=hv;rw[hx]at hy;cases hy;exact bG h3 x
       have hvl:=hvl1.mapVs (jU L Ω1.e) has;have hvc:=hvc1.mapVs (jU L Ω1.e) hcaps;have hlent1:∀k i r,bB L k=some (i,r)->∃o o',s1.abs.B i=some o/\fg L r o=some o'/\aG S1 k=some o':=by intro k i r hk;obtain⟨h1,h2⟩:=eU hk;obtain⟨o,o',q1,q2,q3⟩:=k2 _ i r h2;rw[show 900+(k-900)=k by omega]at q3;exact⟨o,o',q1,q2,q3⟩
       have hLs:∀q i r,nth L q=some (i,r)->∃o o',s1.abs.B i=some o/\fg L r o=some o':=fun q i r hq=>let ⟨o,o',q1,q2,_⟩:=k2 q i r hq;⟨o,o',q1,q2⟩
       have hslots:∀id o,aG S1 id=some o->bJ ⟨dm L Ω1.e,Ω1.w,Ω1.pub⟩ (fun _ _=>True) id o:=fun id o' ho'=>by obtain⟨q,i,r,o2,e1,e2,e3,e4⟩:=k1 id o' ho';subst e1;exact vt (cU (kK L i 900 q r hdist e2)) (h3.slots i o2 e3) e4
       have hdom1:∀id,aG S1 id=none->dm L Ω1.e id=none:=fun id hid=>by
        unfold dm
        cases hl:bB L id with
        |none=>rfl
        |some x=>obtain⟨o1,o2,_,_,q3⟩:=hlent1 id x.1 x.2 hl;rw[hid]at q3;cases q3
       have hinj1:Inj (dm L Ω1.e):=fun i j c c' b oo hi hj ho1 ho2=>by obtain⟨i1,r1,c1,p1,p2,p3⟩:=iQ h3.slots hLs hi;obtain⟨i2,r2,c2,p4,p5,p6⟩:=iQ h3.slots hLs hj;have:=h3.inj i1 i2 c1 c2 b oo p2 p5 (p3 b oo ho1) (p6 b oo ho2);subst this;have a1:=dy hdist p1;have a2:=dy hdist p4;rw[a1]at a2;simp at a2;exact a2.1
       have hpin:∀id c,dm L Ω1.e id=some c->bU id=true:=by
        intro id c hc
        cases hg:aG S1 id with
        |none=>rw[hdom1 id hg]at hc;cases hc
        |some o=>have:=k3 (id,o) (cY _ _ _ hg);simp only[bU,Bool.and_eq_true,Nat.ble_eq,Nat.blt_eq];simp only at this;omega
       have hkS:∀k∈aW S1,∃c,dm L Ω1.e k=some c:=by
        intro k hk;obtain⟨x,hx,rfl⟩:=List.mem_map.1 hk
        cases hg:aG S1 x.1 with
        |none=>exact absurd (List.mem_map.2 ⟨x,hx,rfl⟩) (iS _ _ hg)
        |some o=>
         have hso:=hslots x.1 o hg
         cases o with
         |box c=>obtain⟨_,_,e1,_⟩:=hso;exact⟨_,e1⟩
         |tail τ n=>obtain⟨_,_,e1,_⟩:=hso;exact⟨_,e1⟩
         |map κ τ m=>obtain⟨_,e1,_⟩:=hso;exact⟨_,e1⟩
         |bld t u l=>obtain⟨_,_,e1,_⟩:=hso;exact⟨_,e1⟩
         |tailp τ n x=>obtain⟨_,_,e1,_⟩:=hso;exact⟨_,e1⟩
       have hlen1:as1.length<=fn.ntmps:=by have:=hvl.1;rw[this,Array.length_toList,h3.size];exact Nat.le_refl _
       have hi1:=jr (n:=fn.ntmps) h3.pubok (h3.tabsC hLs) hvl hlen1 hslots hdom1 hinj1 hpin
       have hi2:=hi1.retmp' (T:=bq (dr 0 as1)) (a':={tmps:=a1.tmps,defers:=[{target:=.fn (.func g) (R.caps.toArray.map a1.eval),args:=#[]}]}) (n:=fn.ntmps) (ds:=[{target:=.fn (.func g) (R.caps.toArray.map a1.eval),args:=#[]}])
        (fun i=>by
         have:=hi1.tmps i;have e0:(a1.tmps.toList.toArray++Array.replicate (fn.ntmps-a1.tmps.toList.toArray.size) undef)=a1.tmps:=by have hz:a1.tmps.size=fn.ntmps:=h3.size;apply Array.ext';simp[hz]
         rw[e0]at this;exact this) h3.size rfl
       have hi3:=hi2.pure (dst:=some R.t5) (val:=.undef) (v:=.func (.func g) #[] (R.caps.toArray.map a1.eval)) (.undef _) (fun d e=>by cases e;exact hk5)
       have hi4:=hi3.weak (s':=St.abs ⟨j7 (dr 0 as1) R.t5 .undef,S1⟩) (fun i=>by
        simp only[St.abs,fI,cA];by_cases e5:R.t5=i
        ·left;simp[e5]
        ·right;simp[e5]) rfl
       have hact:(({tmps:=a1.tmps,defers:=[{target:=.fn (.func g) (R.caps.toArray.map a1.eval),args:=#[]}]}:Act).put (some R.t5) (.func (.func g) #[] (R.caps.toArray.map a1.eval)))=
         ({(a1.put (some R.t5) (.func (.func g) #[] (R.caps.toArray.map a1.eval)))with defers:={target:=.fn (.func g) (R.caps.toArray.map a1.eval),args:=#[]}::(a1.put (some R.t5) (.func (.func g) #[] (R.caps.toArray.map a1.eval))).defers}:Act).put none undef:=by
        simp[Act.put,hdef0]
       show Code.wp P R.rest _ (({(a1.put (some R.t5) (.func (.func g) #[] (R.caps.toArray.map a1.eval)))with defers:={target:=.fn (.func g) (R.caps.toArray.map a1.eval),args:=#[]}::(a1.put (some R.t5) (.func (.func g) #[] (R.caps.toArray.map a1.eval))).defers}:Act).put none undef) Ω1.w;rw[<-hact];refine wp_mono (kN hm hT hS _ ann R.rest _ _ _ ⟨dm L Ω1.e,Ω1.w,Ω1.pub⟩ h4 hdr.2 hi4) ?_;intro en a2 w2 hq;obtain⟨z,s2,Ω2,g1,rfl,g3,g4⟩:=hq;have hcv2:VL Ω2 caps (R.caps.map a1.eval):=by refine⟨hvc.1,fun j c v hc hv=>?_⟩;exact V.pinned g3.keep (List.all_eq_true.1 hcp c (List.mem_of_getElem? hc)) (hvc.2 j c v hc hv)
       have hcl':caps.length<=clo.ntmps:=by rw[hvc.1,List.length_map];exact hcl
       have hc6':caps.length<=R.t6:=by rw[hvc.1,List.length_map];exact hc6
       have close:∀(u u':FrameMode)(av:AV)(v:Value),u≠.run->settle u'=.returning->Rcv u av Ω2 v u'->vY C annC clo R caps av s2 (Eh C fn.results.toList L s1 S1 S A s2.t)->
         Leaves P fn a2.tmps (fun en w'=>∃pub' e',match en with
          |.returned v=>(∀b pv u,A.pan=some (b,pv,u)->b=false)/\V ⟨e',w',pub'⟩ A.val v/\After w pub e (aG (cJ S A.upd)) w' pub' e'
          |.panicked ch=>∃pv u v,A.pan=some (true,pv,u)/\ch=[{v,recovered:=false}]/\V ⟨e',w',pub'⟩ pv v/\After w pub e (aG (cJ S u)) w' pub' e'
          |.outgrown=>False) [{target:=.fn (.func g) (R.caps.toArray.map a1.eval),args:=#[]}] u Ω2.w:=by
        intro u u' av v hu hse hrc hcr;refine leaves_cons (f:=g) (args:=(R.caps.map a1.eval).toArray) hu (by simp[invoke,eg]) ?_;refine(yT hm hT hS hRc hg hcb hk2 hres hcl' hc6' g3 hcv2 hrc hcr).mono ?_;rintro en u2 w3 ⟨rfl,rfl,s3,Ω3,a3,T3,rfl,hfin,h5⟩;simp only[hse,Leaves];obtain⟨v,r1,pub',e',r2,r3,r4⟩:=C1 hT h3 hdist hS1 hkS g3 h5 hpan hfin;exact⟨v,r1,pub',e',r2,r3,r4⟩
       have hds:a2.defers=[{target:=.fn (.func g) (R.caps.toArray.map a1.eval),args:=#[]}]:=g3.defers
       cases z with
       |normal=>cases g1;show Leaves P fn a2.tmps _ a2.defers .returning Ω2.w;rw[hds];exact close .returning .returning .nilif .nilIface (by simp) rfl (.ret Ω2) g4
       |ret=>cases g1;show Leaves P fn a2.tmps _ a2.defers .returning Ω2.w;rw[hds];exact close .returning .returning .nilif .nilIface (by simp) rfl (.ret Ω2) g4
       |exit id=>exact g4.elim
       |pan pv=>obtain⟨v,rfl,hv⟩:=g1;show Leaves P fn a2.tmps _ a2.defers (.panicking [{v,recovered:=false}]) Ω2.w;rw[hds];exact close _ (.panicking [{v,recovered:=true}]) pv v (by simp) (by simp[settle]) (.pan Ω2 pv v hv) g4
      ·exact h4.elim
     ·exact h4.elim
 ·exact h.elim
end
end Go.AL
end
section
open Go Go.AL Go.Pd
namespace Go.AL.Seat
theorem G5(c:Int)(hc:0<=c/\c<=400) :
  inR IntKind.i64 (c+(1:Int))/\if decide ((400:Int)<c+(1:Int))=true then decide ((400:Int)<c+(1:Int))=true/\c+(1:Int)=c+(1:Int)/\True else decide ((400:Int)<c+(1:Int))=false/\c+(1:Int)=c+(1:Int)/\True:=by
 refine⟨b8 (by omega) (by omega),ab (fun h=>?_) (fun h=>?_)⟩
 ·exact⟨h,rfl,trivial⟩
 ·exact⟨by simpa using h,rfl,trivial⟩
theorem G6(n:Nat)(s:Shape)(l c:Int)(hs:Wf (.st .shape) s)(hn:sz s<=n+1)(hc:0<=c/\c<=400/\1<=l/\l<=c+1) :
  ((0:Int)<=c/\c<=(400:Int))/\if decide ((400:Int)<c+(1:Int))=true then decide ((400:Int)<c+(↑(sz s):Int))=true/\c+(1:Int)=(401:Int)/\True else(∃(x:Nat×Int),(x.1<=List.length s.parts/\c+(1:Int)+(↑(szL (List.take x.1 s.parts)):Int)<=(400:Int)/\deepL (List.drop x.1 s.parts) (l+(1:Int)) x.2=deepS s l)/\l=x.2/\(0:Int)=(↑x.1:Int)/\s=s/\l=l/\(0:Int)=(0:Int)/\s.parts=s.parts/\(↑(List.length s.parts):Int)=(↑(List.length s.parts):Int)/\c+(1:Int)=c+(1:Int)+(↑(szL (List.take x.1 s.parts)):Int)/\s=s/\True)/\∀(x:Nat×Int),x.1<=List.length s.parts/\c+(1:Int)+(↑(szL (List.take x.1 s.parts)):Int)<=(400:Int)/\deepL (List.drop x.1 s.parts) (l+(1:Int)) x.2=deepS s l->if decide ((↑x.1:Int)<(↑(List.length s.parts):Int))=true then((0:Int)<=(↑x.1:Int)/\(↑x.1:Int)<(↑(List.length s.parts):Int))/\inR IntKind.i64 (l+(1:Int))/\(sz (List.getD s.parts (Int.toNat (↑x.1:Int)) (dfl (Ty.st SN.shape)))<=n/\(0:Int)<=c+(1:Int)+(↑(szL (List.take x.1 s.parts)):Int)/\c+(1:Int)+(↑(szL (List.take x.1 s.parts)):Int)<=(400:Int)/\(1:Int)<=l+(1:Int)/\l+(1:Int)<=c+(1:Int)+(↑(szL (List.take x.1 s.parts)):Int)+(1:Int))/\if decide ((400:Int)<c+(1:Int)+(↑(szL (List.take x.1 s.parts)):Int)+(↑(sz (List.getD s.parts (Int.toNat (↑x.1:Int)) (dfl (Ty.st SN.shape)))):Int))=true then decide ((400:Int)<c+(↑(sz s):Int))=true/\(401:Int)=(401:Int)/\True else inR IntKind.i64 ((↑x.1:Int)+(1:Int))/\∃(y:Nat×Int),(y.1<=List.length s.parts/\c+(1:Int)+(↑(szL (List.take y.1 s.parts)):Int)<=(400:Int)/\deepL (List.drop y.1 s.parts) (l+(1:Int)) y.2=deepS s l)/\List.length s.parts-y.1<List.length s.parts-x.1/\max x.2 (deepS (List.getD s.parts (Int.toNat (↑x.1:Int)) (dfl (Ty.st SN.shape))) (l+(1:Int)))=y.2/\(↑x.1:Int)+(1:Int)=(↑y.1:Int)/\s=s/\l=l/\(0:Int)=(0:Int)/\s.parts=s.parts/\(↑(List.length s.parts):Int)=(↑(List.length s.parts):Int)/\c+(1:Int)+(↑(szL (List.take x.1 s.parts)):Int)+(↑(sz (List.getD s.parts (Int.toNat (↑x.1:Int)) (dfl (Ty.st SN.shape)))):Int)=c+(1:Int)+(↑(szL (List.take y.1 s.parts)):Int)/\s=s/\True else decide ((400:Int)<c+(↑(sz s):Int))=false/\x.2=deepS s l/\c+(1:Int)+(↑(szL (List.take x.1 s.parts)):Int)=c+(↑(sz s):Int)/\True:=by
 have ln:=hs.parts.len;have hz:=eC s;refine⟨⟨hc.1,hc.2.1⟩,ab (fun h=>?_) (fun h=>?_)⟩
 ·replace h:=Xo h;have:=dG s;exact⟨Xd (by omega),by omega,trivial⟩
 replace h:¬(400:Int)<c+1:=fun e=>h (Xd e);have hd0:deepL s.parts (l+1) l=deepS s l:=by cases s;rfl
 refine⟨⟨(0,l),⟨Nat.zero_le _,by simp[szL];omega,by simpa using hd0⟩,rfl,rfl,rfl,rfl,rfl,rfl,rfl,by simp[szL],rfl,trivial⟩,?_⟩;rintro⟨k,d⟩ ⟨h1,h2,h3⟩;simp only[Int.toNat_natCast]at h1 h2 h3⊢;have hc0:(0:Int)<=(szL (s.parts.take k):Int):=by omega
 refine ab (fun hk=>?_) (fun hk=>?_)
 ·replace hk:=Xo hk;have hk:k<s.parts.length:=by omega
  have hs1:=lj s.parts k (dfl (.st .shape)) hk;have hm:=db (getD_mem s.parts k (dfl (.st .shape)) hk);rw[aA s.parts k (dfl (.st .shape)) hk]at h3;simp only[deepL]at h3;have ht:=vL s.parts (k+1);refine⟨by omega,b8 (by omega) (by omega),⟨by omega,by omega,h2,by omega,by omega⟩,ab (fun h=>?_) (fun h=>?_)⟩
  ·replace h:=Xo h;exact⟨Xd (by omega),by trivial,by trivial⟩
  ·replace h:=fun e=>h (Xd e);replace h:¬(400:Int)<c+1+(szL (s.parts.take k):Int)+(sz (s.parts.getD k (dfl (.st .shape))):Int):=h;exact⟨aL hk ln,(k+1,_),⟨by omega,by simp only;omega,h3⟩,by simp only;omega,rfl,by simp only;omega,by trivial,by trivial,by trivial,by trivial,by trivial,by simp only;omega,by trivial,by trivial⟩
 ·replace hk:¬((k:Int)<(s.parts.length:Int)):=fun e=>hk (Xd e);have e:k=s.parts.length:=by omega
  subst e;rw[List.take_length]at h2⊢;rw[List.drop_length]at h3;exact⟨Xf (by omega),h3,by omega,trivial⟩
theorem Ej(s:Shape)(hs:Wf (.st .shape) s) :
  (sz s<=sz s/\(0:Int)<=(0:Int)/\(0:Int)<=(400:Int)/\(1:Int)<=(1:Int)/\(1:Int)<=(0:Int)+(1:Int))/\if decide ((400:Int)<(0:Int)+(↑(sz s):Int))=true then((401:Int)=if sz s<=(400:Nat)then(↑(sz s):Int)else(401:Int))/\((0:Int)=if sz s<=(400:Nat)then deepS s (1:Int)else(0:Int))/\false=decide (sz s<=(400:Nat))/\True else((0:Int)+(↑(sz s):Int)=if sz s<=(400:Nat)then(↑(sz s):Int)else(401:Int))/\(deepS s (1:Int)=if sz s<=(400:Nat)then deepS s (1:Int)else(0:Int))/\true=decide (sz s<=(400:Nat))/\True:=by
 refine⟨by simp,ab (fun h=>?_) (fun h=>?_)⟩
 ·replace h:=Xo h;have h':¬sz s<=400:=by omega
  rw[if_neg h',if_neg h'];exact⟨rfl,rfl,by simp[h'],trivial⟩
 ·replace h:¬(400:Int)<0+(sz s:Int):=fun e=>h (Xd e);have h':sz s<=400:=by omega
  rw[if_pos h',if_pos h'];exact⟨by omega,by trivial,by simp[h'],trivial⟩
theorem C2(l:List Bndg)(hl:Wf (.lst (.st .bind)) l)(ho:l.length *120<=140737488355328) :
  ∀(b:Bool),(b=true->l=[])->if b=true then True/\l=[]/\List.length l=(0:Nat)/\True else(List.length ([]:List Bndg)=List.length ([]:List Bndg)/\(List.length ([]:List Bndg)+List.length l) *(120:Nat)<=(140737488355328:Nat))/\True/\[]++l=l/\List.length ([]++l)=List.length l/\True:=by
 intro b hb;refine ab (fun h=>?_) (fun h=>?_)
 ·have:=hb h;exact⟨trivial,this,by rw[this];rfl,trivial⟩
 ·exact⟨⟨rfl,by simp only[List.length_nil];omega⟩,trivial,rfl,rfl,trivial⟩
end Go.AL.Seat
end
section
open Go Go.AL Go.Proofs Go.Shelf Go.Pd
namespace Go.AL.Seat
open Go.Proofs.Tryz
variable [Tabs]
def nn:Nat->Bool:=fun _=>false
def cf(k:Nat->Bool)(l:Nat->List (Option Nat))(p r m:Nat->Bool)(s:Nat->List AV->List (Nat×SObj)->Option Ans):Cfg:=⟨tbl,s,k,l,p,r,m⟩
def a0:An:=⟨[],[],[]⟩
theorem g1(k:Nat->Bool)(l:Nat->List (Option Nat))(p r m:Nat->Bool){s:Nat->List AV->List (Nat×SObj)->Option Ans}(hS:cn prog s)(a:An){f:Nat}{fn:Func}(hf:Tryz.prog.funcs[f]?=some fn)
 {args:List AV}{S:List (Nat×SObj)}{A:Ans}{Q:Prop}(q:Q)(h:fwp (cf k l p r m s) a fn args S A=Q:=by kernel_rfl):aF prog f args S A:=DM (C:=cf k l p r m s) mixed qJ hS hf q h
theorem g0{s:Nat->List AV->List (Nat×SObj)->Option Ans}(hS:cn prog s)(a:An){f:Nat}{fn:Func}(hf:Tryz.prog.funcs[f]?=some fn)
 {args:List AV}{S:List (Nat×SObj)}{A:Ans}{Q:Prop}(q:Q)(h:fwp (cf nn (fun _=>[]) nn nn nn s) a fn args S A=Q:=by kernel_rfl):aF prog f args S A:=DM (C:=cf nn (fun _=>[]) nn nn nn s) mixed qJ hS hf q h
theorem sc{f:Nat}{g:Pat}{l:List (Nat×Pat)}(h:ak prog f g)(hl:cn prog (iw l)):cn prog (iw ((f,g)::l)):=qc h hl
theorem sn:cn prog (iw []):=sD
theorem ee{f:Nat}{fn:Func}(h:Tryz.prog.funcs[f]?=some fn)(e:(fn.body.isNone || (fn.name == "runtime.NumGoroutine"))=false:=by kernel_rfl):aJ prog f:=aJ.mk' h e
theorem Ek:ak prog 108 (ud 126):=
 yz (ee func108) fun c hc=>g0 sn a0 func108 (G5 c hc)
theorem AO:aJ prog 107:=ee func107
theorem yU(n:Nat)(s:AL.Shape)(l c:Int)(hs:Wf (.st .shape) s)(hn:sz s<=n+1)(hc:0<=c/\c<=400/\1<=l/\l<=c+1)(hA:ak prog 107 (oW 126 108 n)):aF prog 107 [.st .shape s,.int .i64 l,.fn 108 [.ptr 900 0]] [(900,.box (.int .i64 c))] (DS 126 s l c (sz s<=n+1)):=
 g0 (sc Ek (sc (hA) sn)) ⟨[(4,fun S0=>⟨Nat×Int,fun x=>x.1<=s.parts.length/\c+1+(szL (s.parts.take x.1):Int)<=400/\deepL (s.parts.drop x.1) (l+1) x.2=deepS s l,fun x=>[(7,.int .i64 x.2),(16,.int .i64 x.1)],fun x=>[(900,.box (.int .i64 (c+1+(szL (s.parts.take x.1):Int))))],fun x=>s.parts.length-x.1⟩)],[],[]⟩ func107 (G6 n s l c hs hn hc)
theorem El:∀n:Nat,ak prog 107 (oW 126 108 n):=by
 intro n
 induction n with
 |zero=>exact qg AO fun s l c hs hn hc=>absurd hn (by have:=dG s;omega)
 |succ n ih=>exact qg AO fun s l c hs hn hc=>yU n s l c hs hn hc ih
theorem vZ(s:AL.Shape)(hs:Wf (.st .shape) s) :aF prog 59 [.st .shape s] [] (.ret (.tup [.int .i64 (if sz s<=400 then(sz s:Int)else 401),.int .i64 (if sz s<=400 then deepS s 1 else 0),.bool (decide (sz s<=400))])):=
 fwpR_sound (C:=⟨tbl,_,fun _=>false,fun _=>[],fun _=>false,fun _=>false,fun _=>false⟩) (ann:=⟨[],[],[]⟩) (annC:=⟨[],[],[]⟩) mixed qJ (qc (El (sz s)) (sD)) func59 func106 (enters_of func106 (by kernel_rfl) rfl) (@Eq.mpr _ _ (by kernel_rfl) (Ej s hs))
theorem sL:ak prog 59 (p1 (.st .shape) fun s=>.ret (.tup [.int .i64 (if sz s<=400 then(sz s:Int)else 401),.int .i64 (if sz s<=400 then deepS s 1 else 0),.bool (decide (sz s<=400))])):=
 bp (ee func59) fun s hs _=>vZ s hs
theorem qK:ak prog 34 (p1 (.lst (.st .bind)) fun l=>⟨some (l.length *120<=140737488355328),none,.lst (.st .bind) l (some 5),[(5,.tail (.st .bind) l.length)]⟩):=
 bp (ee func34) fun l hl ho=>g0 sn a0 func34 (C2 l hl (ho _ rfl))
end Go.AL.Seat
end
section
namespace Go.Proofs
open Go.RowKit Go.Shelf Go.AL
theorem Tryz.compare(a b:ByteArray)(w:World):Calls Tryz.prog 63 #[.string a,.string b] w fun e w'=>e=.returned (.int .i64 (Lib.compareBytes a.data.toList b.data.toList))/\w'=w:=Any.strings_Compare Tryz.lays106 a b w
set_option maxRecDepth 100000 in
set_option maxHeartbeats 2000000 in
theorem Tryz.cmp62(W:World)(b o g off cap len i j:Nat)(si sj:Str)(h1:W.cell? ⟨b,o+3,none⟩=some (.slice (some ⟨g,off,none⟩) len cap))(hi:i<len)(hj:j<len)(ci:W.cell? ⟨g,off+i,none⟩=some (encStr si))(cj:W.cell? ⟨g,off+j,none⟩=some (encStr sj)) :
  Calls Tryz.prog 62 #[.int .i64 i,.int .i64 j,.pointer (some ⟨b,o,none⟩)] W fun e w'=>e=.returned (.int .i64 (Lib.compareBytes si sj))/\∃q,w'=W.drewN q:=by
 go_enter Tryz.func62,Tryz.ntmps62
 go_wp2
 go_quiet (first|(go_at_call 63;refine Calls.quiet_of_same (Tryz.compare _ _ _)))
 go_wp2
 go_ret
 exact⟨rfl,_,rfl⟩
end Go.Proofs
end
section
namespace Go.AL.Seat
open Go Go.AL Go.Proofs Go.Shelf
variable [Tabs]
theorem mu:ak Tryz.prog 61 (dY 62):=
 qf Tryz.sortf61 rfl (enters_of Tryz.func62 (by kernel_rfl) rfl) (fun W b o g0 off cap len i j si sj h1 h2 h3 h4 h5=>Tryz.cmp62 W b o g0 off cap len i j si sj h1 h2 h3 h4 h5) (aJ.mk' Tryz.func61 (by kernel_rfl))
end Go.AL.Seat
end
section
namespace Go.AL
open Go.Shelf Go.Proofs Go.RowKit
variable [Tabs] {P:Program} {ρ:Ren}
theorem After.newRow{w w':World}{pub:Nat->Nat->Prop}{e:Nat->Option CObj}(hp:jE w pub)(hd:∀id,e id=none)(hb:Below w.heap.size w w'){g:Nat}(hg:w.heap.size<=g){p:Nat->Prop}(hc:∀o,p o->∃v,w'.cell? ⟨g,o,none⟩=some v) :
  After w pub e (aG (cJ [] [])) w' (fun b o=>pub b o∨(b=g/\p o)) e where
 os:=hb.os
 tape:=hb.tape
 output:=hb.output
 size:=hb.size
 block b h _:=hb.block b h
 cell b o h _:=aE (hb.block b h) o
 kind b h _:=⟨bC (hb.block b h),fun o=>bj (hb.block b h) o⟩
 ext:=⟨fun _ c h=>⟨c,h,CLe.refl c⟩,fun _ _ h=>.inl h,fun b o h=>by obtain⟨v,hv⟩:=hp b o h;exact aE (hb.block b (bh hv)) o⟩
 fresh b o h:=by
  rcases h with h|⟨rfl,_⟩
  ·exact .inl h
  ·exact .inr (.inl hg)
 ok b o h:=by
  rcases h with h|⟨rfl,h⟩
  ·obtain⟨v,hv⟩:=hp b o h;exact⟨v,(aE (hb.block b (bh hv)) o).trans hv⟩
  ·exact hc o h
 slots id o h:=by simp[cJ,bd,aX]at h
 dom id _:=hd id
 inj i j c d b o h:=by rw[hd i]at h;cases h
theorem w8(L:Lays2.n16 P ρ)(l:List Str)(hb:l.length *16<=140737488355328){ob:Option Prop}:aF P (ρ.f 16) [.lst .str l none] [] ⟨ob,none,.lst .str l none,[]⟩:=by
 intro w pub e vs hp ht hv hs hd hi;have he:e=fun _=>none:=funext fun id=>hd id rfl;subst he;obtain⟨v,rfl,hV⟩:=hv.one_inv
 cases hV with
 |lstNil _ _ tok=>refine(Any.slices_Clone_string_nil L 0 0 w).mono ?_;rintro en w' ⟨rfl,rfl⟩;exact⟨pub,_,fun b pv u h=>(by cases h),.lstNil _ _ tok,After.below hp (fun _=>rfl) (Below.refl _ _)⟩
 |lstVoid _ a=>
  refine(Any.slices_Clone_string_zero L a 0 w).mono ?_;rintro en w' ⟨v',rfl,⟨hl,hrow⟩,hn,hbw⟩;refine⟨pub,_,fun b pv u h=>(by cases h),?_,After.below hp (fun _=>rfl) hbw⟩;rcases hrow with⟨rfl,hz⟩|⟨g,cap,cur,rfl,hbase,hg,h1,h2,h3,h4⟩
  ·exact absurd rfl hn
  ·exact .lst .str [] none g 0 cap (fun _ _=>.bool false) (Nat.zero_le _) (by unfold maxLen at h2;unfold bS;omega) (fun id h=>by cases h) (fun i x hx=>by cases hx) (fun i x hx=>by cases hx)
 |lst _ _ _ b off cap vals h1 h2 tok hcell hval=>
  have at_:∀i (hi:i<l.length),w.cell? ⟨b,off+i,none⟩=some (.string ⟨l[i].toArray⟩)/\l[i].length<=bS:=fun i hi=>by have hx:l[i]?=some l[i]:=List.getElem?_eq_getElem hi;obtain⟨_,c1⟩:=hcell i l[i] hx 0 (.str l[i]) rfl;have c2:=hval i l[i] hx 0 (.str l[i]) rfl;obtain⟨c3,c4⟩:=c2.str_inv;rw[c3,show off+(i *ai .str+0)=off+i by rw[show ai .str=1 from rfl];omega]at c1;exact⟨c1,c4⟩
  refine(Any.slices_Clone_string L b off l.length cap (l.map fun s=>(⟨s.toArray⟩:ByteArray)) w (by simp) hb (fun j hj=>?_)).mono ?_
  ·have hj':j<l.length:=by simpa using hj
   rw[(at_ j hj').1,List.getD_eq_getElem?_getD,List.getElem?_map,List.getElem?_eq_getElem hj'];rfl
  rintro en w' ⟨v',rfl,⟨hl,hrow⟩,hn,hbw⟩;rcases hrow with⟨rfl,hz⟩|⟨g,cap',cur,rfl,hbase,hg,k1,k2,k3,k4⟩
  ·exact absurd rfl hn
  have hcur:∀i (hi:i<l.length),cur[i]?=some (.string ⟨l[i].toArray⟩):=fun i hi=>by
   have:(cur.toList.take (l.length *1))[i]?=some (.string ⟨l[i].toArray⟩):=by rw[k4,List.getElem?_map,List.getElem?_take];simp[hi]
   rw[List.getElem?_take]at this;split at this
   ·simpa using this
   ·cases this
  refine⟨fun b o=>pub b o∨(b=g/\o<l.length),_,fun b pv u h=>(by cases h),?_,After.newRow hp (fun _=>rfl) hbw hbase (p:=fun o=>o<l.length) (fun o ho=>⟨_,by rw[aU hg];exact hcur o ho⟩)⟩;refine .lst .str l none g 0 cap' (fun i _=>.string ⟨(l.getD i []).toArray⟩) k1 (by unfold maxLen at k2;unfold bS;omega) (fun id h=>by cases h) (fun i x hx j c hc=>?_) (fun i x hx j c hc=>?_)
  ·obtain⟨hi,rfl⟩:=List.getElem?_eq_some_iff.1 hx
   have hj:j=0:=by
    cases j with
    |zero=>rfl
    |succ j=>simp[cells]at hc
   subst hj;rw[show 0+(i *ai .str+0)=i by rw[show ai .str=1 from rfl];omega];refine⟨.inr ⟨rfl,hi⟩,?_⟩;show w'.cell? ⟨g,i,none⟩=_;rw[aU hg,hcur i hi,List.getD_eq_getElem?_getD,List.getElem?_eq_getElem hi];rfl
  ·obtain⟨hi,rfl⟩:=List.getElem?_eq_some_iff.1 hx
   have hj:j=0:=by
    cases j with
    |zero=>rfl
    |succ j=>simp[cells]at hc
   subst hj;have e1:c=.str l[i]:=by simpa[cells]using hc.symm
   subst e1;rw[List.getD_eq_getElem?_getD,List.getElem?_eq_getElem hi];exact .str _ (at_ i hi).2
def w9:Pat:=p1 (.lst .str) fun l=>⟨some (l.length *16<=140737488355328),none,.lst .str l none,[]⟩
theorem wa{f:Nat}(L:Lays2.n16 P ρ)(hf:ρ.f 16=f)(he:aJ P f):ak P f w9:=by subst hf;exact bp he fun l _ ho=>w8 L l (ho _ rfl)
end Go.AL
end
section
namespace Go.Proofs
open Go.Shelf
def Tryz.lays2_16_ren:Go.Shelf.Ren:=⟨fun|16=>64|n=>n,fun|24=>22|9=>9|4=>4|n=>n,fun|n=>n⟩
theorem Tryz.lays2_16:Go.Proofs.Lays2.n16 Tryz.prog Tryz.lays2_16_ren:={
 mixed:=by kernel_rfl
 f16:=Xt Tryz.func64
 t4:=Tryz.underlying4
 a4:=Tryz.isAgg4
 z4:=Tryz.sizeOf4
 v4:=Tryz.zeroValue4
 t9:=Tryz.underlying9
 a9:=Tryz.isAgg9
 z9:=Tryz.sizeOf9
 v9:=Tryz.zeroValue9
 t24:=Tryz.underlying22
 a24:=Tryz.isAgg22
 z24:=Tryz.sizeOf22
 v24:=Tryz.zeroValue22
 i9:=by kernel_rfl}
end Go.Proofs
end
section
namespace Go.AL.Seat
open Go Go.AL Go.Proofs Go.Shelf Go.Pd
variable [Tabs]
theorem nh:ak Tryz.prog 64 w9:=wa Tryz.lays2_16 rfl (aJ.mk' Tryz.func64 (by kernel_rfl))
end Go.AL.Seat
end
section
open Go Go.AL Go.Pd
namespace Go.AL.Seat
theorem Em(c:Int)  :
  if decide ((97:Int)<=c)=true then True/\decide (c<=(122:Int))=cd c/\True else True/\false=cd c/\True:=by
 unfold cd;simp only[kg];split<;>simp[*]
theorem En(c:Int)  :
  if decide ((65:Int)<=c)=true then True/\decide (c<=(90:Int))=cr c/\True else True/\false=cr c/\True:=by
 unfold cr;simp only[kg];split<;>simp[*]
theorem Eo(c:Int)  :
  if decide ((48:Int)<=c)=true then True/\decide (c<=(57:Int))=fv c/\True else True/\false=fv c/\True:=by
 unfold fv;simp only[kg];split<;>simp[*]
theorem G7(c:Int)  :
  if cd c=true then True/\true=dT c/\True else if cr c=true then True/\true=dT c/\True else if fv c=true then True/\true=dT c/\True else True/\decide (c=(95:Int))=dT c/\True:=by
 unfold dT;cases cd c<;>cases cr c<;>cases fv c<;>simp
theorem C3(s:Str)(hs:Wf .str s) :
  if decide (s=[])=true then True/\false=ct cd s/\True else if decide ((24:Int)<(↑(List.length s):Int))=true then True/\false=ct cd s/\True else((0:Int)<=(0:Int)/\(0:Int)<(↑(List.length s):Int))/\if(!cd (↑(UInt8.toNat (List.getD s (Int.toNat (0:Int)) (0:UInt8))):Int))=true then True/\false=ct cd s/\True else(∃(x:Nat),(x<=List.length s/\ct cd s=List.all (List.drop x s) fun(c:UInt8) ↦dT (bI c))/\(0:Int)=(↑x:Int)/\s=s/\false=false/\(↑(List.length s):Int)=(↑(List.length s):Int)/\True)/\∀(x:Nat),(x<=List.length s/\ct cd s=List.all (List.drop x s) fun(c:UInt8) ↦dT (bI c))->if decide ((↑x:Int)<(↑(List.length s):Int))=true then((0:Int)<=(↑x:Int)/\(↑x:Int)<(↑(List.length s):Int))/\if(!dT (↑(UInt8.toNat (List.getD s (Int.toNat (↑x:Int)) (0:UInt8))):Int))=true then True/\false=ct cd s/\True else inR IntKind.i64 ((↑x:Int)+(1:Int))/\∃(y:Nat),(y<=List.length s/\ct cd s=List.all (List.drop y s) fun(c:UInt8) ↦dT (bI c))/\List.length s-y<List.length s-x/\(↑x:Int)+(1:Int)=(↑y:Int)/\s=s/\false=false/\(↑(List.length s):Int)=(↑(List.length s):Int)/\True else True/\true=ct cd s/\True:=by
 have hlen:=hs.str;have eb:∀b:UInt8,(b.toNat:Int)=bI b:=fun _=>rfl;simp only[kg,Int.toNat_natCast,Int.toNat_zero,true_and,and_true,eb,ct];generalize cd (bI (s.getD 0 0))=f0;by_cases h0:s=[]
 ·simp[h0]
 have hpos:0<s.length:=List.length_pos_iff.2 h0;by_cases h1:s.length<=24
 ·rw[if_neg h0,if_neg (by omega)];refine⟨by omega,?_⟩
  cases f0 with
  |false=>simp
  |true=>
   simp only[Bool.not_true,Bool.false_eq_true,if_false,h0,h1,decide_false,decide_true,Bool.not_false,Bool.true_and];refine⟨⟨0,⟨by omega,rfl⟩,rfl⟩,?_⟩;rintro k ⟨h3,h4⟩;split
   ·have hk:k<s.length:=by omega
    rw[aA s k 0 hk,List.all_cons]at h4;generalize dT (bI (s.getD k 0))=r at h4⊢;refine⟨by omega,?_⟩
    cases r with
    |false=>simpa using h4.symm
    |true=>simp only[Bool.not_true,Bool.false_eq_true,if_false];exact⟨aL hk hlen,k+1,⟨by omega,by simpa using h4⟩,by omega,by omega⟩
   ·have hk:k=s.length:=by omega
    subst hk;simpa using h4.symm
 ·rw[if_neg h0,if_pos (by omega)];simp[h1]
theorem C4(s:Str)(hs:Wf .str s) :
  if decide (s=[])=true then True/\false=ct cr s/\True else if decide ((24:Int)<(↑(List.length s):Int))=true then True/\false=ct cr s/\True else((0:Int)<=(0:Int)/\(0:Int)<(↑(List.length s):Int))/\if(!cr (↑(UInt8.toNat (List.getD s (Int.toNat (0:Int)) (0:UInt8))):Int))=true then True/\false=ct cr s/\True else(∃(x:Nat),(x<=List.length s/\ct cr s=List.all (List.drop x s) fun(c:UInt8) ↦dT (bI c))/\(0:Int)=(↑x:Int)/\s=s/\false=false/\(↑(List.length s):Int)=(↑(List.length s):Int)/\True)/\∀(x:Nat),(x<=List.length s/\ct cr s=List.all (List.drop x s) fun(c:UInt8) ↦dT (bI c))->if decide ((↑x:Int)<(↑(List.length s):Int))=true then((0:Int)<=(↑x:Int)/\(↑x:Int)<(↑(List.length s):Int))/\if(!dT (↑(UInt8.toNat (List.getD s (Int.toNat (↑x:Int)) (0:UInt8))):Int))=true then True/\false=ct cr s/\True else inR IntKind.i64 ((↑x:Int)+(1:Int))/\∃(y:Nat),(y<=List.length s/\ct cr s=List.all (List.drop y s) fun(c:UInt8) ↦dT (bI c))/\List.length s-y<List.length s-x/\(↑x:Int)+(1:Int)=(↑y:Int)/\s=s/\false=false/\(↑(List.length s):Int)=(↑(List.length s):Int)/\True else True/\true=ct cr s/\True:=by
 have hlen:=hs.str;have eb:∀b:UInt8,(b.toNat:Int)=bI b:=fun _=>rfl;simp only[kg,Int.toNat_natCast,Int.toNat_zero,true_and,and_true,eb,ct];generalize cr (bI (s.getD 0 0))=f0;by_cases h0:s=[]
 ·simp[h0]
 have hpos:0<s.length:=List.length_pos_iff.2 h0;by_cases h1:s.length<=24
 ·rw[if_neg h0,if_neg (by omega)];refine⟨by omega,?_⟩
  cases f0 with
  |false=>simp
  |true=>
   simp only[Bool.not_true,Bool.false_eq_true,if_false,h0,h1,decide_false,decide_true,Bool.not_false,Bool.true_and];refine⟨⟨0,⟨by omega,rfl⟩,rfl⟩,?_⟩;rintro k ⟨h3,h4⟩;split
   ·have hk:k<s.length:=by omega
    rw[aA s k 0 hk,List.all_cons]at h4;generalize dT (bI (s.getD k 0))=r at h4⊢;refine⟨by omega,?_⟩
    cases r with
    |false=>simpa using h4.symm
    |true=>simp only[Bool.not_true,Bool.false_eq_true,if_false];exact⟨aL hk hlen,k+1,⟨by omega,by simpa using h4⟩,by omega,by omega⟩
   ·have hk:k=s.length:=by omega
    subst hk;simpa using h4.symm
 ·rw[if_neg h0,if_pos (by omega)];simp[h1]
theorem G8(s:Str)  :
  if decide (s=[(109:UInt8),(111:UInt8),(100:UInt8),(117:UInt8),(108:UInt8),(101:UInt8)])=true then True/\true=dA s/\True else if decide (s=[(105:UInt8),(109:UInt8),(112:UInt8),(111:UInt8),(114:UInt8),(116:UInt8)])=true then True/\true=dA s/\True else if decide (s=[(112:UInt8),(105:UInt8),(110:UInt8)])=true then True/\true=dA s/\True else if decide (s=[(114:UInt8),(97:UInt8),(110:UInt8),(103:UInt8),(101:UInt8)])=true then True/\true=dA s/\True else if decide (s=[(116:UInt8),(121:UInt8),(112:UInt8),(101:UInt8)])=true then True/\true=dA s/\True else if decide (s=[(111:UInt8),(112:UInt8),(97:UInt8),(113:UInt8),(117:UInt8),(101:UInt8)])=true then True/\true=dA s/\True else if decide (s=[(108:UInt8),(101:UInt8),(116:UInt8)])=true then True/\true=dA s/\True else if decide (s=[(105:UInt8),(110:UInt8)])=true then True/\true=dA s/\True else if decide (s=[(101:UInt8),(120:UInt8),(112:UInt8),(111:UInt8),(114:UInt8),(116:UInt8)])=true then True/\true=dA s/\True else if decide (s=[(102:UInt8),(117:UInt8),(110:UInt8)])=true then True/\true=dA s/\True else if decide (s=[(105:UInt8),(102:UInt8)])=true then True/\true=dA s/\True else if decide (s=[(116:UInt8),(104:UInt8),(101:UInt8),(110:UInt8)])=true then True/\true=dA s/\True else if decide (s=[(101:UInt8),(108:UInt8),(115:UInt8),(101:UInt8)])=true then True/\true=dA s/\True else if decide (s=[(99:UInt8),(97:UInt8),(115:UInt8),(101:UInt8)])=true then True/\true=dA s/\True else if decide (s=[(111:UInt8),(102:UInt8)])=true then True/\true=dA s/\True else if decide (s=[(97:UInt8),(115:UInt8)])=true then True/\true=dA s/\True else if decide (s=[(110:UInt8),(101:UInt8),(119:UInt8)])=true then True/\true=dA s/\True else if decide (s=[(114:UInt8),(97:UInt8),(119:UInt8)])=true then True/\true=dA s/\True else if decide (s=[(116:UInt8),(114:UInt8),(117:UInt8),(101:UInt8)])=true then True/\true=dA s/\True else if decide (s=[(102:UInt8),(97:UInt8),(108:UInt8),(115:UInt8),(101:UInt8)])=true then True/\true=dA s/\True else True/\false=dA s/\True:=by
 refine ab (fun h=>?_) (fun h0=>?_)
 ·rw[Xo h];exact⟨trivial,rfl,trivial⟩
 refine ab (fun h=>?_) (fun h1=>?_)
 ·rw[Xo h];exact⟨trivial,rfl,trivial⟩
 refine ab (fun h=>?_) (fun h2=>?_)
 ·rw[Xo h];exact⟨trivial,rfl,trivial⟩
 refine ab (fun h=>?_) (fun h3=>?_)
 ·rw[Xo h];exact⟨trivial,rfl,trivial⟩
 refine ab (fun h=>?_) (fun h4=>?_)
 ·rw[Xo h];exact⟨trivial,rfl,trivial⟩
 refine ab (fun h=>?_) (fun h5=>?_)
 ·rw[Xo h];exact⟨trivial,rfl,trivial⟩
 refine ab (fun h=>?_) (fun h6=>?_)
 ·rw[Xo h];exact⟨trivial,rfl,trivial⟩
 refine ab (fun h=>?_) (fun h7=>?_)
 ·rw[Xo h];exact⟨trivial,rfl,trivial⟩
 refine ab (fun h=>?_) (fun h8=>?_)
 ·rw[Xo h];exact⟨trivial,rfl,trivial⟩
 refine ab (fun h=>?_) (fun h9=>?_)
 ·rw[Xo h];exact⟨trivial,rfl,trivial⟩
 refine ab (fun h=>?_) (fun h10=>?_)
 ·rw[Xo h];exact⟨trivial,rfl,trivial⟩
 refine ab (fun h=>?_) (fun h11=>?_)
 ·rw[Xo h];exact⟨trivial,rfl,trivial⟩
 refine ab (fun h=>?_) (fun h12=>?_)
 ·rw[Xo h];exact⟨trivial,rfl,trivial⟩
 refine ab (fun h=>?_) (fun h13=>?_)
 ·rw[Xo h];exact⟨trivial,rfl,trivial⟩
 refine ab (fun h=>?_) (fun h14=>?_)
 ·rw[Xo h];exact⟨trivial,rfl,trivial⟩
 refine ab (fun h=>?_) (fun h15=>?_)
 ·rw[Xo h];exact⟨trivial,rfl,trivial⟩
 refine ab (fun h=>?_) (fun h16=>?_)
 ·rw[Xo h];exact⟨trivial,rfl,trivial⟩
 refine ab (fun h=>?_) (fun h17=>?_)
 ·rw[Xo h];exact⟨trivial,rfl,trivial⟩
 refine ab (fun h=>?_) (fun h18=>?_)
 ·rw[Xo h];exact⟨trivial,rfl,trivial⟩
 refine ab (fun h=>?_) (fun h19=>?_)
 ·rw[Xo h];exact⟨trivial,rfl,trivial⟩
 refine⟨trivial,?_,trivial⟩;symm;refine Xf fun hm=>?_;unfold GC at hm;rcases List.mem_cons.1 hm with e|hm
 ·exact h0 (Xd e)
 rcases List.mem_cons.1 hm with e|hm
 ·exact h1 (Xd e)
 rcases List.mem_cons.1 hm with e|hm
 ·exact h2 (Xd e)
 rcases List.mem_cons.1 hm with e|hm
 ·exact h3 (Xd e)
 rcases List.mem_cons.1 hm with e|hm
 ·exact h4 (Xd e)
 rcases List.mem_cons.1 hm with e|hm
 ·exact h5 (Xd e)
 rcases List.mem_cons.1 hm with e|hm
 ·exact h6 (Xd e)
 rcases List.mem_cons.1 hm with e|hm
 ·exact h7 (Xd e)
 rcases List.mem_cons.1 hm with e|hm
 ·exact h8 (Xd e)
 rcases List.mem_cons.1 hm with e|hm
 ·exact h9 (Xd e)
 rcases List.mem_cons.1 hm with e|hm
 ·exact h10 (Xd e)
 rcases List.mem_cons.1 hm with e|hm
 ·exact h11 (Xd e)
 rcases List.mem_cons.1 hm with e|hm
 ·exact h12 (Xd e)
 rcases List.mem_cons.1 hm with e|hm
 ·exact h13 (Xd e)
 rcases List.mem_cons.1 hm with e|hm
 ·exact h14 (Xd e)
 rcases List.mem_cons.1 hm with e|hm
 ·exact h15 (Xd e)
 rcases List.mem_cons.1 hm with e|hm
 ·exact h16 (Xd e)
 rcases List.mem_cons.1 hm with e|hm
 ·exact h17 (Xd e)
 rcases List.mem_cons.1 hm with e|hm
 ·exact h18 (Xd e)
 rcases List.mem_cons.1 hm with e|hm
 ·exact h19 (Xd e)
 exact absurd hm List.not_mem_nil
theorem G9(s:Str)  :
  if ct cd s=true then True/\(!dA s)=aI s/\True else True/\false=aI s/\True:=by
 unfold aI;cases ct cd s<;>simp
theorem Ep(s:Str)  :
  True/\ct cr s=aY s/\True:=by
 simp[aY]
theorem C5(a:List Str)(v:Str)(ha:Wf (.lst .str) a) :
  (∃(x:Nat),(x<=List.length a/\cu a v (0:Int)=cu (List.drop x a) v (↑x:Int))/\(0:Int)=(↑x:Int)/\a=a/\v=v/\(↑(List.length a):Int)=(↑(List.length a):Int)/\True)/\∀(x:Nat),x<=List.length a/\cu a v (0:Int)=cu (List.drop x a) v (↑x:Int)->if decide ((↑x:Int)<(↑(List.length a):Int))=true then((0:Int)<=(↑x:Int)/\(↑x:Int)<(↑(List.length a):Int))/\if decide (v=List.getD a (Int.toNat (↑x:Int)) (dfl Ty.str))=true then True/\(↑x:Int)=cu a v (0:Int)/\True else inR IntKind.i64 ((↑x:Int)+(1:Int))/\∃(y:Nat),(y<=List.length a/\cu a v (0:Int)=cu (List.drop y a) v (↑y:Int))/\List.length a-y<List.length a-x/\(↑x:Int)+(1:Int)=(↑y:Int)/\a=a/\v=v/\(↑(List.length a):Int)=(↑(List.length a):Int)/\True else True/\(-1:Int)=cu a v (0:Int)/\True:=by
 have la:=ha.len;simp only[Int.toNat_natCast,eq_self,true_and,and_true];refine⟨⟨0,⟨by omega,by simp⟩,by simp⟩,?_⟩;rintro k ⟨h1,h3⟩;refine ab (fun h=>?_) (fun h=>?_)
 ·replace h:=Xo h;have hk:k<a.length:=by omega
  rw[aA a k (dfl .str) hk]at h3;refine⟨by omega,?_⟩;by_cases e:a.getD k (dfl .str)=v
  ·rw[if_pos (by simpa using e.symm),h3,cu,if_pos e]
  ·rw[if_neg (by simpa using fun h=>e h.symm)];exact⟨aL hk la,k+1,⟨by omega,by rw[h3,cu,if_neg e];rfl⟩,by omega,by omega⟩
 ·replace h:¬((k:Int)<(a.length:Int)):=fun e=>h (Xd e);have e:k=a.length:=by omega
  subst e;rw[h3];simp[cu]
theorem Er(s:Str)  :
  if decide (s=[(73:UInt8),(110:UInt8),(116:UInt8)])=true then True/\true=hX s/\True else if decide (s=[(66:UInt8),(111:UInt8),(111:UInt8),(108:UInt8)])=true then True/\true=hX s/\True else if decide (s=[(84:UInt8),(101:UInt8),(120:UInt8),(116:UInt8)])=true then True/\true=hX s/\True else True/\decide (s=[(65:UInt8),(110:UInt8),(121:UInt8)])=hX s/\True:=by
 simp only[eq_self,true_and,and_true,hX];by_cases a:s=[73,110,116]<;>by_cases b:s=[66,111,111,108]<;>by_cases c:s=[84,101,120,116]<;>by_cases d:s=[65,110,121]<;>simp[a,b,c,d]
theorem C6(a:List Str)  :
  True/\a=a/\True:=by
 trivial
theorem Es(s:Shape)(hs:Wf (.st .shape) s)(ho:s.parts.length *16<=140737488355328) :
  if(!decide ((↑(List.length s.names):Int)=(↑(List.length s.parts):Int)))=true then True/\false=cE s/\True else(∃(x:Nat),(x<=List.length s.names/\List.length s.names=List.length s.parts/\cE s=(List.all (List.drop x s.names) aI&&decide (List.Nodup s.names)))/\(0:Int)=(↑x:Int)/\s=s/\false=false/\s.names=s.names/\(↑(List.length s.names):Int)=(↑(List.length s.names):Int)/\s=s/\True)/\∀(x:Nat),x<=List.length s.names/\List.length s.names=List.length s.parts/\cE s=(List.all (List.drop x s.names) aI&&decide (List.Nodup s.names))->if decide ((↑x:Int)<(↑(List.length s.names):Int))=true then((0:Int)<=(↑x:Int)/\(↑x:Int)<(↑(List.length s.names):Int))/\if(!aI (List.getD s.names (Int.toNat (↑x:Int)) (dfl Ty.str)))=true then True/\false=cE s/\True else inR IntKind.i64 ((↑x:Int)+(1:Int))/\∃(y:Nat),(y<=List.length s.names/\List.length s.names=List.length s.parts/\cE s=(List.all (List.drop y s.names) aI&&decide (List.Nodup s.names)))/\List.length s.names-y<List.length s.names-x/\(↑x:Int)+(1:Int)=(↑y:Int)/\s=s/\false=false/\s.names=s.names/\(↑(List.length s.names):Int)=(↑(List.length s.names):Int)/\s=s/\True else List.length s.names *(16:Nat)<=(140737488355328:Nat)/\List.length (List.mergeSort s.names fun(x y:Str) ↦decide (x<=y))=List.length (List.mergeSort s.names fun(x y:Str) ↦decide (x<=y))/\True/\decide ((↑(List.length (Lib.compact (List.mergeSort s.names fun(x y:Str) ↦decide (x<=y)))):Int)=(↑(List.length s.names):Int))=cE s/\True:=by
 have ln:=hs.names.len;simp only[Int.toNat_natCast,eq_self,true_and,and_true];refine ab (fun h=>?_) (fun h=>?_)
 ·have:s.names.length≠s.parts.length:=by simp at h;omega
  simp[cE,this]
 have hl:s.names.length=s.parts.length:=by simp at h;omega
 refine⟨⟨0,⟨by omega,hl,by simp[cE,hl]⟩,rfl⟩,?_⟩;rintro k ⟨h1,_,h3⟩;refine ab (fun h=>?_) (fun h=>?_)
 ·replace h:=Xo h;have hk:k<s.names.length:=by omega
  rw[aA s.names k (dfl .str) hk]at h3;refine⟨by omega,?_⟩;simp only[List.all_cons]at h3;cases e:aI (s.names.getD k (dfl .str))
  ·rw[e]at h3;rw[h3];simp
  ·simp only[e,Bool.true_and]at h3;exact⟨aL hk ln,k+1,⟨by omega,hl,h3⟩,by omega,by omega⟩
 ·replace h:¬((k:Int)<(s.names.length:Int)):=fun e=>h (Xd e);have e:k=s.names.length:=by omega
  subst e;have hc:=kh s.names;unfold fq at hc;refine⟨by omega,?_⟩;rw[h3,List.drop_length];simp only[List.all_nil,Bool.true_and];rw[decide_eq_decide,<-hc];omega
theorem Ga(s:Shape)(hs:Wf (.st .shape) s)(ho:s.parts.length *16<=140737488355328) :
  if decide (s.pkg=[])=true then if decide (s.kind=(1:Int))=true then if decide (s.name=[])=true then if decide ((↑(List.length s.names):Int)=(0:Int))=true then True/\decide ((↑(List.length s.parts):Int)=(0:Int))=aj s/\True else True/\false=aj s/\True else True/\false=aj s/\True else if decide (s.kind=(2:Int))=true then if decide (s.name=[])=true then if decide ((↑(List.length s.names):Int)=(0:Int))=true then True/\decide ((↑(List.length s.parts):Int)=(0:Int))=aj s/\True else True/\false=aj s/\True else True/\false=aj s/\True else if decide (s.kind=(3:Int))=true then if decide (s.name=[])=true then if decide ((↑(List.length s.names):Int)=(0:Int))=true then True/\decide ((↑(List.length s.parts):Int)=(0:Int))=aj s/\True else True/\false=aj s/\True else True/\false=aj s/\True else if decide (s.kind=(4:Int))=true then if decide (s.name=[])=true then if decide ((↑(List.length s.names):Int)=(0:Int))=true then True/\decide ((↑(List.length s.parts):Int)=(0:Int))=aj s/\True else True/\false=aj s/\True else True/\false=aj s/\True else if decide (s.kind=(5:Int))=true then if decide (s.name=[])=true then if decide ((↑(List.length s.names):Int)=(0:Int))=true then True/\decide ((↑(List.length s.parts):Int)=(1:Int))=aj s/\True else True/\false=aj s/\True else True/\false=aj s/\True else if decide (s.kind=(6:Int))=true then if decide (s.name=[])=true then List.length s.parts *(16:Nat)<=(140737488355328:Nat)/\True/\cE s=aj s/\True else True/\false=aj s/\True else if decide (s.kind=(7:Int))=true then if decide (s.name=[])=true then List.length s.parts *(16:Nat)<=(140737488355328:Nat)/\True/\cE s=aj s/\True else True/\false=aj s/\True else if decide (s.kind=(8:Int))=true then if decide (s.name=[])=true then if decide ((↑(List.length s.names):Int)=(0:Int))=true then True/\decide ((0:Int)<(↑(List.length s.parts):Int))=aj s/\True else True/\false=aj s/\True else True/\false=aj s/\True else if decide (s.kind=(9:Int))=true then if aY s.name=true then if decide (s.pkg=[])=true then if(!hX s.name)=true then if decide ((↑(List.length s.names):Int)=(0:Int))=true then True/\decide ((↑(List.length s.parts):Int)=(0:Int))=aj s/\True else True/\false=aj s/\True else if aI s.pkg=true then if decide ((↑(List.length s.names):Int)=(0:Int))=true then True/\decide ((↑(List.length s.parts):Int)=(0:Int))=aj s/\True else True/\false=aj s/\True else True/\false=aj s/\True else if aI s.pkg=true then if decide ((↑(List.length s.names):Int)=(0:Int))=true then True/\decide ((↑(List.length s.parts):Int)=(0:Int))=aj s/\True else True/\false=aj s/\True else True/\false=aj s/\True else True/\false=aj s/\True else if decide (s.kind=(10:Int))=true then if aY s.name=true then if aI s.pkg=true then if decide ((↑(List.length s.names):Int)=(0:Int))=true then True/\decide ((↑(List.length s.parts):Int)=(0:Int))=aj s/\True else True/\false=aj s/\True else True/\false=aj s/\True else True/\false=aj s/\True else True/\false=aj s/\True else if decide (s.kind=(1:Int))=true then True/\false=aj s/\True else if decide (s.kind=(2:Int))=true then True/\false=aj s/\True else if decide (s.kind=(3:Int))=true then True/\false=aj s/\True else if decide (s.kind=(4:Int))=true then True/\false=aj s/\True else if decide (s.kind=(5:Int))=true then True/\false=aj s/\True else if decide (s.kind=(6:Int))=true then True/\false=aj s/\True else if decide (s.kind=(7:Int))=true then True
  /\false=aj s/\True else if decide (s.kind=(8:Int))=true then True/\false=aj s/\True else if decide (s.kind=(9:Int))=true then if aY s.name=true then if decide (s.pkg=[])=true then if(!hX s.name)=true then if decide ((↑(List.length s.names):Int)=(0:Int))=true then True/\decide ((↑(List.length s.parts):Int)=(0:Int))=aj s/\True else True/\false=aj s/\True else if aI s.pkg=true then if decide ((↑(List.length s.names):Int)=(0:Int))=true then True/\decide ((↑(List.length s.parts):Int)=(0:Int))=aj s/\True else True/\false=aj s/\True else True/\false=aj s/\True else if aI s.pkg=true then if decide ((↑(List.length s.names):Int)=(0:Int))=true then True/\decide ((↑(List.length s.parts):Int)=(0:Int))=aj s/\True else True/\false=aj s/\True else True/\false=aj s/\True else True/\false=aj s/\True else if decide (s.kind=(10:Int))=true then if aY s.name=true then if aI s.pkg=true then if decide ((↑(List.length s.names):Int)=(0:Int))=true then True/\decide ((↑(List.length s.parts):Int)=(0:Int))=aj s/\True else True/\false=aj s/\True else True/\false=aj s/\True else True/\false=aj s/\True else True/\false=aj s/\True:=by
 have n0:((s.names.length:Int)=0)↔s.names=[]:=by rw[<-List.length_eq_zero_iff];omega
 have p0:((s.parts.length:Int)=0)↔s.parts=[]:=by rw[<-List.length_eq_zero_iff];omega
 have p1:((s.parts.length:Int)=1)↔s.parts.length=1:=by omega
 have p2:(0<(s.parts.length:Int))↔¬s.parts=[]:=by rw[<-List.length_eq_zero_iff];omega
 simp only[n0,p0,p1,p2,decide_eq_true_eq,true_and,and_true,ho];have hf:aj s=aj s:=rfl;conv at hf=>rhs;unfold aj
 revert hf;generalize aj s=F;generalize cE s=A;generalize aY s.name=B;generalize aI s.pkg=C;generalize hX s.name=D;generalize s.kind=K;intro hf
 repeat' (refine ab (fun _=>?_) (fun _=>?_))
 all_goals (subst hf;simp_all)
theorem yV(n:Nat)(s:Shape)(hs:Wf (.st .shape) s)(hn:sz s<=n+1)(hb:n<=1000000) :
  List.length s.parts *(16:Nat)<=(140737488355328:Nat)/\if(!aj s)=true then True/\false=allS aj s/\True else(∃(x:Nat),(x<=List.length s.parts/\allS aj s=allL aj (List.drop x s.parts))/\(0:Int)=(↑x:Int)/\s=s/\false=false/\s.parts=s.parts/\(↑(List.length s.parts):Int)=(↑(List.length s.parts):Int)/\s=s/\True)/\∀(x:Nat),x<=List.length s.parts/\allS aj s=allL aj (List.drop x s.parts)->if decide ((↑x:Int)<(↑(List.length s.parts):Int))=true then((0:Int)<=(↑x:Int)/\(↑x:Int)<(↑(List.length s.parts):Int))/\sz (List.getD s.parts (Int.toNat (↑x:Int)) (dfl (Ty.st SN.shape)))<=n/\if(!allS aj (List.getD s.parts (Int.toNat (↑x:Int)) (dfl (Ty.st SN.shape))))=true then True/\false=allS aj s/\True else inR IntKind.i64 ((↑x:Int)+(1:Int))/\∃(y:Nat),(y<=List.length s.parts/\allS aj s=allL aj (List.drop y s.parts))/\List.length s.parts-y<List.length s.parts-x/\(↑x:Int)+(1:Int)=(↑y:Int)/\s=s/\false=false/\s.parts=s.parts/\(↑(List.length s.parts):Int)=(↑(List.length s.parts):Int)/\s=s/\True else True/\true=allS aj s/\True:=by
 have ln:=hs.parts.len;have hz:=eC s;have hl:=ix s.parts;simp only[Int.toNat_natCast,eq_self,true_and,and_true];refine⟨by omega,ab (fun h=>?_) (fun h=>?_)⟩
 ·rw[ep];simp at h;simp[h]
 refine⟨⟨0,⟨by omega,by rw[ep];simp at h;simp[h]⟩,rfl⟩,?_⟩;rintro k ⟨h1,h3⟩;refine ab (fun h=>?_) (fun h=>?_)
 ·replace h:=Xo h;have hk:k<s.parts.length:=by omega
  have hm:=db (getD_mem s.parts k (dfl (.st .shape)) hk);rw[aA s.parts k (dfl (.st .shape)) hk]at h3;simp only[allL]at h3;refine⟨by omega,by omega,?_⟩;cases e:allS aj (s.parts.getD k (dfl (.st .shape)))
  ·rw[e]at h3;rw[h3];simp
  ·simp only[e,Bool.true_and]at h3;exact⟨aL hk ln,k+1,⟨by omega,h3⟩,by omega,by omega⟩
 ·replace h:¬((k:Int)<(s.parts.length:Int)):=fun e=>h (Xd e);have e:k=s.parts.length:=by omega
  subst e;rw[h3,List.drop_length];rfl
theorem C7(n:Nat)(s:Shape)(hs:Wf (.st .shape) s)(hn:sz s<=n+1)(ho:allS bN s=true)(hb:n<=1000000) :
  ((0:Int)<=(↑(List.length s.parts):Int)/\(↑(List.length s.parts):Int)<=(↑(List.length s.parts):Int)/\(↑(List.length s.parts):Int) *(↑(8:Nat):Int)<=(140737488355328:Int))/\(∃(x:Nat),x<=List.length s.parts/\(0:Int)=(↑x:Int)/\s=s/\Int.toNat (↑(List.length s.parts):Int)=Int.toNat (↑(List.length s.parts):Int)/\(↑(Int.toNat (↑(List.length s.parts):Int)):Int)=(↑(Int.toNat (↑(List.length s.parts):Int)):Int)/\List.replicate (Int.toNat (↑(List.length s.parts):Int)) (0:Int)=bP x++List.replicate (List.length s.parts-x) (0:Int)/\s=s/\(0:Int)=(0:Int)/\an UInt8=an UInt8/\an UInt8=an UInt8/\s.kind=s.kind/\s.pkg=s.pkg/\s.name=s.name/\True)/\∀(x:Nat),x<=List.length s.parts->if decide ((↑x:Int)<(↑(Int.toNat (↑(List.length s.parts):Int)):Int))=true then((0:Int)<=(↑x:Int)/\(↑x:Int)<(↑(Int.toNat (↑(List.length s.parts):Int)):Int))/\Int.toNat (↑x:Int)<List.length (bP x++List.replicate (List.length s.parts-x) (0:Int))/\inR IntKind.i64 ((↑x:Int)+(1:Int))/\∃(y:Nat),y<=List.length s.parts/\List.length s.parts-y<List.length s.parts-x/\(↑x:Int)+(1:Int)=(↑y:Int)/\s=s/\Int.toNat (↑(List.length s.parts):Int)=Int.toNat (↑(List.length s.parts):Int)/\(↑(Int.toNat (↑(List.length s.parts):Int)):Int)=(↑(Int.toNat (↑(List.length s.parts):Int)):Int)/\List.set (bP x++List.replicate (List.length s.parts-x) (0:Int)) (Int.toNat (↑x:Int)) (↑x:Int)=bP y++List.replicate (List.length s.parts-y) (0:Int)/\s=s/\(0:Int)=(0:Int)/\an UInt8=an UInt8/\an UInt8=an UInt8/\s.kind=s.kind/\s.pkg=s.pkg/\s.name=s.name/\True else if decide ((0:Int)<(↑(List.length s.names):Int))=true then(Int.toNat (↑(List.length s.parts):Int)=List.length (bP x++List.replicate (List.length s.parts-x) (0:Int))/\bP x++List.replicate (List.length s.parts-x) (0:Int)≠[]/\(∀(x_1:Int),x_1∈bP x++List.replicate (List.length s.parts-x) (0:Int)->(0:Int)<=x_1/\x_1<(↑(List.length s.names):Int))/\List.Nodup s.names/\List.length (bP x++List.replicate (List.length s.parts-x) (0:Int))<(4611686018427387904:Nat))/\(∃(x_1:Nat),x_1<=List.length s.parts/\(0:Int)=(↑x_1:Int)/\(↑x:Int)=(↑x:Int)/\s=s/\Int.toNat (↑(List.length s.parts):Int)=Int.toNat (↑(List.length s.parts):Int)/\(↑(Int.toNat (↑(List.length s.parts):Int)):Int)=(↑(Int.toNat (↑(List.length s.parts):Int)):Int)/\false=false/\true=true/\Int.toNat (↑(List.length s.parts):Int)=Int.toNat (↑(List.length s.parts):Int)/\(↑(Int.toNat (↑(List.length s.parts):Int)):Int)=(↑(Int.toNat (↑(List.length s.parts):Int)):Int)/\s.kind=s.kind/\s.pkg=s.pkg/\s.name=s.name/\(if s.names=[]then[]else List.map (fun(i:Int) ↦List.getD s.names (Int.toNat i) []) (List.take x_1 (aw s)))=[]/\List.map (fun(i:Int) ↦List.getD (sortedL s.parts) (Int.toNat i) da) (List.take x_1 (aw s))=[]/\(List.mergeSort (bP x++List.replicate (List.length s.parts-x) (0:Int)) fun(i j:Int) ↦decide (List.getD s.names (Int.toNat i) []<=List.getD s.names (Int.toNat j) []))=aw s/\List.length (if s.names=[]then[]else List.map (fun(i:Int) ↦List.getD s.names (Int.toNat i) []) (List.take x_1 (aw s)))=(0:Nat)/\x_1=(0:Nat)/\s=s/\(0:Int)=(0:Int)/\an UInt8=an UInt8/\an UInt8=an UInt8/\True)/\∀(x_1:Nat),x_1<=List.length s.parts->if decide ((↑x_1:Int)<(↑(Int.toNat (↑(List.length s.parts):Int)):Int))=true then((0:Int)<=(↑x_1:Int)/\(↑x_1:Int)<(↑(Int.toNat (↑(List.length s.parts):Int)):Int))/\Int.toNat (↑x_1:Int)<List.length (aw s)/\if decide ((0:Int)<(↑(List.length s.names):Int))=true then((0:Int)<=List.getD (aw s) (Int.toNat (↑x_1:Int)) (dfl (Ty.int IntKind.i64))
  /\List.getD (aw s) (Int.toNat (↑x_1:Int)) (dfl (Ty.int IntKind.i64))<(↑(List.length s.names):Int))/\(List.length (if s.names=[]then[]else List.map (fun(i:Int) ↦List.getD s.names (Int.toNat i) []) (List.take x_1 (aw s)))=List.length (if s.names=[]then[]else List.map (fun(i:Int) ↦List.getD s.names (Int.toNat i) []) (List.take x_1 (aw s)))/\(List.length (if s.names=[]then[]else List.map (fun(i:Int) ↦List.getD s.names (Int.toNat i) []) (List.take x_1 (aw s)))+List.length [List.getD s.names (Int.toNat (List.getD (aw s) (Int.toNat (↑x_1:Int)) (dfl (Ty.int IntKind.i64)))) (dfl Ty.str)]) *(16:Nat)<=(140737488355328:Nat))/\((0:Int)<=List.getD (aw s) (Int.toNat (↑x_1:Int)) (dfl (Ty.int IntKind.i64))/\List.getD (aw s) (Int.toNat (↑x_1:Int)) (dfl (Ty.int IntKind.i64))<(↑(List.length s.parts):Int))/\(sz (List.getD s.parts (Int.toNat (List.getD (aw s) (Int.toNat (↑x_1:Int)) (dfl (Ty.int IntKind.i64)))) (dfl (Ty.st SN.shape)))<=n/\allS bN (List.getD s.parts (Int.toNat (List.getD (aw s) (Int.toNat (↑x_1:Int)) (dfl (Ty.int IntKind.i64)))) (dfl (Ty.st SN.shape)))=true)/\(List.length (List.map (fun(i:Int) ↦List.getD (sortedL s.parts) (Int.toNat i) da) (List.take x_1 (aw s)))=x_1/\(List.length (List.map (fun(i:Int) ↦List.getD (sortedL s.parts) (Int.toNat i) da) (List.take x_1 (aw s)))+List.length [sortedS (List.getD s.parts (Int.toNat (List.getD (aw s) (Int.toNat (↑x_1:Int)) (dfl (Ty.int IntKind.i64)))) (dfl (Ty.st SN.shape)))]) *(88:Nat)<=(140737488355328:Nat))/\inR IntKind.i64 ((↑x_1:Int)+(1:Int))/\∃(y:Nat),y<=List.length s.parts/\List.length s.parts-y<List.length s.parts-x_1/\(↑x_1:Int)+(1:Int)=(↑y:Int)/\(↑x:Int)=(↑x:Int)/\s=s/\Int.toNat (↑(List.length s.parts):Int)=Int.toNat (↑(List.length s.parts):Int)/\(↑(Int.toNat (↑(List.length s.parts):Int)):Int)=(↑(Int.toNat (↑(List.length s.parts):Int)):Int)/\false=false/\true=true/\Int.toNat (↑(List.length s.parts):Int)=Int.toNat (↑(List.length s.parts):Int)/\(↑(Int.toNat (↑(List.length s.parts):Int)):Int)=(↑(Int.toNat (↑(List.length s.parts):Int)):Int)/\s.kind=s.kind/\s.pkg=s.pkg/\s.name=s.name/\((if s.names=[]then[]else List.map (fun(i:Int) ↦List.getD s.names (Int.toNat i) []) (List.take x_1 (aw s)))++[List.getD s.names (Int.toNat (List.getD (aw s) (Int.toNat (↑x_1:Int)) (dfl (Ty.int IntKind.i64)))) (dfl Ty.str)]=if s.names=[]then[]else List.map (fun(i:Int) ↦List.getD s.names (Int.toNat i) []) (List.take y (aw s)))/\List.map (fun(i:Int) ↦List.getD (sortedL s.parts) (Int.toNat i) da) (List.take x_1 (aw s))++[sortedS (List.getD s.parts (Int.toNat (List.getD (aw s) (Int.toNat (↑x_1:Int)) (dfl (Ty.int IntKind.i64)))) (dfl (Ty.st SN.shape)))]=List.map (fun(i:Int) ↦List.getD (sortedL s.parts) (Int.toNat i) da) (List.take y (aw s))/\aw s=aw s/\List.length ((if s.names=[]then[]else List.map (fun(i:Int) ↦List.getD s.names (Int.toNat i) []) (List.take x_1 (aw s)))++[List.getD s.names (Int.toNat (List.getD (aw s) (Int.toNat (↑x_1:Int)) (dfl (Ty.int IntKind.i64)))) (dfl Ty.str)])=List.length (if s.names=[]then[]else List.map (fun(i:Int) ↦List.getD s.names (Int.toNat i) []) (List.take y (aw s)))/\List.length (List.map (fun(i:Int) ↦List.getD (sortedL s.parts) (Int.toNat i) da) (List.take x_1 (aw s))++[sortedS (List.getD s.parts (Int.toNat (List.getD (aw s) (Int.toNat (↑x_1:Int)) (dfl (Ty.int IntKind.i64)))) (dfl (Ty.st SN.shape)))])=y/\s=s/\(0:Int)=(0:Int)/\an UInt8=an UInt8/\an UInt8=an UInt8/\True else((0:Int)<=List.getD (aw s) (Int.toNat (↑x_1:Int)) (dfl (Ty.int IntKind.i64))/\List.getD (aw s) (Int.toNat (↑x_1:Int)) (dfl (Ty.int IntKind.i64))<(↑(List.length s.parts):Int))
  /\(sz (List.getD s.parts (Int.toNat (List.getD (aw s) (Int.toNat (↑x_1:Int)) (dfl (Ty.int IntKind.i64)))) (dfl (Ty.st SN.shape)))<=n/\allS bN (List.getD s.parts (Int.toNat (List.getD (aw s) (Int.toNat (↑x_1:Int)) (dfl (Ty.int IntKind.i64)))) (dfl (Ty.st SN.shape)))=true)/\(List.length (List.map (fun(i:Int) ↦List.getD (sortedL s.parts) (Int.toNat i) da) (List.take x_1 (aw s)))=x_1/\(List.length (List.map (fun(i:Int) ↦List.getD (sortedL s.parts) (Int.toNat i) da) (List.take x_1 (aw s)))+List.length [sortedS (List.getD s.parts (Int.toNat (List.getD (aw s) (Int.toNat (↑x_1:Int)) (dfl (Ty.int IntKind.i64)))) (dfl (Ty.st SN.shape)))]) *(88:Nat)<=(140737488355328:Nat))/\inR IntKind.i64 ((↑x_1:Int)+(1:Int))/\∃(y:Nat),y<=List.length s.parts/\List.length s.parts-y<List.length s.parts-x_1/\(↑x_1:Int)+(1:Int)=(↑y:Int)/\(↑x:Int)=(↑x:Int)/\s=s/\Int.toNat (↑(List.length s.parts):Int)=Int.toNat (↑(List.length s.parts):Int)/\(↑(Int.toNat (↑(List.length s.parts):Int)):Int)=(↑(Int.toNat (↑(List.length s.parts):Int)):Int)/\false=false/\true=true/\Int.toNat (↑(List.length s.parts):Int)=Int.toNat (↑(List.length s.parts):Int)/\(↑(Int.toNat (↑(List.length s.parts):Int)):Int)=(↑(Int.toNat (↑(List.length s.parts):Int)):Int)/\s.kind=s.kind/\s.pkg=s.pkg/\s.name=s.name/\((if s.names=[]then[]else List.map (fun(i:Int) ↦List.getD s.names (Int.toNat i) []) (List.take x_1 (aw s)))=if s.names=[]then[]else List.map (fun(i:Int) ↦List.getD s.names (Int.toNat i) []) (List.take y (aw s)))/\List.map (fun(i:Int) ↦List.getD (sortedL s.parts) (Int.toNat i) da) (List.take x_1 (aw s))++[sortedS (List.getD s.parts (Int.toNat (List.getD (aw s) (Int.toNat (↑x_1:Int)) (dfl (Ty.int IntKind.i64)))) (dfl (Ty.st SN.shape)))]=List.map (fun(i:Int) ↦List.getD (sortedL s.parts) (Int.toNat i) da) (List.take y (aw s))/\aw s=aw s/\List.length (if s.names=[]then[]else List.map (fun(i:Int) ↦List.getD s.names (Int.toNat i) []) (List.take x_1 (aw s)))=List.length (if s.names=[]then[]else List.map (fun(i:Int) ↦List.getD s.names (Int.toNat i) []) (List.take y (aw s)))/\List.length (List.map (fun(i:Int) ↦List.getD (sortedL s.parts) (Int.toNat i) da) (List.take x_1 (aw s))++[sortedS (List.getD s.parts (Int.toNat (List.getD (aw s) (Int.toNat (↑x_1:Int)) (dfl (Ty.int IntKind.i64)))) (dfl (Ty.st SN.shape)))])=y/\s=s/\(0:Int)=(0:Int)/\an UInt8=an UInt8/\an UInt8=an UInt8/\True else True/\s.kind=(sortedS s).kind/\s.pkg=(sortedS s).pkg/\s.name=(sortedS s).name/\(if s.names=[]then[]else List.map (fun(i:Int) ↦List.getD s.names (Int.toNat i) []) (List.take x_1 (aw s)))=(sortedS s).names/\List.map (fun(i:Int) ↦List.getD (sortedL s.parts) (Int.toNat i) da) (List.take x_1 (aw s))=(sortedS s).parts/\True else(∃(x_1:Nat),x_1<=List.length s.parts/\(0:Int)=(↑x_1:Int)/\(↑x:Int)=(↑x:Int)/\s=s/\Int.toNat (↑(List.length s.parts):Int)=Int.toNat (↑(List.length s.parts):Int)/\(↑(Int.toNat (↑(List.length s.parts):Int)):Int)=(↑(Int.toNat (↑(List.length s.parts):Int)):Int)/\false=false/\false=false/\Int.toNat (↑(List.length s.parts):Int)=Int.toNat (↑(List.length s.parts):Int)/\(↑(Int.toNat (↑(List.length s.parts):Int)):Int)=(↑(Int.toNat (↑(List.length s.parts):Int)):Int)/\s.kind=s.kind/\s.pkg=s.pkg/\s.name=s.name/\(if s.names=[]then[]else List.map (fun(i:Int) ↦List.getD s.names (Int.toNat i) []) (List.take x_1 (aw s)))=[]/\List.map (fun(i:Int) ↦List.getD (sortedL s.parts) (Int.toNat i) da) (List.take x_1 (aw s))=[]/\bP x++List.replicate (List.length s.parts-x) (0:Int)=aw s/\List.length (if s.names=[]then[]
  else List.map (fun(i:Int) ↦List.getD s.names (Int.toNat i) []) (List.take x_1 (aw s)))=(0:Nat)/\x_1=(0:Nat)/\s=s/\(0:Int)=(0:Int)/\an UInt8=an UInt8/\an UInt8=an UInt8/\True)/\∀(x_1:Nat),x_1<=List.length s.parts->if decide ((↑x_1:Int)<(↑(Int.toNat (↑(List.length s.parts):Int)):Int))=true then((0:Int)<=(↑x_1:Int)/\(↑x_1:Int)<(↑(Int.toNat (↑(List.length s.parts):Int)):Int))/\Int.toNat (↑x_1:Int)<List.length (aw s)/\if decide ((0:Int)<(↑(List.length s.names):Int))=true then((0:Int)<=List.getD (aw s) (Int.toNat (↑x_1:Int)) (dfl (Ty.int IntKind.i64))/\List.getD (aw s) (Int.toNat (↑x_1:Int)) (dfl (Ty.int IntKind.i64))<(↑(List.length s.names):Int))/\(List.length (if s.names=[]then[]else List.map (fun(i:Int) ↦List.getD s.names (Int.toNat i) []) (List.take x_1 (aw s)))=List.length (if s.names=[]then[]else List.map (fun(i:Int) ↦List.getD s.names (Int.toNat i) []) (List.take x_1 (aw s)))/\(List.length (if s.names=[]then[]else List.map (fun(i:Int) ↦List.getD s.names (Int.toNat i) []) (List.take x_1 (aw s)))+List.length [List.getD s.names (Int.toNat (List.getD (aw s) (Int.toNat (↑x_1:Int)) (dfl (Ty.int IntKind.i64)))) (dfl Ty.str)]) *(16:Nat)<=(140737488355328:Nat))/\((0:Int)<=List.getD (aw s) (Int.toNat (↑x_1:Int)) (dfl (Ty.int IntKind.i64))/\List.getD (aw s) (Int.toNat (↑x_1:Int)) (dfl (Ty.int IntKind.i64))<(↑(List.length s.parts):Int))/\(sz (List.getD s.parts (Int.toNat (List.getD (aw s) (Int.toNat (↑x_1:Int)) (dfl (Ty.int IntKind.i64)))) (dfl (Ty.st SN.shape)))<=n/\allS bN (List.getD s.parts (Int.toNat (List.getD (aw s) (Int.toNat (↑x_1:Int)) (dfl (Ty.int IntKind.i64)))) (dfl (Ty.st SN.shape)))=true)/\(List.length (List.map (fun(i:Int) ↦List.getD (sortedL s.parts) (Int.toNat i) da) (List.take x_1 (aw s)))=x_1/\(List.length (List.map (fun(i:Int) ↦List.getD (sortedL s.parts) (Int.toNat i) da) (List.take x_1 (aw s)))+List.length [sortedS (List.getD s.parts (Int.toNat (List.getD (aw s) (Int.toNat (↑x_1:Int)) (dfl (Ty.int IntKind.i64)))) (dfl (Ty.st SN.shape)))]) *(88:Nat)<=(140737488355328:Nat))/\inR IntKind.i64 ((↑x_1:Int)+(1:Int))/\∃(y:Nat),y<=List.length s.parts/\List.length s.parts-y<List.length s.parts-x_1/\(↑x_1:Int)+(1:Int)=(↑y:Int)/\(↑x:Int)=(↑x:Int)/\s=s/\Int.toNat (↑(List.length s.parts):Int)=Int.toNat (↑(List.length s.parts):Int)/\(↑(Int.toNat (↑(List.length s.parts):Int)):Int)=(↑(Int.toNat (↑(List.length s.parts):Int)):Int)/\false=false/\false=false/\Int.toNat (↑(List.length s.parts):Int)=Int.toNat (↑(List.length s.parts):Int)/\(↑(Int.toNat (↑(List.length s.parts):Int)):Int)=(↑(Int.toNat (↑(List.length s.parts):Int)):Int)/\s.kind=s.kind/\s.pkg=s.pkg/\s.name=s.name/\((if s.names=[]then[]else List.map (fun(i:Int) ↦List.getD s.names (Int.toNat i) []) (List.take x_1 (aw s)))++[List.getD s.names (Int.toNat (List.getD (aw s) (Int.toNat (↑x_1:Int)) (dfl (Ty.int IntKind.i64)))) (dfl Ty.str)]=if s.names=[]then[]else List.map (fun(i:Int) ↦List.getD s.names (Int.toNat i) []) (List.take y (aw s)))/\List.map (fun(i:Int) ↦List.getD (sortedL s.parts) (Int.toNat i) da) (List.take x_1 (aw s))++[sortedS (List.getD s.parts (Int.toNat (List.getD (aw s) (Int.toNat (↑x_1:Int)) (dfl (Ty.int IntKind.i64)))) (dfl (Ty.st SN.shape)))]=List.map (fun(i:Int) ↦List.getD (sortedL s.parts) (Int.toNat i) da) (List.take y (aw s))/\aw s=aw s/\List.length ((if s.names=[]then[]else List.map (fun(i:Int) ↦List.getD s.names (Int.toNat i) []) (List.take x_1 (aw s)))++[List.getD s.names (Int.toNat (List.getD (aw s) (Int.toNat (↑x_1:Int)) (dfl (Ty.int IntKind.i64)))) (dfl Ty.str)])=List.length (if s.names=[]then[]
  else List.map (fun(i:Int) ↦List.getD s.names (Int.toNat i) []) (List.take y (aw s)))/\List.length (List.map (fun(i:Int) ↦List.getD (sortedL s.parts) (Int.toNat i) da) (List.take x_1 (aw s))++[sortedS (List.getD s.parts (Int.toNat (List.getD (aw s) (Int.toNat (↑x_1:Int)) (dfl (Ty.int IntKind.i64)))) (dfl (Ty.st SN.shape)))])=y/\s=s/\(0:Int)=(0:Int)/\an UInt8=an UInt8/\an UInt8=an UInt8/\True else((0:Int)<=List.getD (aw s) (Int.toNat (↑x_1:Int)) (dfl (Ty.int IntKind.i64))/\List.getD (aw s) (Int.toNat (↑x_1:Int)) (dfl (Ty.int IntKind.i64))<(↑(List.length s.parts):Int))/\(sz (List.getD s.parts (Int.toNat (List.getD (aw s) (Int.toNat (↑x_1:Int)) (dfl (Ty.int IntKind.i64)))) (dfl (Ty.st SN.shape)))<=n/\allS bN (List.getD s.parts (Int.toNat (List.getD (aw s) (Int.toNat (↑x_1:Int)) (dfl (Ty.int IntKind.i64)))) (dfl (Ty.st SN.shape)))=true)/\(List.length (List.map (fun(i:Int) ↦List.getD (sortedL s.parts) (Int.toNat i) da) (List.take x_1 (aw s)))=x_1/\(List.length (List.map (fun(i:Int) ↦List.getD (sortedL s.parts) (Int.toNat i) da) (List.take x_1 (aw s)))+List.length [sortedS (List.getD s.parts (Int.toNat (List.getD (aw s) (Int.toNat (↑x_1:Int)) (dfl (Ty.int IntKind.i64)))) (dfl (Ty.st SN.shape)))]) *(88:Nat)<=(140737488355328:Nat))/\inR IntKind.i64 ((↑x_1:Int)+(1:Int))/\∃(y:Nat),y<=List.length s.parts/\List.length s.parts-y<List.length s.parts-x_1/\(↑x_1:Int)+(1:Int)=(↑y:Int)/\(↑x:Int)=(↑x:Int)/\s=s/\Int.toNat (↑(List.length s.parts):Int)=Int.toNat (↑(List.length s.parts):Int)/\(↑(Int.toNat (↑(List.length s.parts):Int)):Int)=(↑(Int.toNat (↑(List.length s.parts):Int)):Int)/\false=false/\false=false/\Int.toNat (↑(List.length s.parts):Int)=Int.toNat (↑(List.length s.parts):Int)/\(↑(Int.toNat (↑(List.length s.parts):Int)):Int)=(↑(Int.toNat (↑(List.length s.parts):Int)):Int)/\s.kind=s.kind/\s.pkg=s.pkg/\s.name=s.name/\((if s.names=[]then[]else List.map (fun(i:Int) ↦List.getD s.names (Int.toNat i) []) (List.take x_1 (aw s)))=if s.names=[]then[]else List.map (fun(i:Int) ↦List.getD s.names (Int.toNat i) []) (List.take y (aw s)))/\List.map (fun(i:Int) ↦List.getD (sortedL s.parts) (Int.toNat i) da) (List.take x_1 (aw s))++[sortedS (List.getD s.parts (Int.toNat (List.getD (aw s) (Int.toNat (↑x_1:Int)) (dfl (Ty.int IntKind.i64)))) (dfl (Ty.st SN.shape)))]=List.map (fun(i:Int) ↦List.getD (sortedL s.parts) (Int.toNat i) da) (List.take y (aw s))/\aw s=aw s/\List.length (if s.names=[]then[]else List.map (fun(i:Int) ↦List.getD s.names (Int.toNat i) []) (List.take x_1 (aw s)))=List.length (if s.names=[]then[]else List.map (fun(i:Int) ↦List.getD s.names (Int.toNat i) []) (List.take y (aw s)))/\List.length (List.map (fun(i:Int) ↦List.getD (sortedL s.parts) (Int.toNat i) da) (List.take x_1 (aw s))++[sortedS (List.getD s.parts (Int.toNat (List.getD (aw s) (Int.toNat (↑x_1:Int)) (dfl (Ty.int IntKind.i64)))) (dfl (Ty.st SN.shape)))])=y/\s=s/\(0:Int)=(0:Int)/\an UInt8=an UInt8/\an UInt8=an UInt8/\True else True/\s.kind=(sortedS s).kind/\s.pkg=(sortedS s).pkg/\s.name=(sortedS s).name/\(if s.names=[]then[]else List.map (fun(i:Int) ↦List.getD s.names (Int.toNat i) []) (List.take x_1 (aw s)))=(sortedS s).names/\List.map (fun(i:Int) ↦List.getD (sortedL s.parts) (Int.toNat i) da) (List.take x_1 (aw s))=(sortedS s).parts/\True:=by
 have ln:=hs.parts.len;have hz:=eC s;have hl:=ix s.parts;have hor:bN s=true/\allL bN s.parts=true:=by rw[ep]at ho;simpa using ho
 simp only[Int.toNat_natCast,eq_self,true_and,and_true];refine⟨by omega,⟨0,by omega,rfl,by simp[bP]⟩,?_⟩;rintro k hk;refine ab (fun h=>?_) (fun h=>?_)
 ·replace h:=Xo h;exact⟨by omega,by simp[dz];omega,aL (by omega) ln,k+1,by omega,by omega,by omega,BG (by omega)⟩
 replace h:¬((k:Int)<(s.parts.length:Int)):=fun e=>h (Xd e);have e:k=s.parts.length:=by omega
 subst e;simp only[Nat.sub_self,List.replicate_zero,List.append_nil];have hr:bP s.parts.length=[]↔s.parts=[]:=by rw[<-List.length_eq_zero_iff,dz,List.length_eq_zero_iff]
 have hp2:=rT s
 have at_:∀k,k<s.parts.length->0<=(aw s).getD k (dfl (.int .i64))/\(aw s).getD k (dfl (.int .i64))<s.parts.length:=fun k hk=>
  yy.1 (getD_mem (aw s) k (dfl (.int .i64)) (by rw[hp2];exact hk))
 refine ab (fun h2=>?_) (fun h2=>?_)
 ·have hne:s.names≠[]:=by intro e;rw[e]at h2;simp at h2
  have ho1:s.names.length=s.parts.length/\s.names.Nodup:=by have:=hor.1;unfold bN at this;simpa[hne]using this
  refine⟨⟨by rw[dz],?_,fun x hx=>?_,ho1.2,by rw[dz];omega⟩,⟨0,by omega,rfl,by simp,by simp,?_,by simp,rfl⟩,?_⟩
  ·rw[Ne,hr];intro e;rw[e]at ho1;exact hne (List.length_eq_zero_iff.1 (by simpa using ho1.1))
  ·rw[ho1.1];exact hZ.1 hx
  ·unfold aw fP bH;rw[if_neg hne]
  ·rintro k hk2;refine ab (fun h=>?_) (fun h=>?_)
   ·replace h:=Xo h;have hk3:k<s.parts.length:=by omega
    obtain⟨a1,a2⟩:=at_ k hk3;refine⟨by omega,by omega,?_⟩;rw[if_pos h2];have hi:((aw s).getD k (dfl (.int .i64))).toNat<s.parts.length:=by omega
    have f1:=db (getD_mem s.parts _ (dfl (.st .shape)) hi);have f2:=cN hor.2 (getD_mem s.parts _ (dfl (.st .shape)) hi);have t1:=dR (aw s) k (dfl (.int .i64)) (by rw[hp2];exact hk3);have t2:List.map (fun i:Int=>(sortedL s.parts).getD i.toNat da) (List.take (k+1) (aw s))=List.map (fun i:Int=>(sortedL s.parts).getD i.toNat da) (List.take k (aw s))++[sortedS (s.parts.getD ((aw s).getD k (dfl (.int .i64))).toNat (dfl (.st .shape)))]:=by rw[t1,List.map_append,List.map_singleton,gu _ _ da (dfl (.st .shape)) hi]
    have t3:List.map (fun i:Int=>s.names.getD i.toNat []) (List.take (k+1) (aw s))=List.map (fun i:Int=>s.names.getD i.toNat []) (List.take k (aw s))++[s.names.getD ((aw s).getD k (dfl (.int .i64))).toNat []]:=by rw[t1,List.map_append,List.map_singleton]
    have tl:(List.take k (aw s)).length=k:=by rw[List.length_take,hp2];omega
    refine⟨⟨a1,by omega⟩,?_,⟨a1,a2⟩,⟨by omega,f2⟩,⟨by rw[List.length_map,tl],by rw[List.length_map,tl];simp only[List.length_singleton];omega⟩,aL hk3 ln,k+1,by omega,by omega,by omega,?_,t2.symm,?_,?_⟩
    ·rw[if_neg hne,List.length_map,tl];simp only[List.length_singleton];omega
    ·rw[if_neg hne,if_neg hne,t3];rfl
    ·rw[if_neg hne,if_neg hne,t3];rfl
    ·rw[List.length_append,List.length_map,tl];rfl
   ·replace h:¬((k:Int)<(s.parts.length:Int)):=fun e=>h (Xd e);have e:k=s.parts.length:=by omega
    subst e;rw[<-hp2,List.take_length,if_neg hne];obtain⟨kk,pp,nn,ns,ps⟩:=s;simp only[sortedS];rw[if_neg hne];exact⟨trivial,trivial,trivial,rfl,trivial⟩
 ·have hne:s.names=[]:=by refine Classical.byContradiction fun hc=>h2 (Xd ?_);have:=List.length_pos_iff.2 hc;omega
  have hpl:aw s=bP s.parts.length:=by unfold aw;rw[if_pos hne]
  simp only[hne,if_true,List.length_nil,List.length_singleton];refine⟨⟨0,by omega,rfl,trivial,by simp,hpl.symm,trivial,rfl⟩,?_⟩;rintro k hk2;refine ab (fun h=>?_) (fun h=>?_)
  ·replace h:=Xo h;have hk3:k<s.parts.length:=by omega
   obtain⟨a1,a2⟩:=at_ k hk3;refine⟨by omega,by omega,?_⟩;rw[if_neg (by simp)];have hi:((aw s).getD k (dfl (.int .i64))).toNat<s.parts.length:=by omega
   have f1:=db (getD_mem s.parts _ (dfl (.st .shape)) hi);have f2:=cN hor.2 (getD_mem s.parts _ (dfl (.st .shape)) hi);have t1:=dR (aw s) k (dfl (.int .i64)) (by rw[hp2];exact hk3);have t2:List.map (fun i:Int=>(sortedL s.parts).getD i.toNat da) (List.take (k+1) (aw s))=List.map (fun i:Int=>(sortedL s.parts).getD i.toNat da) (List.take k (aw s))++[sortedS (s.parts.getD ((aw s).getD k (dfl (.int .i64))).toNat (dfl (.st .shape)))]:=by rw[t1,List.map_append,List.map_singleton,gu _ _ da (dfl (.st .shape)) hi]
   have tl:(List.take k (aw s)).length=k:=by rw[List.length_take,hp2];omega
   exact⟨⟨a1,a2⟩,⟨by omega,f2⟩,⟨by rw[List.length_map,tl],by rw[List.length_map,tl];omega⟩,aL hk3 ln,k+1,by omega,by omega,by omega,trivial,t2.symm,trivial,by rw[List.length_append,List.length_map,tl];rfl⟩
  ·replace h:¬((k:Int)<(s.parts.length:Int)):=fun e=>h (Xd e);have e:k=s.parts.length:=by omega
   subst e;rw[<-hp2,List.take_length];obtain⟨kk,pp,nn,ns,ps⟩:=s;simp only at hne;subst hne;simp only[sortedS,if_true];exact⟨trivial,trivial,trivial,trivial,trivial⟩
theorem Et(s:Shape)  :
  if(!decide (sz s<=(400:Nat)))=true then True/\(3:Int)=aC s/\True else if decide ((40:Int)<if sz s<=(400:Nat)then deepS s (1:Int)else(0:Int))=true then True/\(91:Int)=aC s/\True else sz s<=(400:Nat)/\if(!allS aj s)=true then True/\(70:Int)=aC s/\True else True/\(0:Int)=aC s/\True:=by
 unfold aC;by_cases h1:sz s<=400
 ·rw[if_neg (by simp[h1]),if_pos h1,if_neg (show ¬400<sz s by omega)];by_cases h2:(40:Int)<deepS s 1
  ·rw[if_pos (by simp[h2]),if_pos h2];exact⟨trivial,rfl,trivial⟩
  ·rw[if_neg (by simp[h2]),if_neg h2];refine⟨h1,?_⟩;cases allS aj s<;>simp
 ·rw[if_pos (by simp[h1]),if_pos (show 400<sz s by omega)];exact⟨trivial,rfl,trivial⟩
theorem Gb(s:Shape)  :
  if(!decide (aC s=(0:Int)))=true then True/\s=aM s/\True else(sz s<=(400:Nat)/\allS bN s=true)/\True/\sortedS s=aM s/\True:=by
 unfold aM;by_cases h:aC s=0
 ·rw[if_neg (by simp[h]),if_pos h];exact⟨⟨(bX h).1,ki h⟩,trivial,rfl,trivial⟩
 ·rw[if_pos (by simp[h]),if_neg h];exact⟨trivial,rfl,trivial⟩
theorem Gc(n:Nat)(s:Shape)(m:Int)(hs:Wf (.st .shape) s)(ho:sz s<=n+1/\0<=m/\m<=1000000) :
  (∃(x:Nat×Int),(x.1<=List.length s.parts/\(1:Int)<=x.2/\x.2<=m+(1:Int)/\sizeL (List.drop x.1 s.parts) x.2 m=sizeF s m)/\(1:Int)=x.2/\(0:Int)=(↑x.1:Int)/\s=s/\m=m/\(0:Int)=(0:Int)/\s=s/\True)/\∀(x:Nat×Int),x.1<=List.length s.parts/\(1:Int)<=x.2/\x.2<=m+(1:Int)/\sizeL (List.drop x.1 s.parts) x.2 m=sizeF s m->if decide ((↑x.1:Int)<(↑(List.length s.parts):Int))=true then if decide (x.2<=m)=true then((0:Int)<=(↑x.1:Int)/\(↑x.1:Int)<(↑(List.length s.parts):Int))/\inR IntKind.i64 (m-x.2)/\(sz (List.getD s.parts (Int.toNat (↑x.1:Int)) (dfl (Ty.st SN.shape)))<=n/\(0:Int)<=m-x.2/\m-x.2<=(1000000:Int))/\inR IntKind.i64 (x.2+sizeF (List.getD s.parts (Int.toNat (↑x.1:Int)) (dfl (Ty.st SN.shape))) (m-x.2))/\inR IntKind.i64 ((↑x.1:Int)+(1:Int))/\∃(y:Nat×Int),(y.1<=List.length s.parts/\(1:Int)<=y.2/\y.2<=m+(1:Int)/\sizeL (List.drop y.1 s.parts) y.2 m=sizeF s m)/\List.length s.parts-y.1<List.length s.parts-x.1/\x.2+sizeF (List.getD s.parts (Int.toNat (↑x.1:Int)) (dfl (Ty.st SN.shape))) (m-x.2)=y.2/\(↑x.1:Int)+(1:Int)=(↑y.1:Int)/\s=s/\m=m/\(0:Int)=(0:Int)/\s=s/\True else True/\x.2=sizeF s m/\True else True/\x.2=sizeF s m/\True:=by
 have ln:=hs.parts.len;have hz:=eC s;obtain⟨ho1,ho2,ho3⟩:=ho;have h0:sizeL s.parts 1 m=sizeF s m:=by cases s;rfl
 simp only[Int.toNat_natCast,eq_self,true_and,and_true];refine⟨⟨(0,1),⟨Nat.zero_le _,by omega,by omega,h0⟩,rfl,rfl⟩,?_⟩;rintro⟨k,c⟩ ⟨h1,h2,h3,h4⟩;simp only at h1 h2 h3 h4⊢;refine ab (fun hk=>?_) (fun hk=>?_)
 ·replace hk:=Xo hk;have hk:k<s.parts.length:=by omega
  have hm:=db (getD_mem s.parts k (dfl (.st .shape)) hk);rw[aA s.parts k (dfl (.st .shape)) hk]at h4;simp only[sizeL]at h4;refine ab (fun hc=>?_) (fun hc=>?_)
  ·replace hc:=Xo hc;rw[if_pos hc]at h4;have hb:=sizeF_bd (s.parts.getD k (dfl (.st .shape))) (m-c) (by omega);exact⟨by omega,b8 (by omega) (by omega),by omega,b8 (by omega) (by omega),aL hk ln,(k+1,_),⟨by omega,by simp only;omega,by simp only;omega,h4⟩,by simp only;omega,rfl,rfl⟩
  ·rw[if_neg (fun e=>hc (Xd e))]at h4;exact h4
 ·replace hk:¬((k:Int)<(s.parts.length:Int)):=fun e=>hk (Xd e);have e:k=s.parts.length:=by omega
  subst e;rw[List.drop_length]at h4;exact h4
end Go.AL.Seat
end
section
namespace Go.Pd
open Go.AL
def eqC:List Change->List Change->Bool
 |[],[]=>true
 |a::r,b::s=>(decide (a.kind=b.kind)&&(decide (a.name=b.name)&&true))&&eqC r s
 |_,_=>false
def bL:List Str->Str->Nat
 |[],_=>0
 |a::r,n=>if Op.bytesLess a n=true then bL r n+1 else 0
def qL(l:List Str)(n:Str)(j:Nat):List Str:=if j=l.length∨¬l.getD j []=n then l.take j++[n]++l.drop j else l
def Gd(l:List Str)(n:Str):List Str:=qL l n (bL l n)
theorem yW(a:Str)(r:List Str)(n:Str)(j:Nat):qL (a::r) n (j+1)=a::qL r n j:=by
 unfold qL;by_cases h:j=r.length∨¬r.getD j []=n
 ·rw[if_pos h,if_pos (by simpa using h)];rfl
 ·rw[if_neg h,if_neg (by simpa using h)]
def qM:List Str->Str->List Str
 |[],n=>[n]
 |a::r,n=>if Op.bytesLess a n=true then a::qM r n else if a=n then a::r else n::a::r
theorem Eu:∀(A:List Str)(n:Str),Gd A n=qM A n
 |[],n=>by simp[Gd,qL,bL,qM]
 |a::r,n=>by
  have ih:=Eu r n;unfold Gd at ih⊢;simp only[qM];by_cases h:Op.bytesLess a n=true
  ·have hp:bL (a::r) n=bL r n+1:=by simp[bL,h]
   rw[hp,yW,ih,if_pos h]
  ·have hp:bL (a::r) n=0:=by simp[bL,h]
   rw[hp,if_neg h];unfold qL;by_cases e:a=n
   ·rw[if_pos e,if_neg (by simp[e])]
   ·rw[if_neg e,if_pos (by simp[e])];rfl
theorem wb:∀{A:List Str} {n x:Str},x∈qM A n↔x∈A∨x=n
 |[],n,x=>by simp[qM]
 |a::r,n,x=>by
  simp only[qM];split
  ·rw[List.mem_cons,wb,List.mem_cons,or_assoc]
  ·split
   ·rename_i e;subst e;rw[List.mem_cons];constructor
    ·exact Or.inl
    ·rintro(h|h)
     ·exact h
     ·exact Or.inl h
   ·rw[List.mem_cons,List.mem_cons];constructor
    ·rintro(h|h)
     ·exact Or.inr h
     ·exact Or.inl h
    ·rintro(h|h)
     ·exact Or.inr h
     ·exact Or.inl h
theorem om:∀{A:List Str} {n:Str},A.Pairwise (·<·)->(qM A n).Pairwise (·<·)
 |[],n,_=>by simp[qM]
 |a::r,n,h=>by
  obtain⟨h1,h2⟩:=List.pairwise_cons.1 h;simp only[qM];split
  ·rename_i hlt;rw[Go.Proofs.bytesLess_eq,decide_eq_true_eq]at hlt;refine List.pairwise_cons.2 ⟨fun x hx=>?_,om h2⟩;rcases wb.1 hx with hx|rfl
   ·exact h1 x hx
   ·exact hlt
  ·rename_i hlt;rw[Go.Proofs.bytesLess_eq,decide_eq_true_eq]at hlt;split
   ·exact h
   ·rename_i hne;have hna:n<a:=Classical.byContradiction fun hc=>hne (List.le_antisymm (List.not_lt.1 hc) (List.not_lt.1 hlt));refine List.pairwise_cons.2 ⟨fun x hx=>?_,h⟩;rcases List.mem_cons.1 hx with rfl|hx
    ·exact hna
    ·exact List.lt_trans hna (h1 x hx)
def gn{α:Type}(l:List α)(j:Nat)(x:α):List α:=l.take j++[x]++l.drop j
def mv:List Str->List Shape->List Str×List Shape->List Str×List Shape
 |n::r,p::q,a=>mv r q (gn a.1 (bL a.1 n) n,gn a.2 (bL a.1 n) (sortedS p))
 |_,_,a=>a
def aO(s:Shape)(k:Nat):List Str×List Shape:=mv (s.names.take k) (s.parts.take k) ([],[])
theorem lK:∀(l:List Str)(n:Str),bL l n<=l.length
 |[],_=>Nat.le_refl _
 |a::r,n=>by have:=lK r n;simp only[bL,List.length_cons];split<;>omega
theorem mw{α:Type}{l:List α}{j:Nat}(x:α)(h:j<=l.length):(gn l j x).length=l.length+1:=by unfold gn;simp only[List.length_append,List.length_take,List.length_drop,List.length_singleton];omega
theorem ni{α β:Type}(f:α->β)(l:List α)(j:Nat)(x:α):gn (l.map f) j (f x)=(gn l j x).map f:=by unfold gn;simp only[List.map_append,List.map_take,List.map_drop,List.map_cons,List.map_nil]
theorem yX{α:Type}(l:List α)(j:Nat)(x:α):(gn l j x).Perm (l++[x]):=by
 unfold gn;have h:(l.take j++[x]++l.drop j).Perm (l.take j++l.drop j++[x]):=by rw[List.append_assoc,List.append_assoc];exact List.Perm.append_left _ (List.perm_append_comm)
 rwa [List.take_append_drop]at h
theorem C8{l:List Str}{n:Str}(h:n∉l):gn l (bL l n) n=qM l n:=by
 rw[<-Eu];unfold Gd qL gn;rw[if_pos];by_cases e:bL l n=l.length
 ·exact Or.inl e
 ·refine Or.inr fun hg=>h ?_;have:=lK l n;rw[<-hg];exact getD_mem l _ [] (by omega)
theorem my:∀(ns:List Str)(ps:List Shape)(n:Str)(p:Shape)(a:List Str×List Shape),ns.length=ps.length->
  mv (ns++[n]) (ps++[p]) a=(gn (mv ns ps a).1 (bL (mv ns ps a).1 n) n,gn (mv ns ps a).2 (bL (mv ns ps a).1 n) (sortedS p))
 |[],[],n,p,a,_=>rfl
 |m::r,q::s,n,p,a,h=>by simp only[List.cons_append,mv];exact my r s n p _ (by simpa using h)
theorem nj(s:Shape)(k:Nat)(hl:s.names.length=s.parts.length)(hk:k<s.parts.length)(d:Shape) :
  aO s (k+1)=(gn (aO s k).1 (bL (aO s k).1 (s.names.getD k [])) (s.names.getD k []),gn (aO s k).2 (bL (aO s k).1 (s.names.getD k [])) (sortedS (s.parts.getD k d))):=by
 unfold aO;rw[dR s.names k [] (by omega),dR s.parts k d hk,my _ _ _ _ _ (by rw[List.length_take,List.length_take];omega)]
theorem wc(s:Shape)(hl:s.names.length=s.parts.length):∀k,k<=s.parts.length->(aO s k).1.length=k/\(aO s k).2.length=k
 |0,_=>by simp[aO,mv]
 |k+1,h=>by obtain⟨h1,h2⟩:=wc s hl k (by omega);have hp:=lK (aO s k).1 (s.names.getD k []);rw[nj s k hl (by omega) da];simp only;rw[mw _ hp,mw _ (by omega)];omega
def qN(ns:List Str):Nat->List Int
 |0=>[]
 |k+1=>gn (qN ns k) (bL ((qN ns k).map (bH ns)) (ns.getD k [])) (k:Int)
theorem nk(ns:List Str):∀k,(qN ns k).Perm (bP k)
 |0=>.refl _
 |k+1=>by simp only[qN];rw[nT];exact(yX _ _ _).trans ((nk ns k).append_right _)
theorem we(s:Shape)(hl:s.names.length=s.parts.length):∀k,k<=s.parts.length->aO s k=((qN s.names k).map (bH s.names),(qN s.names k).map fun i:Int=>(sortedL s.parts).getD i.toNat da)
 |0,_=>rfl
 |k+1,h=>by
  have ih:=we s hl k (by omega);rw[nj s k hl (by omega) da,ih];simp only[qN];have e1:s.names.getD k []=bH s.names (k:Int):=rfl;have e2:sortedS (s.parts.getD k da)=(fun i:Int=>(sortedL s.parts).getD i.toNat da) (k:Int):=by simp only[Int.toNat_natCast];rw[gu s.parts k da da (by omega)]
  rw[e2,ni];conv=>lhs;lhs;rhs;rw[e1]
  rw[ni]
theorem oq(ns:List Str)(hn:ns.Nodup):∀k,k<=ns.length->((qN ns k).map (bH ns)).Pairwise (·<·)
 |0,_=>List.Pairwise.nil
 |k+1,h=>by
  have ih:=oq ns hn k (by omega);have hni:ns.getD k []∉(qN ns k).map (bH ns):=by intro hm;obtain⟨i,hi,e⟩:=List.mem_map.1 hm;have hi:=hZ.1 ((nk ns k).mem_iff.1 hi);rw[List.nodup_iff_pairwise_ne]at hn;have:=List.pairwise_iff_getElem.1 hn i.toNat k (by omega) (by omega) (by omega);unfold bH at e;rw[List.getD_eq_getElem?_getD,List.getD_eq_getElem?_getD,List.getElem?_eq_getElem (show i.toNat<ns.length by omega),List.getElem?_eq_getElem (show k<ns.length by omega)]at e;exact this e
  simp only[qN];have e1:ns.getD k []=bH ns (k:Int):=rfl;rw[<-ni,<-e1,C8 hni];exact om ih
theorem C9(s:Shape)(hl:s.names.length=s.parts.length)(hn:s.names.Nodup)(h0:s.names≠[]):(aO s s.parts.length).1=(sortedS s).names/\(aO s s.parts.length).2=(sortedS s).parts:=by
 have hp:qN s.names s.parts.length=aw s:=by
  unfold aw;rw[if_neg h0]
  letI:=mK
  refine lF hn (fun x hx=>?_) (nk _ _) ?_
  ·rw[hl];exact hZ.1 hx
  ·have:=oq s.names hn s.parts.length (by omega);rw[List.pairwise_map]at this;exact this.imp fun h=>List.le_of_lt h
 rw[we s hl _ (Nat.le_refl _),hp];obtain⟨k,p,m,ns,ps⟩:=s;simp only at h0;simp only[sortedS,if_neg h0,and_self]
end Go.Pd
end
section
open Go Go.AL Go.Pd
namespace Go.AL.Seat
theorem Ca(n:Nat)(a b:Shape)(ha:Wf (.st .shape) a)(hb:Wf (.st .shape) b)(hn:sz a<=n+1) :
  if(!decide (a.kind=b.kind))=true then True/\false=eqS a b/\True else if(!decide (a.pkg=b.pkg))=true then True/\false=eqS a b/\True else if(!decide (a.name=b.name))=true then True/\false=eqS a b/\True else if(!decide ((↑(List.length a.names):Int)=(↑(List.length b.names):Int)))=true then True/\false=eqS a b/\True else if(!decide ((↑(List.length a.parts):Int)=(↑(List.length b.parts):Int)))=true then True/\false=eqS a b/\True else(∃(x:Nat),(x<=List.length a.names/\List.length a.names=List.length b.names/\List.length a.parts=List.length b.parts/\eqS a b=(decide (List.drop x a.names=List.drop x b.names)&&eqL a.parts b.parts))/\(0:Int)=(↑x:Int)/\a=a/\b=b/\false=false/\a=a/\b=b/\True)/\∀(x:Nat),x<=List.length a.names/\List.length a.names=List.length b.names/\List.length a.parts=List.length b.parts/\eqS a b=(decide (List.drop x a.names=List.drop x b.names)&&eqL a.parts b.parts)->if decide ((↑x:Int)<(↑(List.length a.names):Int))=true then((0:Int)<=(↑x:Int)/\(↑x:Int)<(↑(List.length a.names):Int))/\((0:Int)<=(↑x:Int)/\(↑x:Int)<(↑(List.length b.names):Int))/\if(!decide (List.getD a.names (Int.toNat (↑x:Int)) (dfl Ty.str)=List.getD b.names (Int.toNat (↑x:Int)) (dfl Ty.str)))=true then True/\false=eqS a b/\True else inR IntKind.i64 ((↑x:Int)+(1:Int))/\∃(y:Nat),(y<=List.length a.names/\List.length a.names=List.length b.names/\List.length a.parts=List.length b.parts/\eqS a b=(decide (List.drop y a.names=List.drop y b.names)&&eqL a.parts b.parts))/\List.length a.names-y<List.length a.names-x/\(↑x:Int)+(1:Int)=(↑y:Int)/\a=a/\b=b/\false=false/\a=a/\b=b/\True else(∃(x_1:Nat),(x_1<=List.length a.parts/\List.length a.parts=List.length b.parts/\eqS a b=eqL (List.drop x_1 a.parts) (List.drop x_1 b.parts))/\(0:Int)=(↑x_1:Int)/\(↑x:Int)=(↑x:Int)/\a=a/\b=b/\false=false/\false=false/\a=a/\b=b/\True)/\∀(x_1:Nat),x_1<=List.length a.parts/\List.length a.parts=List.length b.parts/\eqS a b=eqL (List.drop x_1 a.parts) (List.drop x_1 b.parts)->if decide ((↑x_1:Int)<(↑(List.length a.parts):Int))=true then((0:Int)<=(↑x_1:Int)/\(↑x_1:Int)<(↑(List.length a.parts):Int))/\((0:Int)<=(↑x_1:Int)/\(↑x_1:Int)<(↑(List.length b.parts):Int))/\sz (List.getD a.parts (Int.toNat (↑x_1:Int)) (dfl (Ty.st SN.shape)))<=n/\if(!eqS (List.getD a.parts (Int.toNat (↑x_1:Int)) (dfl (Ty.st SN.shape))) (List.getD b.parts (Int.toNat (↑x_1:Int)) (dfl (Ty.st SN.shape))))=true then True/\false=eqS a b/\True else inR IntKind.i64 ((↑x_1:Int)+(1:Int))/\∃(y:Nat),(y<=List.length a.parts/\List.length a.parts=List.length b.parts/\eqS a b=eqL (List.drop y a.parts) (List.drop y b.parts))/\List.length a.parts-y<List.length a.parts-x_1/\(↑x_1:Int)+(1:Int)=(↑y:Int)/\(↑x:Int)=(↑x:Int)/\a=a/\b=b/\false=false/\false=false/\a=a/\b=b/\True else True/\true=eqS a b/\True:=by
 have lna:=ha.names.len;have lpa:=ha.parts.len;have hz:=eC a;have he:eqS a b=(decide (a.kind=b.kind)&&decide (a.pkg=b.pkg)&&decide (a.name=b.name)&&decide (a.names=b.names)&&eqL a.parts b.parts):=by cases a;cases b;rfl
 simp only[Int.toNat_natCast,eq_self,true_and,and_true];refine ab (fun h=>?_) (fun h1=>ab (fun h=>?_) (fun h2=>ab (fun h=>?_) (fun h3=>ab (fun h=>?_) (fun h4=>ab (fun h=>?_) (fun h5=>?_)))))
 ·rw[he];simp only[Bool.not_eq_true']at h;rw[h];simp
 ·rw[he];simp only[Bool.not_eq_true']at h;rw[h];simp
 ·rw[he];simp only[Bool.not_eq_true']at h;rw[h];simp
 ·have:¬a.names=b.names:=by intro e;rw[e]at h;simp at h
  rw[he];simp[this]
 ·have:a.parts.length≠b.parts.length:=by intro e;rw[e]at h;simp at h
  rw[he,AI this];simp
 have l4:a.names.length=b.names.length:=by simp at h4;omega
 have l5:a.parts.length=b.parts.length:=by simp at h5;omega
 have he':eqS a b=(decide (a.names=b.names)&&eqL a.parts b.parts):=by rw[he];simp only[Bool.not_eq_true,Bool.not_eq_false']at h1 h2 h3;rw[h1,h2,h3];simp
 refine⟨⟨0,⟨Nat.zero_le _,l4,l5,by simpa using he'⟩,rfl⟩,?_⟩;rintro k ⟨k1,_,_,k4⟩;refine ab (fun h=>?_) (fun h=>?_)
 ·replace h:=Xo h;have hk:k<a.names.length:=by omega
  have hk':k<b.names.length:=by omega
  rw[aA a.names k (dfl .str) hk,aA b.names k (dfl .str) hk']at k4;refine⟨by omega,by omega,ab (fun c=>?_) (fun c=>?_)⟩
  ·have c':¬a.names.getD k (dfl .str)=b.names.getD k (dfl .str):=by simpa using c
   rw[k4];have:¬(a.names.getD k (dfl .str)::a.names.drop (k+1)=b.names.getD k (dfl .str)::b.names.drop (k+1)):=fun e=>c' (List.cons.inj e).1;simp only[this,decide_false,Bool.false_and]
  ·have c':a.names.getD k (dfl .str)=b.names.getD k (dfl .str):=by simpa using c
   refine⟨aL hk lna,k+1,⟨by omega,l4,l5,?_⟩,by omega,by omega⟩;rw[k4,c'];congr 1;rw[decide_eq_decide];simp
 ·replace h:¬((k:Int)<(a.names.length:Int)):=fun e=>h (Xd e);have e:k=a.names.length:=by omega
  subst e;have k4':eqS a b=eqL a.parts b.parts:=by rw[k4,List.drop_length,l4,List.drop_length];simp
  refine⟨⟨0,⟨Nat.zero_le _,l5,by simpa using k4'⟩,rfl⟩,?_⟩;rintro j ⟨j1,_,j3⟩;refine ab (fun h=>?_) (fun h=>?_)
  ·replace h:=Xo h;have hj:j<a.parts.length:=by omega
   have hj':j<b.parts.length:=by omega
   have hm:=db (getD_mem a.parts j (dfl (.st .shape)) hj);rw[aA a.parts j (dfl (.st .shape)) hj,aA b.parts j (dfl (.st .shape)) hj']at j3;simp only[eqL]at j3;refine⟨by omega,by omega,by omega,ab (fun c=>?_) (fun c=>?_)⟩
   ·have c':eqS (a.parts.getD j (dfl (.st .shape))) (b.parts.getD j (dfl (.st .shape)))=false:=by simpa using c
    rw[j3,c'];rfl
   ·have c':eqS (a.parts.getD j (dfl (.st .shape))) (b.parts.getD j (dfl (.st .shape)))=true:=by simpa using c
    rw[c',Bool.true_and]at j3;exact⟨aL hj lpa,j+1,⟨by omega,l5,j3⟩,by omega,by omega⟩
  ·replace h:¬((j:Int)<(a.parts.length:Int)):=fun e=>h (Xd e);have e:j=a.parts.length:=by omega
   subst e;rw[j3,List.drop_length,l5,List.drop_length];rfl
theorem Cb(l:List Bndg)(N:Nat)(hl:Wf (.lst (.st .bind)) l)(hN:∀x∈l,sz x.shape<=N) :
  if decide ((60:Int)<(↑(List.length l):Int))=true then True/\false=ic l/\True else(∃(x:Nat),(x<=List.length l/\o9 (List.drop x l)=ic l)/\(0:Int)=(↑x:Int)/\l=l/\false=false/\True)/\∀(x:Nat),x<=List.length l/\o9 (List.drop x l)=ic l->if decide ((↑x:Int)<(↑(List.length l):Int))=true then((0:Int)<=(↑x:Int)/\(↑x:Int)<(↑(List.length l):Int))/\(sz (List.getD l (Int.toNat (↑x:Int)) (dfl (Ty.st SN.bind))).shape<=N/\(0:Int)<=(800:Int)/\(800:Int)<=(1000000:Int))/\if decide ((800:Int)<sizeF (List.getD l (Int.toNat (↑x:Int)) (dfl (Ty.st SN.bind))).shape (800:Int))=true then True/\false=ic l/\True else inR IntKind.i64 ((↑x:Int)+(1:Int))/\∃(y:Nat),(y<=List.length l/\o9 (List.drop y l)=ic l)/\List.length l-y<List.length l-x/\(↑x:Int)+(1:Int)=(↑y:Int)/\l=l/\false=false/\True else True/\true=ic l/\True:=by
 have ln:=hl.len;simp only[Int.toNat_natCast,eq_self,true_and,and_true];refine ab (fun h=>?_) (fun h=>?_)
 ·unfold ic;rw[if_pos (Xo h)]
 have h:¬(60:Int)<(l.length:Int):=fun e=>h (Xd e);have hF:ic l=o9 l:=by unfold ic;rw[if_neg h]
 refine⟨⟨0,⟨Nat.zero_le _,by rw[List.drop_zero,hF]⟩,rfl⟩,?_⟩;rintro k ⟨h1,h2⟩;refine ab (fun hk=>?_) (fun hk=>?_)
 ·replace hk:=Xo hk;have hk:k<l.length:=by omega
  have hm:=hN _ (getD_mem l k (dfl (.st .bind)) hk);rw[aA l k (dfl (.st .bind)) hk,o9]at h2;refine⟨by omega,⟨hm,by omega,by omega⟩,ab (fun hc=>?_) (fun hc=>?_)⟩
  ·rw[if_pos (Xo hc)]at h2;exact h2
  ·rw[if_neg (fun e=>hc (Xd e))]at h2;exact⟨aL hk ln,k+1,⟨by omega,h2⟩,by omega,by omega⟩
 ·have e:k=l.length:=by have:¬((k:Int)<(l.length:Int)):=fun e=>hk (Xd e);omega
  subst e;rw[List.drop_length]at h2;exact h2
theorem yY(e:Envt)(he:Wf (.st .env) e) :
  if ic e.types=true then if ic e.values=true then True/\ic e.own=jv e/\True else True/\false=jv e/\True else True/\false=jv e/\True:=by
 unfold jv;cases ic e.types<;>cases ic e.values<;>cases ic e.own<;>simp
theorem Ge(e:Envt)(l:List Bndg)(he:Wf (.st .env) e)(hl:Wf (.lst (.st .bind)) l)(ho:e.values.length<=1000000000/\l.length<=1000) :
  List.length e.values *(120:Nat)<=(140737488355328:Nat)/\(List.length e.values=List.length e.values/\(List.length e.values+List.length l) *(120:Nat)<=(140737488355328:Nat))/\True/\e.self=(bk e l).self/\e.types=(bk e l).types/\e.values++l=e.values++l/\e.own=(bk e l).own/\True:=by
 obtain⟨h1,h2⟩:=ho;exact⟨by omega,⟨rfl,by omega⟩,trivial,rfl,rfl,rfl,rfl,trivial⟩
theorem Cc(n:Nat)(t:Trm)(m:Int)(hs:Wf (.st .term) t)(hz:szT t<=n+1)(h0:0<=m)(h1:m<=1000000) :
  (∃(x:Nat×Int×Int),(x.1<=List.length t.parts/\(1:Int)<=x.2.1/\x.2.1<=m+(1:Int)/\(0:Int)<=x.2.2/\x.2.2+(1:Int)<=x.2.1/\countL (List.drop x.1 t.parts) m x.2.1 x.2.2=countL t.parts m (1:Int) (0:Int))/\(1:Int)=x.2.1/\(0:Int)=x.2.2/\(0:Int)=(↑x.1:Int)/\t=t/\m=m/\(0:Int)=(0:Int)/\(0:Int)=(0:Int)/\t.parts=t.parts/\(↑(List.length t.parts):Int)=(↑(List.length t.parts):Int)/\t=t/\True)/\∀(x:Nat×Int×Int),x.1<=List.length t.parts/\(1:Int)<=x.2.1/\x.2.1<=m+(1:Int)/\(0:Int)<=x.2.2/\x.2.2+(1:Int)<=x.2.1/\countL (List.drop x.1 t.parts) m x.2.1 x.2.2=countL t.parts m (1:Int) (0:Int)->if decide ((↑x.1:Int)<(↑(List.length t.parts):Int))=true then((0:Int)<=(↑x.1:Int)/\(↑x.1:Int)<(↑(List.length t.parts):Int))/\if decide (m<x.2.1)=true then inR IntKind.i64 (x.2.2+(1:Int))/\True/\x.2.1=(countT t m).1/\x.2.2+(1:Int)=(countT t m).2/\True else inR IntKind.i64 (m-x.2.1)/\(szT (List.getD t.parts (Int.toNat (↑x.1:Int)) (dfl (Ty.st SN.term)))<=n/\(0:Int)<=m-x.2.1/\m-x.2.1<=(1000000:Int))/\inR IntKind.i64 (x.2.1+(countT (List.getD t.parts (Int.toNat (↑x.1:Int)) (dfl (Ty.st SN.term))) (m-x.2.1)).1)/\inR IntKind.i64 ((↑x.1:Int)+(1:Int))/\∃(y:Nat×Int×Int),(y.1<=List.length t.parts/\(1:Int)<=y.2.1/\y.2.1<=m+(1:Int)/\(0:Int)<=y.2.2/\y.2.2+(1:Int)<=y.2.1/\countL (List.drop y.1 t.parts) m y.2.1 y.2.2=countL t.parts m (1:Int) (0:Int))/\List.length t.parts-y.1<List.length t.parts-x.1/\x.2.1+(countT (List.getD t.parts (Int.toNat (↑x.1:Int)) (dfl (Ty.st SN.term))) (m-x.2.1)).1=y.2.1/\max x.2.2 (countT (List.getD t.parts (Int.toNat (↑x.1:Int)) (dfl (Ty.st SN.term))) (m-x.2.1)).2=y.2.2/\(↑x.1:Int)+(1:Int)=(↑y.1:Int)/\t=t/\m=m/\(0:Int)=(0:Int)/\(0:Int)=(0:Int)/\t.parts=t.parts/\(↑(List.length t.parts):Int)=(↑(List.length t.parts):Int)/\t=t/\True else inR IntKind.i64 (x.2.2+(1:Int))/\True/\x.2.1=(countT t m).1/\x.2.2+(1:Int)=(countT t m).2/\True:=by
 have ln:=hs.term_parts.len;rw[BH];refine⟨⟨(0,1,0),⟨Nat.zero_le _,by decide,by show(1:Int)<=m+1;omega,by decide,by decide,rfl⟩,rfl,rfl,rfl,?_⟩,?_⟩
 ·exact Xr
 rintro⟨k,a,d⟩ ⟨h1,h2,h3,h4,h5,h6⟩;simp only[Int.toNat_natCast]at h1 h2 h3 h4 h5 h6⊢;refine ab (fun h=>?_) (fun h=>?_)
 ·replace h:=Xo h;have hk:k<t.parts.length:=by omega
  rw[aA t.parts k (dfl (.st .term)) hk,countL]at h6;refine⟨by omega,ab (fun c=>?_) (fun c=>?_)⟩
  ·replace c:=Xo c;rw[if_pos c]at h6;rw[<-h6];refine⟨b8 (by omega) (by omega),?_⟩;exact Xr
  ·replace c:¬m<a:=fun e=>c (Xd e);rw[if_neg c]at h6;have hm:=iy (getD_mem t.parts k (dfl (.st .term)) hk);have he:=jt t;have hb:=countT_bound (t.parts.getD k (dfl (.st .term))) (m-a) (by omega);refine⟨b8 (by omega) (by omega),⟨by omega,by omega,by omega⟩,b8 (by omega) (by omega),aL hk ln,(k+1,_,_),⟨by show k+1<=_;omega,?_,?_,?_,?_,h6⟩,by show _-(k+1)<_;omega,rfl,rfl,by show _=((k+1:Nat):Int);omega,?_⟩
   ·show(1:Int)<=a+_;omega
   ·show a+_<=m+1;omega
   ·show(0:Int)<=max d _;omega
   ·show max d _+1<=a+_;omega
   exact Xr
 ·replace h:¬((k:Int)<(t.parts.length:Int)):=fun e=>h (Xd e);have e:k=t.parts.length:=by omega
  subst e;rw[List.drop_length,countL]at h6;rw[<-h6];refine⟨b8 (by omega) (by omega),?_⟩;exact Xr
theorem yZ (x:Str)  :
  True/\(!aI x)=!aI x/\True:=by
 exact⟨trivial,by trivial,trivial⟩
theorem z6 (l:List Str) (hl:Wf (.lst .str) l) :
  (∃(x:Nat),(x<=List.length l/\bM aI (List.drop x l) x=bM aI l (0:Nat))/\(0:Int)=(↑x:Int)/\l=l/\(↑(List.length l):Int)=(↑(List.length l):Int)/\True)/\∀(x:Nat),x<=List.length l/\bM aI (List.drop x l) x=bM aI l (0:Nat)->if decide ((↑x:Int)<(↑(List.length l):Int))=true then((0:Int)<=(↑x:Int)/\(↑x:Int)<(↑(List.length l):Int))/\if(!aI (List.getD l (Int.toNat (↑x:Int)) (dfl Ty.str)))=true then True/\(↑x:Int)=bM aI l (0:Nat)/\True else inR IntKind.i64 ((↑x:Int)+(1:Int))/\∃(y:Nat),(y<=List.length l/\bM aI (List.drop y l) y=bM aI l (0:Nat))/\List.length l-y<List.length l-x/\(↑x:Int)+(1:Int)=(↑y:Int)/\l=l/\(↑(List.length l):Int)=(↑(List.length l):Int)/\True else True/\(-1:Int)=bM aI l (0:Nat)/\True:=by
 have ln:=hl.len;simp only[Int.toNat_natCast];refine⟨⟨0,⟨Nat.zero_le _,by simp⟩,rfl,by trivial,by trivial,trivial⟩,?_⟩;rintro k ⟨h1,h2⟩;refine ab (fun h=>?_) (fun h=>?_)
 ·replace h:=Xo h;have hk:k<l.length:=by omega
  rw[aA l k (dfl .str) hk,bM]at h2;refine⟨by omega,ab (fun c=>?_) (fun c=>?_)⟩
  ·have c:aI (l.getD k (dfl .str))=false:=by simpa using c
   rw[c,if_neg Bool.false_ne_true]at h2;rw[<-h2];exact⟨trivial,rfl,trivial⟩
  ·have c:aI (l.getD k (dfl .str))=true:=by simpa using c
   rw[if_pos c]at h2;refine⟨aL hk ln,k+1,⟨by omega,h2⟩,by omega,by omega,by trivial,by trivial,trivial⟩
 ·replace h:¬((k:Int)<(l.length:Int)):=fun e=>h (Xd e);have e:k=l.length:=by omega
  subst e;rw[List.drop_length,bM]at h2;rw[<-h2];exact⟨trivial,rfl,trivial⟩
theorem z7 (l:List Str)  :
  True/\decide ((0:Int)<=bM aI l (0:Nat))=!List.all l aI/\True:=by
 exact⟨trivial,iV aI l 0,trivial⟩
theorem Ev (l:List Str)  :
  True/\(!!List.all l aI)=List.all l aI/\True:=by
 exact⟨trivial,Bool.not_not _,trivial⟩
theorem Ew(l:List Str)(ho:l.length *16<=140737488355328) :
  List.length l *(16:Nat)<=(140737488355328:Nat)/\if List.all l aI=true then List.length (List.mergeSort l fun(x y:Str) ↦decide (x<=y))=List.length (List.mergeSort l fun(x y:Str) ↦decide (x<=y))/\True/\decide ((↑(List.length (Lib.compact (List.mergeSort l fun(x y:Str) ↦decide (x<=y)))):Int)=(↑(List.length l):Int))=(List.all l aI&&decide (List.Nodup l))/\True else True/\false=(List.all l aI&&decide (List.Nodup l))/\True:=by
 have hc:=kh l;unfold fq at hc;refine⟨ho,ab (fun h=>?_) (fun h=>?_)⟩
 ·refine⟨by trivial,trivial,?_,trivial⟩;rw[h,Bool.true_and,decide_eq_decide,<-hc];omega
 ·have h:l.all aI=false:=by simpa using h
  exact⟨trivial,by rw[h];rfl,trivial⟩
theorem z8(n:Nat)(x:Shape) (ho:sz x<=n) :
  sz x<=n/\True/\(!allS b9 x)=!allS b9 x/\True:=by
 exact⟨ho,trivial,by trivial,trivial⟩
theorem zc(n:Nat)(l:List Shape) (hl:Wf (.lst (.st .shape)) l)(ho:∀x∈l,sz x<=n) :
  (∃(x:Nat),(x<=List.length l/\bM (allS b9) (List.drop x l) x=bM (allS b9) l (0:Nat))/\(0:Int)=(↑x:Int)/\l=l/\(↑(List.length l):Int)=(↑(List.length l):Int)/\True)/\∀(x:Nat),x<=List.length l/\bM (allS b9) (List.drop x l) x=bM (allS b9) l (0:Nat)->if decide ((↑x:Int)<(↑(List.length l):Int))=true then((0:Int)<=(↑x:Int)/\(↑x:Int)<(↑(List.length l):Int))/\sz (List.getD l (Int.toNat (↑x:Int)) (dfl (Ty.st SN.shape)))<=n/\if(!allS b9 (List.getD l (Int.toNat (↑x:Int)) (dfl (Ty.st SN.shape))))=true then True/\(↑x:Int)=bM (allS b9) l (0:Nat)/\True else inR IntKind.i64 ((↑x:Int)+(1:Int))/\∃(y:Nat),(y<=List.length l/\bM (allS b9) (List.drop y l) y=bM (allS b9) l (0:Nat))/\List.length l-y<List.length l-x/\(↑x:Int)+(1:Int)=(↑y:Int)/\l=l/\(↑(List.length l):Int)=(↑(List.length l):Int)/\True else True/\(-1:Int)=bM (allS b9) l (0:Nat)/\True:=by
 have ln:=hl.len;simp only[Int.toNat_natCast];refine⟨⟨0,⟨Nat.zero_le _,by simp⟩,rfl,by trivial,by trivial,trivial⟩,?_⟩;rintro k ⟨h1,h2⟩;refine ab (fun h=>?_) (fun h=>?_)
 ·replace h:=Xo h;have hk:k<l.length:=by omega
  rw[aA l k (dfl (.st .shape)) hk,bM]at h2;refine⟨by omega,ho _ (getD_mem l k _ hk),ab (fun c=>?_) (fun c=>?_)⟩
  ·have c:(allS b9) (l.getD k (dfl (.st .shape)))=false:=by simpa using c
   rw[c,if_neg Bool.false_ne_true]at h2;rw[<-h2];exact⟨trivial,rfl,trivial⟩
  ·have c:(allS b9) (l.getD k (dfl (.st .shape)))=true:=by simpa using c
   rw[if_pos c]at h2;refine⟨aL hk ln,k+1,⟨by omega,h2⟩,by omega,by omega,by trivial,by trivial,trivial⟩
 ·replace h:¬((k:Int)<(l.length:Int)):=fun e=>h (Xd e);have e:k=l.length:=by omega
  subst e;rw[List.drop_length,bM]at h2;rw[<-h2];exact⟨trivial,rfl,trivial⟩
theorem zd(n:Nat)(l:List Shape) (ho:∀x∈l,sz x<=n) :
  (∀(x:Shape),x∈l->sz x<=n)/\True/\decide ((0:Int)<=bM (allS b9) l (0:Nat))=!List.all l (allS b9)/\True:=by
 exact⟨ho,trivial,iV (allS b9) l 0,trivial⟩
theorem Ex(n:Nat)(l:List Shape) (ho:∀x∈l,sz x<=n) :
  (∀(x:Shape),x∈l->sz x<=n)/\True/\(!!List.all l (allS b9))=List.all l (allS b9)/\True:=by
 exact⟨ho,trivial,Bool.not_not _,trivial⟩
theorem Gf(n:Nat)(s:Shape)(ho:sz s<=n+1) :
  if(!decide (s.kind=(10:Int)))=true then(∀(x:Shape),x∈s.parts->sz x<=n)/\True/\List.all s.parts (allS b9)=allS b9 s/\True else True/\false=allS b9 s/\True:=by
 have e0:allS b9 s=(b9 s&&s.parts.all (allS b9)):=by rw[ep,mh]
 have h0:=eC s;have hm:∀x∈s.parts,sz x<=n:=fun x hx=>by have:=db hx;omega
 rw[e0];refine ab (fun h=>?_) (fun h=>?_)
 ·have h:b9 s=true:=h;rw[h,Bool.true_and];exact⟨hm,trivial,rfl,trivial⟩
 ·have h:b9 s=false:=by simpa[b9]using h
  rw[h];exact⟨trivial,rfl,trivial⟩
theorem Cd(s:Shape)  :
  if decide (aC s=(0:Int))=true then sz s<=(400:Nat)/\True/\allS b9 s=(decide (aC s=(0:Int))&&allS b9 s)/\True else True/\false=(decide (aC s=(0:Int))&&allS b9 s)/\True:=by
 refine ab (fun h=>?_) (fun h=>?_)
 ·have h:aC s=0:=by simpa using h
  refine⟨?_,trivial,by simp[h],trivial⟩;unfold aC at h;by_cases c:400<sz s
  ·rw[if_pos c]at h;exact absurd h (by decide)
  ·omega
 ·have h:¬aC s=0:=by simpa using h
  exact⟨trivial,by simp[h],trivial⟩
theorem Hf(t:Trm)  :
  True/\(↑(List.length t.names):Int)=(↑(List.length t.names):Int)/\(↑(List.length t.vars):Int)=(↑(List.length t.vars):Int)/\(↑(List.length t.shapes):Int)=(↑(List.length t.shapes):Int)/\(↑(List.length t.parts):Int)=(↑(List.length t.parts):Int)/\True:=by
 exact Xr
theorem Ey(s:Str)(hs:Wf .str s) :
  (∃(x:Nat),(x<=List.length s/\List.all s cG=List.all (List.drop x s) cG)/\(0:Int)=(↑x:Int)/\s=s/\bE s=bE s/\(↑(List.length (bE s)):Int)=(↑(List.length (bE s)):Int)/\True)/\∀(x:Nat),x<=List.length s/\List.all s cG=List.all (List.drop x s) cG->if decide ((↑x:Int)<(↑(List.length (bE s)):Int))=true then((0:Int)<=(↑x:Int)/\(↑x:Int)<(↑(List.length (bE s)):Int))/\if decide (List.getD (bE s) (Int.toNat (↑x:Int)) (dfl (Ty.int IntKind.u8))<(32:Int))=true then if(!decide (List.getD (bE s) (Int.toNat (↑x:Int)) (dfl (Ty.int IntKind.u8))=(10:Int)))=true then if(!decide (List.getD (bE s) (Int.toNat (↑x:Int)) (dfl (Ty.int IntKind.u8))=(9:Int)))=true then True/\false=fY s/\True else inR IntKind.i64 ((↑x:Int)+(1:Int))/\∃(y:Nat),(y<=List.length s/\List.all s cG=List.all (List.drop y s) cG)/\List.length s-y<List.length s-x/\(↑x:Int)+(1:Int)=(↑y:Int)/\s=s/\bE s=bE s/\(↑(List.length (bE s)):Int)=(↑(List.length (bE s)):Int)/\True else inR IntKind.i64 ((↑x:Int)+(1:Int))/\∃(y:Nat),(y<=List.length s/\List.all s cG=List.all (List.drop y s) cG)/\List.length s-y<List.length s-x/\(↑x:Int)+(1:Int)=(↑y:Int)/\s=s/\bE s=bE s/\(↑(List.length (bE s)):Int)=(↑(List.length (bE s)):Int)/\True else inR IntKind.i64 ((↑x:Int)+(1:Int))/\∃(y:Nat),(y<=List.length s/\List.all s cG=List.all (List.drop y s) cG)/\List.length s-y<List.length s-x/\(↑x:Int)+(1:Int)=(↑y:Int)/\s=s/\bE s=bE s/\(↑(List.length (bE s)):Int)=(↑(List.length (bE s)):Int)/\True else True/\Option.isNone (km s)=fY s/\True:=by
 have ln:=hs.str;have hbl:(bE s).length=s.length:=List.length_map _;simp only[hbl,Int.toNat_natCast];refine⟨⟨0,⟨Nat.zero_le _,rfl⟩,?_⟩,?_⟩
 ·exact Xr
 rintro k ⟨h1,h2⟩;refine ab (fun h=>?_) (fun h=>?_)
 ·have hk:k<s.length:=by have:=Xo h;omega
  rw[aA s k 0 hk,List.all_cons]at h2;have hq:=sF (s.getD k 0);simp only[vT s k hk]
  have yes:¬(bI (s.getD k 0)<32/\bI (s.getD k 0)≠10/\bI (s.getD k 0)≠9)->s.all cG=(s.drop (k+1)).all cG:=fun e=>by
   have:cG (s.getD k 0)=true:=by
    cases hh:cG (s.getD k 0)with
    |true=>rfl
    |false=>exact absurd (hq.1 hh) e
   rw[h2,this,Bool.true_and]
  refine⟨⟨by omega,by omega⟩,?_⟩
  repeat' (refine ab (fun _=>?_) (fun _=>?_))
  all_goals (simp only[decide_eq_true_eq,Bool.not_eq_true',decide_eq_false_iff_not]at *)
  all_goals first
   |(refine⟨trivial,?_,trivial⟩;unfold fY;rw[h2,hq.2 (by omega),Bool.false_and,Bool.false_and])
   |(refine⟨aL hk ln,k+1,⟨by omega,yes (by omega)⟩,by omega,by omega,?_⟩;exact Xr)
 ·have hk:k=s.length:=by have:¬((k:Int)<(s.length:Int)):=fun e=>h (Xd e);omega
  refine⟨trivial,?_,trivial⟩;unfold fY;rw[h2,hk,List.drop_length];rfl
theorem wg (x:Shape)  :
  True/\(!(decide (aC x=(0:Int))&&allS b9 x))=!bD x/\True:=by
 exact⟨trivial,by trivial,trivial⟩
theorem wh (l:List Shape) (hl:Wf (.lst (.st .shape)) l) :
  (∃(x:Nat),(x<=List.length l/\bM bD (List.drop x l) x=bM bD l (0:Nat))/\(0:Int)=(↑x:Int)/\l=l/\(↑(List.length l):Int)=(↑(List.length l):Int)/\True)/\∀(x:Nat),x<=List.length l/\bM bD (List.drop x l) x=bM bD l (0:Nat)->if decide ((↑x:Int)<(↑(List.length l):Int))=true then((0:Int)<=(↑x:Int)/\(↑x:Int)<(↑(List.length l):Int))/\if(!bD (List.getD l (Int.toNat (↑x:Int)) (dfl (Ty.st SN.shape))))=true then True/\(↑x:Int)=bM bD l (0:Nat)/\True else inR IntKind.i64 ((↑x:Int)+(1:Int))/\∃(y:Nat),(y<=List.length l/\bM bD (List.drop y l) y=bM bD l (0:Nat))/\List.length l-y<List.length l-x/\(↑x:Int)+(1:Int)=(↑y:Int)/\l=l/\(↑(List.length l):Int)=(↑(List.length l):Int)/\True else True/\(-1:Int)=bM bD l (0:Nat)/\True:=by
 have ln:=hl.len;simp only[Int.toNat_natCast];refine⟨⟨0,⟨Nat.zero_le _,by simp⟩,rfl,by trivial,by trivial,trivial⟩,?_⟩;rintro k ⟨h1,h2⟩;refine ab (fun h=>?_) (fun h=>?_)
 ·replace h:=Xo h;have hk:k<l.length:=by omega
  rw[aA l k (dfl (.st .shape)) hk,bM]at h2;refine⟨by omega,ab (fun c=>?_) (fun c=>?_)⟩
  ·have c:bD (l.getD k (dfl (.st .shape)))=false:=by simpa using c
   rw[c,if_neg Bool.false_ne_true]at h2;rw[<-h2];exact⟨trivial,rfl,trivial⟩
  ·have c:bD (l.getD k (dfl (.st .shape)))=true:=by simpa using c
   rw[if_pos c]at h2;refine⟨aL hk ln,k+1,⟨by omega,h2⟩,by omega,by omega,by trivial,by trivial,trivial⟩
 ·replace h:¬((k:Int)<(l.length:Int)):=fun e=>h (Xd e);have e:k=l.length:=by omega
  subst e;rw[List.drop_length,bM]at h2;rw[<-h2];exact⟨trivial,rfl,trivial⟩
theorem wi (l:List Shape)  :
  True/\decide ((0:Int)<=bM bD l (0:Nat))=!List.all l bD/\True:=by
 exact⟨trivial,iV bD l 0,trivial⟩
theorem Ce (l:List Shape)  :
  True/\(!!List.all l bD)=List.all l bD/\True:=by
 exact⟨trivial,Bool.not_not _,trivial⟩
theorem Ez(t:Trm)(ht:Wf (.st .term) t)(ho:t.names.length<=8796093022208) :
  (if decide (t.pos<(0:Int))=true then true=!eZ t/\t=t/\false=false/\t=t/\(↑(List.length t.names):Int)=(↑(List.length t.names):Int)/\(↑(List.length t.vars):Int)=(↑(List.length t.vars):Int)/\(↑(List.length t.shapes):Int)=(↑(List.length t.shapes):Int)/\(↑(List.length t.parts):Int)=(↑(List.length t.parts):Int)/\True else if(!decide (t.n=(0:Int)))=true then if(!decide (t.kind=(1:Int)))=true then true=!eZ t/\t=t/\false=false/\t=t/\(↑(List.length t.names):Int)=(↑(List.length t.names):Int)/\(↑(List.length t.vars):Int)=(↑(List.length t.vars):Int)/\(↑(List.length t.shapes):Int)=(↑(List.length t.shapes):Int)/\(↑(List.length t.parts):Int)=(↑(List.length t.parts):Int)/\True else if(!decide (t.pkg=[]))=true then if(!decide (t.kind=(5:Int)))=true then true=!eZ t/\t=t/\false=false/\t=t/\(↑(List.length t.names):Int)=(↑(List.length t.names):Int)/\(↑(List.length t.vars):Int)=(↑(List.length t.vars):Int)/\(↑(List.length t.shapes):Int)=(↑(List.length t.shapes):Int)/\(↑(List.length t.parts):Int)=(↑(List.length t.parts):Int)/\True else(!List.all t.shapes bD)=!eZ t/\t=t/\false=false/\t=t/\(↑(List.length t.names):Int)=(↑(List.length t.names):Int)/\(↑(List.length t.vars):Int)=(↑(List.length t.vars):Int)/\(↑(List.length t.shapes):Int)=(↑(List.length t.shapes):Int)/\(↑(List.length t.parts):Int)=(↑(List.length t.parts):Int)/\True else(!List.all t.shapes bD)=!eZ t/\t=t/\false=false/\t=t/\(↑(List.length t.names):Int)=(↑(List.length t.names):Int)/\(↑(List.length t.vars):Int)=(↑(List.length t.vars):Int)/\(↑(List.length t.shapes):Int)=(↑(List.length t.shapes):Int)/\(↑(List.length t.parts):Int)=(↑(List.length t.parts):Int)/\True else if(!decide (t.pkg=[]))=true then if(!decide (t.kind=(5:Int)))=true then true=!eZ t/\t=t/\false=false/\t=t/\(↑(List.length t.names):Int)=(↑(List.length t.names):Int)/\(↑(List.length t.vars):Int)=(↑(List.length t.vars):Int)/\(↑(List.length t.shapes):Int)=(↑(List.length t.shapes):Int)/\(↑(List.length t.parts):Int)=(↑(List.length t.parts):Int)/\True else(!List.all t.shapes bD)=!eZ t/\t=t/\false=false/\t=t/\(↑(List.length t.names):Int)=(↑(List.length t.names):Int)/\(↑(List.length t.vars):Int)=(↑(List.length t.vars):Int)/\(↑(List.length t.shapes):Int)=(↑(List.length t.shapes):Int)/\(↑(List.length t.parts):Int)=(↑(List.length t.parts):Int)/\True else(!List.all t.shapes bD)=!eZ t/\t=t/\false=false/\t=t/\(↑(List.length t.names):Int)=(↑(List.length t.names):Int)/\(↑(List.length t.vars):Int)=(↑(List.length t.vars):Int)/\(↑(List.length t.shapes):Int)=(↑(List.length t.shapes):Int)/\(↑(List.length t.parts):Int)=(↑(List.length t.parts):Int)/\True)/\if(!eZ t)=true then True/\false=ag t/\True else if decide (t.kind=(1:Int))=true then if decide (t.name=[])=true then if decide ((0:Int)<=t.n)=true then if decide (t.n<=(999999999999999:Int))=true then True/\(decide ((↑(List.length t.names):Int)=(0:Int))&&(decide ((↑(List.length t.vars):Int)=(0:Int))&&(decide ((↑(List.length t.shapes):Int)=(0:Int))&&(decide ((↑(List.length t.parts):Int)=(0:Int))&&true))))=ag t/\True else True/\false=ag t/\True else True/\false=ag t/\True else True/\false=ag t/\True else if decide (t.kind=(2:Int))=true then if fY t.name=true then True/\(decide ((↑(List.length t.names):Int)=(0:Int))&&(decide ((↑(List.length t.vars):Int)=(0:Int))&&(decide ((↑(List.length t.shapes):Int)=(0:Int))&&(decide ((↑(List.length t.parts):Int)=(0:Int))&&true))))=ag t/\True else True/\false=ag t/\True else if decide (t.kind=(3:Int))=true
  then if decide (t.name=[])=true then True/\(decide ((↑(List.length t.names):Int)=(0:Int))&&(decide ((↑(List.length t.vars):Int)=(0:Int))&&(decide ((↑(List.length t.shapes):Int)=(0:Int))&&(decide ((↑(List.length t.parts):Int)=(0:Int))&&true))))=ag t/\True else True/\false=ag t/\True else if decide (t.kind=(4:Int))=true then if decide (t.name=[])=true then True/\(decide ((↑(List.length t.names):Int)=(0:Int))&&(decide ((↑(List.length t.vars):Int)=(0:Int))&&(decide ((↑(List.length t.shapes):Int)=(0:Int))&&(decide ((↑(List.length t.parts):Int)=(0:Int))&&true))))=ag t/\True else True/\false=ag t/\True else if decide (t.kind=(5:Int))=true then if aI t.name=true then if decide (t.pkg=[])=true then True/\(decide ((↑(List.length t.names):Int)=(0:Int))&&(decide ((↑(List.length t.vars):Int)=(0:Int))&&(decide ((↑(List.length t.shapes):Int)=(0:Int))&&(decide ((↑(List.length t.parts):Int)=(0:Int))&&true))))=ag t/\True else if aI t.pkg=true then True/\(decide ((↑(List.length t.names):Int)=(0:Int))&&(decide ((↑(List.length t.vars):Int)=(0:Int))&&(decide ((↑(List.length t.shapes):Int)=(0:Int))&&(decide ((↑(List.length t.parts):Int)=(0:Int))&&true))))=ag t/\True else True/\false=ag t/\True else True/\false=ag t/\True else if decide (t.kind=(6:Int))=true then if decide (t.name=[])=true then if decide ((↑(List.length t.names):Int)<=(4096:Int))=true then List.length t.names *(16:Nat)<=(140737488355328:Nat)/\if(List.all t.names aI&&decide (List.Nodup t.names))=true then True/\(decide ((↑(List.length t.names):Int)=(↑(List.length t.names):Int))&&(decide ((↑(List.length t.vars):Int)=(0:Int))&&(decide ((↑(List.length t.shapes):Int)=(↑(List.length t.names):Int))&&(decide ((↑(List.length t.parts):Int)=(1:Int))&&true))))=ag t/\True else True/\false=ag t/\True else True/\false=ag t/\True else True/\false=ag t/\True else if decide (t.kind=(7:Int))=true then if decide (t.name=[])=true then if decide ((0:Int)<(↑(List.length t.parts):Int))=true then True/\(decide ((↑(List.length t.names):Int)=(0:Int))&&(decide ((↑(List.length t.vars):Int)=(0:Int))&&(decide ((↑(List.length t.shapes):Int)=(0:Int))&&(decide ((↑(List.length t.parts):Int)=(↑(List.length t.parts):Int))&&true))))=ag t/\True else True/\false=ag t/\True else True/\false=ag t/\True else if decide (t.kind=(8:Int))=true then if decide (t.name=[])=true then List.length t.names *(16:Nat)<=(140737488355328:Nat)/\if(List.all t.names aI&&decide (List.Nodup t.names))=true then True/\(decide ((↑(List.length t.names):Int)=(↑(List.length t.names):Int))&&(decide ((↑(List.length t.vars):Int)=(0:Int))&&(decide ((↑(List.length t.shapes):Int)=(0:Int))&&(decide ((↑(List.length t.parts):Int)=(↑(List.length t.names):Int))&&true))))=ag t/\True else True/\false=ag t/\True else True/\false=ag t/\True else if decide (t.kind=(9:Int))=true then if aI t.name=true then True/\(decide ((↑(List.length t.names):Int)=(0:Int))&&(decide ((↑(List.length t.vars):Int)=(0:Int))&&(decide ((↑(List.length t.shapes):Int)=(0:Int))&&(decide ((↑(List.length t.parts):Int)=(1:Int))&&true))))=ag t/\True else True/\false=ag t/\True else if decide (t.kind=(10:Int))=true then if aI t.name=true then True/\(decide ((↑(List.length t.names):Int)=(0:Int))&&(decide ((↑(List.length t.vars):Int)=(0:Int))&&(decide ((↑(List.length t.shapes):Int)=(0:Int))&&(decide ((↑(List.length t.parts):Int)=(1:Int))&&true))))=ag t/\True else True/\false=ag t/\True else if decide (t.kind=(11:Int))=true
  then if decide (t.name=[])=true then True/\(decide ((↑(List.length t.names):Int)=(0:Int))&&(decide ((↑(List.length t.vars):Int)=(0:Int))&&(decide ((↑(List.length t.shapes):Int)=(1:Int))&&(decide ((↑(List.length t.parts):Int)=(↑(List.length t.parts):Int))&&true))))=ag t/\True else True/\false=ag t/\True else if decide (t.kind=(12:Int))=true then if decide (t.name=[])=true then True/\(decide ((↑(List.length t.names):Int)=(0:Int))&&(decide ((↑(List.length t.vars):Int)=(0:Int))&&(decide ((↑(List.length t.shapes):Int)=(1:Int))&&(decide ((↑(List.length t.parts):Int)=(3:Int))&&true))))=ag t/\True else True/\false=ag t/\True else if decide (t.kind=(13:Int))=true then if decide (t.name=[])=true then List.length t.names *(16:Nat)<=(140737488355328:Nat)/\if(List.all t.names aI&&decide (List.Nodup t.names))=true then if List.all t.vars aI=true then inR IntKind.i64 ((↑(List.length t.names):Int)+(1:Int))/\inR IntKind.i64 ((↑(List.length t.names):Int)+(1:Int))/\True/\(decide ((↑(List.length t.names):Int)=(↑(List.length t.names):Int))&&(decide ((↑(List.length t.vars):Int)=(↑(List.length t.names):Int))&&(decide ((↑(List.length t.shapes):Int)=(↑(List.length t.names):Int)+(1:Int))&&(decide ((↑(List.length t.parts):Int)=(↑(List.length t.names):Int)+(1:Int))&&true))))=ag t/\True else True/\false=ag t/\True else True/\false=ag t/\True else True/\false=ag t/\True else if decide (t.kind=(14:Int))=true then if aI t.name=true then True/\(decide ((↑(List.length t.names):Int)=(0:Int))&&(decide ((↑(List.length t.vars):Int)=(0:Int))&&(decide ((↑(List.length t.shapes):Int)=(0:Int))&&(decide ((↑(List.length t.parts):Int)=(2:Int))&&true))))=ag t/\True else True/\false=ag t/\True else if decide (t.kind=(15:Int))=true then if decide (t.name=[])=true then True/\(decide ((↑(List.length t.names):Int)=(0:Int))&&(decide ((↑(List.length t.vars):Int)=(0:Int))&&(decide ((↑(List.length t.shapes):Int)=(1:Int))&&(decide ((↑(List.length t.parts):Int)=(1:Int))&&true))))=ag t/\True else True/\false=ag t/\True else if decide (t.kind=(16:Int))=true then if aY t.name=true then True/\(decide ((↑(List.length t.names):Int)=(0:Int))&&(decide ((↑(List.length t.vars):Int)=(0:Int))&&(decide ((↑(List.length t.shapes):Int)=(0:Int))&&(decide ((↑(List.length t.parts):Int)=(1:Int))&&true))))=ag t/\True else True/\false=ag t/\True else if decide (t.kind=(17:Int))=true then if aY t.name=true then True/\(decide ((↑(List.length t.names):Int)=(0:Int))&&(decide ((↑(List.length t.vars):Int)=(0:Int))&&(decide ((↑(List.length t.shapes):Int)=(0:Int))&&(decide ((↑(List.length t.parts):Int)=(1:Int))&&true))))=ag t/\True else True/\false=ag t/\True else True/\false=ag t/\True:=by
 refine⟨?_,ab (fun h=>?_) (fun h=>?_)⟩
 ·unfold eZ
  repeat' (refine ab (fun _=>?_) (fun _=>?_))
  all_goals simp_all
 ·have h:eZ t=false:=by simpa using h
  unfold ag;rw[h];exact⟨trivial,rfl,trivial⟩
 have h:eZ t=true:=by simpa using h
 have e0:ag t=jF t:=by unfold ag;rw[h,Bool.true_and]
 rw[e0];clear h e0;unfold jF eY ku;simp only[dnZ,dn1,dn2,dn3,dnN,dnS,dnL,dnP];generalize t.names.all aI=na;generalize t.vars.all aI=va
 repeat' (first|refine ab (fun _=>?_) (fun _=>?_)|refine⟨by omega,?_⟩|refine⟨b8 (by omega) (by omega),?_⟩|fail)
 all_goals (refine⟨trivial,?_,trivial⟩;try simp_all)
 all_goals first|(simp only[Bool.and_assoc];done)|(intros;omega)
theorem wj(n:Nat)(x:Trm) (ho:szT x<=n/\cK x=true) :
  (szT x<=n/\cK x=true)/\True/\(!allT ag x)=!allT ag x/\True:=by
 exact⟨ho,trivial,by trivial,trivial⟩
theorem wk(n:Nat)(l:List Trm) (hl:Wf (.lst (.st .term)) l)(ho:∀x∈l,szT x<=n/\cK x=true) :
  (∃(x:Nat),(x<=List.length l/\bM (allT ag) (List.drop x l) x=bM (allT ag) l (0:Nat))/\(0:Int)=(↑x:Int)/\l=l/\(↑(List.length l):Int)=(↑(List.length l):Int)/\True)/\∀(x:Nat),x<=List.length l/\bM (allT ag) (List.drop x l) x=bM (allT ag) l (0:Nat)->if decide ((↑x:Int)<(↑(List.length l):Int))=true then((0:Int)<=(↑x:Int)/\(↑x:Int)<(↑(List.length l):Int))/\(szT (List.getD l (Int.toNat (↑x:Int)) (dfl (Ty.st SN.term)))<=n/\cK (List.getD l (Int.toNat (↑x:Int)) (dfl (Ty.st SN.term)))=true)/\if(!allT ag (List.getD l (Int.toNat (↑x:Int)) (dfl (Ty.st SN.term))))=true then True/\(↑x:Int)=bM (allT ag) l (0:Nat)/\True else inR IntKind.i64 ((↑x:Int)+(1:Int))/\∃(y:Nat),(y<=List.length l/\bM (allT ag) (List.drop y l) y=bM (allT ag) l (0:Nat))/\List.length l-y<List.length l-x/\(↑x:Int)+(1:Int)=(↑y:Int)/\l=l/\(↑(List.length l):Int)=(↑(List.length l):Int)/\True else True/\(-1:Int)=bM (allT ag) l (0:Nat)/\True:=by
 have ln:=hl.len;simp only[Int.toNat_natCast];refine⟨⟨0,⟨Nat.zero_le _,by simp⟩,rfl,by trivial,by trivial,trivial⟩,?_⟩;rintro k ⟨h1,h2⟩;refine ab (fun h=>?_) (fun h=>?_)
 ·replace h:=Xo h;have hk:k<l.length:=by omega
  rw[aA l k (dfl (.st .term)) hk,bM]at h2;refine⟨by omega,ho _ (getD_mem l k _ hk),ab (fun c=>?_) (fun c=>?_)⟩
  ·have c:(allT ag) (l.getD k (dfl (.st .term)))=false:=by simpa using c
   rw[c,if_neg Bool.false_ne_true]at h2;rw[<-h2];exact⟨trivial,rfl,trivial⟩
  ·have c:(allT ag) (l.getD k (dfl (.st .term)))=true:=by simpa using c
   rw[if_pos c]at h2;refine⟨aL hk ln,k+1,⟨by omega,h2⟩,by omega,by omega,by trivial,by trivial,trivial⟩
 ·replace h:¬((k:Int)<(l.length:Int)):=fun e=>h (Xd e);have e:k=l.length:=by omega
  subst e;rw[List.drop_length,bM]at h2;rw[<-h2];exact⟨trivial,rfl,trivial⟩
theorem wm(n:Nat)(l:List Trm) (ho:∀x∈l,szT x<=n/\cK x=true) :
  (∀(x:Trm),x∈l->szT x<=n/\cK x=true)/\True/\decide ((0:Int)<=bM (allT ag) l (0:Nat))=!List.all l (allT ag)/\True:=by
 exact⟨ho,trivial,iV (allT ag) l 0,trivial⟩
theorem Cf(n:Nat)(l:List Trm) (ho:∀x∈l,szT x<=n/\cK x=true) :
  (∀(x:Trm),x∈l->szT x<=n/\cK x=true)/\True/\(!!List.all l (allT ag))=List.all l (allT ag)/\True:=by
 exact⟨ho,trivial,Bool.not_not _,trivial⟩
theorem Cg(n:Nat)(t:Trm)(ho:szT t<=n+1/\cK t=true) :
  List.length t.names<=(8796093022208:Nat)/\if ag t=true then(∀(x:Trm),x∈t.parts->szT x<=n/\cK x=true)/\True/\List.all t.parts (allT ag)=allT ag t/\True else True/\false=allT ag t/\True:=by
 obtain⟨h1,h2⟩:=ho;have e0:allT ag t=(ag t&&t.parts.all (allT ag)):=by rw[allT_eq,allTL_all]
 have h0:=jt t;rw[e0];refine⟨yG h2,ab (fun h=>?_) (fun h=>?_)⟩
 ·rw[h,Bool.true_and];exact⟨fun x hx=>⟨by have:=iy hx;omega,BP h2 hx⟩,trivial,rfl,trivial⟩
 ·have h:ag t=false:=by simpa using h
  rw[h];exact⟨trivial,rfl,trivial⟩
theorem Ch(x:Trm)(ho:cK x=true) :
  (szT x<=szT x/\(0:Int)<=(4096:Int)/\(4096:Int)<=(1000000:Int))/\if decide ((4096:Int)<(countT x (4096:Int)).1)=true then True/\(3:Int)=cC x/\True else if decide ((40:Int)<(countT x (4096:Int)).2)=true then True/\(91:Int)=cC x/\True else(szT x<=szT x/\cK x=true)/\if(!allT ag x)=true then True/\(80:Int)=cC x/\True else True/\(0:Int)=cC x/\True:=by
 refine⟨⟨Nat.le_refl _,by omega,by omega⟩,ab (fun h=>?_) (fun h=>?_)⟩
 ·replace h:=Xo h;unfold cC;rw[if_pos h];exact⟨trivial,rfl,trivial⟩
 have h:¬_:=fun e=>h (Xd e);have e1:cC x=if 40<(countT x 4096).2 then 91 else if allT ag x=true then 0 else 80:=by unfold cC;rw[if_neg h]
 refine ab (fun k=>?_) (fun k=>?_)
 ·rw[if_pos (Xo k)]at e1;rw[e1];exact⟨trivial,rfl,trivial⟩
 rw[if_neg (fun e=>k (Xd e))]at e1;refine⟨⟨Nat.le_refl _,ho⟩,ab (fun j=>?_) (fun j=>?_)⟩
 ·have j:allT ag x=false:=by simpa using j
  rw[j,if_neg Bool.false_ne_true]at e1;rw[e1];exact⟨trivial,rfl,trivial⟩
 ·have j:allT ag x=true:=by simpa using j
  rw[if_pos j]at e1;rw[e1];exact⟨trivial,rfl,trivial⟩
theorem EA(n:Nat)(s:Trm)(m:Int)(hs:Wf (.st .term) s)(ho:szT s<=n+1/\0<=m/\m<=1000000) :
  (∃(x:Nat×Int),(x.1<=List.length s.parts/\(1:Int)<=x.2/\x.2<=m+(1:Int)/\sizeTL (List.drop x.1 s.parts) x.2 m=dx s m)/\(1:Int)=x.2/\(0:Int)=(↑x.1:Int)/\s=s/\m=m/\(0:Int)=(0:Int)/\s=s/\True)/\∀(x:Nat×Int),x.1<=List.length s.parts/\(1:Int)<=x.2/\x.2<=m+(1:Int)/\sizeTL (List.drop x.1 s.parts) x.2 m=dx s m->if decide ((↑x.1:Int)<(↑(List.length s.parts):Int))=true then if decide (x.2<=m)=true then((0:Int)<=(↑x.1:Int)/\(↑x.1:Int)<(↑(List.length s.parts):Int))/\inR IntKind.i64 (m-x.2)/\(szT (List.getD s.parts (Int.toNat (↑x.1:Int)) (dfl (Ty.st SN.term)))<=n/\(0:Int)<=m-x.2/\m-x.2<=(1000000:Int))/\inR IntKind.i64 (x.2+dx (List.getD s.parts (Int.toNat (↑x.1:Int)) (dfl (Ty.st SN.term))) (m-x.2))/\inR IntKind.i64 ((↑x.1:Int)+(1:Int))/\∃(y:Nat×Int),(y.1<=List.length s.parts/\(1:Int)<=y.2/\y.2<=m+(1:Int)/\sizeTL (List.drop y.1 s.parts) y.2 m=dx s m)/\List.length s.parts-y.1<List.length s.parts-x.1/\x.2+dx (List.getD s.parts (Int.toNat (↑x.1:Int)) (dfl (Ty.st SN.term))) (m-x.2)=y.2/\(↑x.1:Int)+(1:Int)=(↑y.1:Int)/\s=s/\m=m/\(0:Int)=(0:Int)/\s=s/\True else True/\x.2=dx s m/\True else True/\x.2=dx s m/\True:=by
 have ln:=hs.term_parts.len;have hz:=jt s;obtain⟨ho1,ho2,ho3⟩:=ho;have h0:sizeTL s.parts 1 m=dx s m:=by cases s;rw[dx]
 simp only[Int.toNat_natCast,eq_self,true_and,and_true];refine⟨⟨(0,1),⟨Nat.zero_le _,by omega,by omega,h0⟩,rfl,rfl⟩,?_⟩;rintro⟨k,c⟩ ⟨h1,h2,h3,h4⟩;simp only at h1 h2 h3 h4⊢;refine ab (fun hk=>?_) (fun hk=>?_)
 ·replace hk:=Xo hk;have hk:k<s.parts.length:=by omega
  have hm:=iy (getD_mem s.parts k (dfl (.st .term)) hk);rw[aA s.parts k (dfl (.st .term)) hk]at h4;simp only[sizeTL]at h4;refine ab (fun hc=>?_) (fun hc=>?_)
  ·replace hc:=Xo hc;rw[if_pos hc]at h4;have hb:=sizeT_bd (s.parts.getD k (dfl (.st .term))) (m-c) (by omega);exact⟨by omega,b8 (by omega) (by omega),by omega,b8 (by omega) (by omega),aL hk ln,(k+1,_),⟨by omega,by simp only;omega,by simp only;omega,h4⟩,by simp only;omega,rfl,rfl⟩
  ·rw[if_neg (fun e=>hc (Xd e))]at h4;exact h4
 ·replace hk:¬((k:Int)<(s.parts.length:Int)):=fun e=>hk (Xd e);have e:k=s.parts.length:=by omega
  subst e;rw[List.drop_length]at h4;simp only[sizeTL]at h4;exact h4
theorem Ci(a b:Shape)(f:Bool)  :
  True/\(f ==decide (a.kind=(6:Int)))=decide (f=decide (a.kind=(6:Int)))/\True:=by
 exact⟨trivial,rfl,trivial⟩
theorem EB   :
  True/\True:=by
 exact⟨trivial,trivial⟩
theorem EC(s:Shape)(m:Str)(hs:Wf (.st .shape) s)(ho:aj s=true) :
  if decide ((0:Int)<=cu s.names m (0:Int))=true then((0:Int)<=cu s.names m (0:Int)/\cu s.names m (0:Int)<(↑(List.length s.parts):Int))/\True/\some (List.getD s.parts (Int.toNat (cu s.names m (0:Int))) (dfl (Ty.st SN.shape)))=aH s m/\True else True/\aH s m=none/\True:=by
 rcases E9 m (dfl (.st .shape)) ho with⟨h1,h2⟩|⟨h1,h2,h3⟩
 ·refine ab (fun h=>absurd (Xo h) h1) (fun _=>⟨trivial,h2,trivial⟩)
 ·exact ab (fun _=>⟨⟨h1,h2⟩,trivial,h3.symm,trivial⟩) (fun h=>absurd (Xd h1) h)
theorem Cj(m:Str)(s:Shape)(ho:aj s=true) :
  aj s=true/\True/\Option.isNone (aH s m)=Option.isNone (aH s m)/\s=s/\True:=by
 exact⟨ho,trivial,rfl,rfl,trivial⟩
theorem ED(a b:Shape)  :
  if decide (aC a=(0:Int))=true then True/\decide (aC b=(0:Int))=(decide (aC a=(0:Int))&&decide (aC b=(0:Int)))/\True else True/\false=(decide (aC a=(0:Int))&&decide (aC b=(0:Int)))/\True:=by
 cases decide (aC a=0)<;>simp
theorem Gg(l:List Str)(s:Shape)(hl:Wf (.lst .str) l)(ho:aj s=true) :
  (∃(x:Nat),(x<=List.length l/\bM (fun(m:Str) ↦Option.isSome (aH s m)) (List.drop x l) x=bM (fun(m:Str) ↦Option.isSome (aH s m)) l (0:Nat))/\(0:Int)=(↑x:Int)/\l=l/\(↑(List.length l):Int)=(↑(List.length l):Int)/\s=s/\True)/\∀(x:Nat),x<=List.length l/\bM (fun(m:Str) ↦Option.isSome (aH s m)) (List.drop x l) x=bM (fun(m:Str) ↦Option.isSome (aH s m)) l (0:Nat)->if decide ((↑x:Int)<(↑(List.length l):Int))=true then((0:Int)<=(↑x:Int)/\(↑x:Int)<(↑(List.length l):Int))/\aj s=true/\if Option.isNone (aH s (List.getD l (Int.toNat (↑x:Int)) (dfl Ty.str)))=true then True/\(↑x:Int)=bM (fun(m:Str) ↦Option.isSome (aH s m)) l (0:Nat)/\s=s/\True else inR IntKind.i64 ((↑x:Int)+(1:Int))/\∃(y:Nat),(y<=List.length l/\bM (fun(m:Str) ↦Option.isSome (aH s m)) (List.drop y l) y=bM (fun(m:Str) ↦Option.isSome (aH s m)) l (0:Nat))/\List.length l-y<List.length l-x/\(↑x:Int)+(1:Int)=(↑y:Int)/\l=l/\(↑(List.length l):Int)=(↑(List.length l):Int)/\s=s/\True else True/\(-1:Int)=bM (fun(m:Str) ↦Option.isSome (aH s m)) l (0:Nat)/\s=s/\True:=by
 have ln:=hl.len;simp only[Int.toNat_natCast,eq_self,true_and,and_true];refine⟨⟨0,⟨Nat.zero_le _,by simp⟩,rfl⟩,?_⟩;rintro k ⟨h1,h2⟩;refine ab (fun h=>?_) (fun h=>?_)
 ·replace h:=Xo h;have hk:k<l.length:=by omega
  rw[aA l k (dfl .str) hk,bM]at h2;refine⟨by omega,ho,ab (fun c=>?_) (fun c=>?_)⟩
  ·have c:(aH s (l.getD k (dfl .str))).isSome=false:=by rw[Option.isNone_iff_eq_none]at c;rw[c];rfl
   rw[c,if_neg Bool.false_ne_true]at h2;exact h2
  ·have c:(aH s (l.getD k (dfl .str))).isSome=true:=by cases hp:aH s (l.getD k (dfl .str))with|none=>rw[hp]at c;exact absurd rfl c|some x=>rfl
   rw[if_pos c]at h2;exact⟨aL hk ln,k+1,⟨by omega,h2⟩,by omega,by omega⟩
 ·replace h:¬((k:Int)<(l.length:Int)):=fun e=>h (Xd e);have e:k=l.length:=by omega
  subst e;rw[List.drop_length,bM]at h2;exact h2
theorem Gh(l:List Str)(s:Shape)(ho:aj s=true) :
  aj s=true/\True/\(decide ((0:Int)<=bM (fun(m:Str) ↦Option.isSome (aH s m)) l (0:Nat))=!List.all l fun(m:Str) ↦Option.isSome (aH s m))/\s=s/\True:=by
 exact⟨ho,trivial,iV _ l 0,rfl,trivial⟩
theorem EE(n:Nat)(a b:Shape)(ha:Wf (.st .shape) a)(hb:Wf (.st .shape) b)(hn:sz a+sz b<=n+1)(oa:allS aj a=true)(ob:allS aj b=true) :
  if decide (a.kind=(4:Int))=true then True/\true=aD (n+(1:Nat)) a b/\True else if decide (b.kind=(4:Int))=true then True/\true=aD (n+(1:Nat)) a b/\True else if(!decide (a.kind=b.kind))=true then True/\false=aD (n+(1:Nat)) a b/\True else if(!decide (a.pkg=b.pkg))=true then True/\false=aD (n+(1:Nat)) a b/\True else if(!decide (a.name=b.name))=true then True/\false=aD (n+(1:Nat)) a b/\True else(if decide (a.kind=(6:Int))=true then true=(decide (a.kind=(6:Int))||decide (a.kind=(7:Int)))/\a=a/\b=b/\false=false/\false=false/\false=false/\a=a/\b=b/\True else decide (a.kind=(7:Int))=(decide (a.kind=(6:Int))||decide (a.kind=(7:Int)))/\a=a/\b=b/\false=false/\false=false/\false=false/\a=a/\b=b/\True)/\if(decide (a.kind=(6:Int))||decide (a.kind=(7:Int)))=true then(∃(x:Nat),(x<=List.length a.names/\cz (aD n) (decide (a.kind=(7:Int))) b (List.drop x a.names) (List.drop x a.parts)=cz (aD n) (decide (a.kind=(7:Int))) b a.names a.parts)/\(0:Int)=(↑x:Int)/\true=true/\a=a/\b=b/\false=false/\false=false/\a.names=a.names/\(↑(List.length a.names):Int)=(↑(List.length a.names):Int)/\a=a/\b=b/\True)/\∀(x:Nat),x<=List.length a.names/\cz (aD n) (decide (a.kind=(7:Int))) b (List.drop x a.names) (List.drop x a.parts)=cz (aD n) (decide (a.kind=(7:Int))) b a.names a.parts->if decide ((↑x:Int)<(↑(List.length a.names):Int))=true then((0:Int)<=(↑x:Int)/\(↑x:Int)<(↑(List.length a.names):Int))/\aj b=true/\if Option.isNone (aH b (List.getD a.names (Int.toNat (↑x:Int)) (dfl Ty.str)))=true then if(!decide (true=decide (a.kind=(6:Int))))=true then True/\false=aD (n+(1:Nat)) a b/\True else if Option.isSome (aH b (List.getD a.names (Int.toNat (↑x:Int)) (dfl Ty.str)))=true then((0:Int)<=(↑x:Int)/\(↑x:Int)<(↑(List.length a.parts):Int))/\Option.isSome (aH b (List.getD a.names (Int.toNat (↑x:Int)) (dfl Ty.str)))=true/\(sz (List.getD a.parts (Int.toNat (↑x:Int)) (dfl (Ty.st SN.shape)))+sz (Option.getD (aH b (List.getD a.names (Int.toNat (↑x:Int)) (dfl Ty.str))) (dfl (Ty.st SN.shape)))<=n/\allS aj (List.getD a.parts (Int.toNat (↑x:Int)) (dfl (Ty.st SN.shape)))=true/\allS aj (Option.getD (aH b (List.getD a.names (Int.toNat (↑x:Int)) (dfl Ty.str))) (dfl (Ty.st SN.shape)))=true)/\if(!aD n (List.getD a.parts (Int.toNat (↑x:Int)) (dfl (Ty.st SN.shape))) (Option.getD (aH b (List.getD a.names (Int.toNat (↑x:Int)) (dfl Ty.str))) (dfl (Ty.st SN.shape))))=true then True/\false=aD (n+(1:Nat)) a b/\True else inR IntKind.i64 ((↑x:Int)+(1:Int))/\∃(y:Nat),(y<=List.length a.names/\cz (aD n) (decide (a.kind=(7:Int))) b (List.drop y a.names) (List.drop y a.parts)=cz (aD n) (decide (a.kind=(7:Int))) b a.names a.parts)/\List.length a.names-y<List.length a.names-x/\(↑x:Int)+(1:Int)=(↑y:Int)/\true=true/\a=a/\b=b/\false=false/\false=false/\a.names=a.names/\(↑(List.length a.names):Int)=(↑(List.length a.names):Int)/\a=a/\b=b/\True else inR IntKind.i64 ((↑x:Int)+(1:Int))/\∃(y:Nat),(y<=List.length a.names/\cz (aD n) (decide (a.kind=(7:Int))) b (List.drop y a.names) (List.drop y a.parts)=cz (aD n) (decide (a.kind=(7:Int))) b a.names a.parts)/\List.length a.names-y<List.length a.names-x/\(↑x:Int)+(1:Int)=(↑y:Int)/\true=true/\a=a/\b=b/\false=false/\false=false/\a.names=a.names/\(↑(List.length a.names):Int)=(↑(List.length a.names):Int)/\a=a/\b=b/\True else if Option.isSome (aH b (List.getD a.names (Int.toNat (↑x:Int)) (dfl Ty.str)))=true then((0:Int)<=(↑x:Int)/\(↑x:Int)<(↑(List.length a.parts):Int))
  /\Option.isSome (aH b (List.getD a.names (Int.toNat (↑x:Int)) (dfl Ty.str)))=true/\(sz (List.getD a.parts (Int.toNat (↑x:Int)) (dfl (Ty.st SN.shape)))+sz (Option.getD (aH b (List.getD a.names (Int.toNat (↑x:Int)) (dfl Ty.str))) (dfl (Ty.st SN.shape)))<=n/\allS aj (List.getD a.parts (Int.toNat (↑x:Int)) (dfl (Ty.st SN.shape)))=true/\allS aj (Option.getD (aH b (List.getD a.names (Int.toNat (↑x:Int)) (dfl Ty.str))) (dfl (Ty.st SN.shape)))=true)/\if(!aD n (List.getD a.parts (Int.toNat (↑x:Int)) (dfl (Ty.st SN.shape))) (Option.getD (aH b (List.getD a.names (Int.toNat (↑x:Int)) (dfl Ty.str))) (dfl (Ty.st SN.shape))))=true then True/\false=aD (n+(1:Nat)) a b/\True else inR IntKind.i64 ((↑x:Int)+(1:Int))/\∃(y:Nat),(y<=List.length a.names/\cz (aD n) (decide (a.kind=(7:Int))) b (List.drop y a.names) (List.drop y a.parts)=cz (aD n) (decide (a.kind=(7:Int))) b a.names a.parts)/\List.length a.names-y<List.length a.names-x/\(↑x:Int)+(1:Int)=(↑y:Int)/\true=true/\a=a/\b=b/\false=false/\false=false/\a.names=a.names/\(↑(List.length a.names):Int)=(↑(List.length a.names):Int)/\a=a/\b=b/\True else inR IntKind.i64 ((↑x:Int)+(1:Int))/\∃(y:Nat),(y<=List.length a.names/\cz (aD n) (decide (a.kind=(7:Int))) b (List.drop y a.names) (List.drop y a.parts)=cz (aD n) (decide (a.kind=(7:Int))) b a.names a.parts)/\List.length a.names-y<List.length a.names-x/\(↑x:Int)+(1:Int)=(↑y:Int)/\true=true/\a=a/\b=b/\false=false/\false=false/\a.names=a.names/\(↑(List.length a.names):Int)=(↑(List.length a.names):Int)/\a=a/\b=b/\True else if decide (false=decide (b.kind=(6:Int)))=true then True/\true=aD (n+(1:Nat)) a b/\True else aj a=true/\True/\(!!List.all b.names fun(m:Str) ↦Option.isSome (aH a m))=aD (n+(1:Nat)) a b/\True else if(!decide ((↑(List.length a.parts):Int)=(↑(List.length b.parts):Int)))=true then True/\false=aD (n+(1:Nat)) a b/\True else(∃(x:Nat),(x<=List.length a.parts/\aD (n+(1:Nat)) a b=dH (aD n) (decide (a.kind=(8:Int))) (List.drop x a.parts) (List.drop x b.parts))/\(0:Int)=(↑x:Int)/\false=false/\a=a/\b=b/\false=false/\false=false/\false=false/\(↑(List.length a.parts):Int)=(↑(List.length a.parts):Int)/\a=a/\b=b/\True)/\∀(x:Nat),x<=List.length a.parts/\aD (n+(1:Nat)) a b=dH (aD n) (decide (a.kind=(8:Int))) (List.drop x a.parts) (List.drop x b.parts)->if decide ((↑x:Int)<(↑(List.length a.parts):Int))=true then((0:Int)<=(↑x:Int)/\(↑x:Int)<(↑(List.length a.parts):Int))/\((0:Int)<=(↑x:Int)/\(↑x:Int)<(↑(List.length b.parts):Int))/\if decide (a.kind=(8:Int))=true then inR IntKind.i64 ((↑(List.length a.parts):Int)-(1:Int))/\if decide ((↑x:Int)<(↑(List.length a.parts):Int)-(1:Int))=true then(sz (List.getD b.parts (Int.toNat (↑x:Int)) (dfl (Ty.st SN.shape)))+sz (List.getD a.parts (Int.toNat (↑x:Int)) (dfl (Ty.st SN.shape)))<=n/\allS aj (List.getD b.parts (Int.toNat (↑x:Int)) (dfl (Ty.st SN.shape)))=true/\allS aj (List.getD a.parts (Int.toNat (↑x:Int)) (dfl (Ty.st SN.shape)))=true)/\if(!aD n (List.getD b.parts (Int.toNat (↑x:Int)) (dfl (Ty.st SN.shape))) (List.getD a.parts (Int.toNat (↑x:Int)) (dfl (Ty.st SN.shape))))=true then True/\false=aD (n+(1:Nat)) a b/\True else inR IntKind.i64 ((↑x:Int)+(1:Int))/\∃(y:Nat),(y<=List.length a.parts/\aD (n+(1:Nat)) a b=dH (aD n) (decide (a.kind=(8:Int))) (List.drop y a.parts) (List.drop y b.parts))/\List.length a.parts-y<List.length a.parts-x/\(↑x:Int)+(1:Int)=(↑y:Int)/\false=false/\a=a/\b=b/\false=false/\false=false/\false=false
  /\(↑(List.length a.parts):Int)=(↑(List.length a.parts):Int)/\a=a/\b=b/\True else(sz (List.getD a.parts (Int.toNat (↑x:Int)) (dfl (Ty.st SN.shape)))+sz (List.getD b.parts (Int.toNat (↑x:Int)) (dfl (Ty.st SN.shape)))<=n/\allS aj (List.getD a.parts (Int.toNat (↑x:Int)) (dfl (Ty.st SN.shape)))=true/\allS aj (List.getD b.parts (Int.toNat (↑x:Int)) (dfl (Ty.st SN.shape)))=true)/\if(!aD n (List.getD a.parts (Int.toNat (↑x:Int)) (dfl (Ty.st SN.shape))) (List.getD b.parts (Int.toNat (↑x:Int)) (dfl (Ty.st SN.shape))))=true then True/\false=aD (n+(1:Nat)) a b/\True else inR IntKind.i64 ((↑x:Int)+(1:Int))/\∃(y:Nat),(y<=List.length a.parts/\aD (n+(1:Nat)) a b=dH (aD n) (decide (a.kind=(8:Int))) (List.drop y a.parts) (List.drop y b.parts))/\List.length a.parts-y<List.length a.parts-x/\(↑x:Int)+(1:Int)=(↑y:Int)/\false=false/\a=a/\b=b/\false=false/\false=false/\false=false/\(↑(List.length a.parts):Int)=(↑(List.length a.parts):Int)/\a=a/\b=b/\True else(sz (List.getD a.parts (Int.toNat (↑x:Int)) (dfl (Ty.st SN.shape)))+sz (List.getD b.parts (Int.toNat (↑x:Int)) (dfl (Ty.st SN.shape)))<=n/\allS aj (List.getD a.parts (Int.toNat (↑x:Int)) (dfl (Ty.st SN.shape)))=true/\allS aj (List.getD b.parts (Int.toNat (↑x:Int)) (dfl (Ty.st SN.shape)))=true)/\if(!aD n (List.getD a.parts (Int.toNat (↑x:Int)) (dfl (Ty.st SN.shape))) (List.getD b.parts (Int.toNat (↑x:Int)) (dfl (Ty.st SN.shape))))=true then True/\false=aD (n+(1:Nat)) a b/\True else inR IntKind.i64 ((↑x:Int)+(1:Int))/\∃(y:Nat),(y<=List.length a.parts/\aD (n+(1:Nat)) a b=dH (aD n) (decide (a.kind=(8:Int))) (List.drop y a.parts) (List.drop y b.parts))/\List.length a.parts-y<List.length a.parts-x/\(↑x:Int)+(1:Int)=(↑y:Int)/\false=false/\a=a/\b=b/\false=false/\false=false/\false=false/\(↑(List.length a.parts):Int)=(↑(List.length a.parts):Int)/\a=a/\b=b/\True else True/\true=aD (n+(1:Nat)) a b/\True:=by
 have la:=ha.parts.len;have lb:=hb.parts.len;have za:=eC a;have zb:=eC b;have fa:=kP oa;have fb:=kP ob;simp only[Int.toNat_natCast,eq_self,true_and,and_true];refine ab (fun h4=>by rw[aD,h4];rfl) (fun h4=>?_);refine ab (fun h5=>by rw[aD,h5];simp) (fun h5=>?_);refine ab (fun hk=>?_) (fun hk=>?_)
 ·rw[aD];simp at h4 h5 hk;simp[h4,h5,hk]
 refine ab (fun hp=>?_) (fun hp=>?_)
 ·rw[aD];simp at h4 h5 hp;simp[h4,h5,hp]
 refine ab (fun hm=>?_) (fun hm=>?_)
 ·rw[aD];simp at h4 h5 hm;simp[h4,h5,hm]
 simp at h4 h5 hk hp hm
 have hU:aD (n+1) a b=(if a.kind=6 then cz (aD n) false b a.names a.parts&&b.names.all (fun m=>(aH a m).isSome)
    else if a.kind=7 then cz (aD n) true b a.names a.parts
    else decide (a.parts.length=b.parts.length)&&dH (aD n) (decide (a.kind=8)) a.parts b.parts):=by
  rw[aD];simp[h4,h5,hk,hp,hm]
 have lna:=ha.names.len;refine⟨ab (fun h=>by simp at h;simp[h]) (fun h=>by simp at h;simp[h]),ab (fun h67=>?_) (fun h67=>?_)⟩
 ·have hV:aD (n+1) a b=(cz (aD n) (decide (a.kind=7)) b a.names a.parts&&(if b.kind=6 then b.names.all (fun m=>(aH a m).isSome)else true)):=by
   rw[hU,<-hk];by_cases h6:a.kind=6
   ·simp[h6]
   ·simp at h67;simp[h67.resolve_left h6]
  refine⟨⟨0,⟨Nat.zero_le _,by simp⟩,rfl⟩,?_⟩;rintro k ⟨k1,k2⟩;refine ab (fun h=>?_) (fun h=>?_)
  ·replace h:=Xo h;have hk':k<a.names.length:=by omega
   have nl:a.names.length=a.parts.length:=(fZ fa.1).resolve_left (fun e=>by rw[e]at hk';simp at hk');have hkp:k<a.parts.length:=by omega
   rw[aA a.names k (dfl .str) hk',aA a.parts k (dfl (.st .shape)) hkp]at k2;simp only[cz]at k2;refine⟨by omega,fb.1,?_⟩
   cases hq:aH b (a.names.getD k (dfl .str))with
   |none=>
    rw[hq]at k2;simp only[Option.isNone,Option.isSome,if_true,Bool.false_eq_true,if_false];refine ab (fun c=>?_) (fun c=>?_)
    ·rw[hV,<-k2];simp at c h67;simp[h67.resolve_left c]
    ·simp at c;refine⟨aL hk' lna,k+1,⟨by omega,?_⟩,by omega,by omega⟩;rw[<-k2];simp[c]
   |some x=>
    rw[hq]at k2;simp only[Option.isNone,Option.isSome,if_true,Bool.false_eq_true,if_false,Option.getD,true_and];have m1:=getD_mem a.parts k (dfl (.st .shape)) hkp;have m2:=(iX hq).2;have s1:=db m1;have s2:=db m2;refine⟨by omega,⟨by omega,cN fa.2 m1,cN fb.2 m2⟩,ab (fun c=>?_) (fun c=>?_)⟩
    ·simp only[Bool.not_eq_true']at c;rw[hV,<-k2];simp only[c,Bool.false_and]
    ·simp only[Bool.not_eq_true',Bool.not_eq_false]at c;refine⟨aL hk' lna,k+1,⟨by omega,?_⟩,by omega,by omega⟩;rw[<-k2];simp only[c,Bool.true_and]
  ·replace h:¬((k:Int)<(a.names.length:Int)):=fun e=>h (Xd e);have e:k=a.names.length:=by omega
   subst e;rw[List.drop_length]at k2;simp only[cz]at k2;rw[hV,<-k2];refine ab (fun c=>?_) (fun c=>?_)
   ·simp at c;simp[c]
   ·simp at c;exact⟨fa.1,by simp[c]⟩
 ·simp at h67;have hW:aD (n+1) a b=(decide (a.parts.length=b.parts.length)&&dH (aD n) (decide (a.kind=8)) a.parts b.parts):=by rw[hU,if_neg h67.1,if_neg h67.2]
  refine ab (fun c=>?_) (fun c=>?_)
  ·rw[hW];simp at c;have c':¬a.parts.length=b.parts.length:=by omega
   simp[c']
  simp at c;have c':a.parts.length=b.parts.length:=by omega
  rw[Xd c',Bool.true_and]at hW;refine⟨⟨0,⟨Nat.zero_le _,by simpa using hW⟩,rfl⟩,?_⟩;rintro k ⟨k1,k2⟩;refine ab (fun h=>?_) (fun h=>?_)
  ·replace h:=Xo h;have ka:k<a.parts.length:=by omega
   have kb:k<b.parts.length:=by omega
   rw[aA a.parts k (dfl (.st .shape)) ka,aA b.parts k (dfl (.st .shape)) kb]at k2;simp only[dH]at k2;have m1:=getD_mem a.parts k (dfl (.st .shape)) ka;have m2:=getD_mem b.parts k (dfl (.st .shape)) kb;have s1:=db m1;have s2:=db m2;have f1:=cN fa.2 m1;have f2:=cN fb.2 m2;refine⟨by omega,by omega,ab (fun h8=>?_) (fun h8=>?_)⟩
   ·simp at h8;refine⟨b8 (by omega) (by omega),ab (fun l=>?_) (fun l=>?_)⟩
    ·replace l:=Xo l;have le:(decide (a.kind=8)&&!(a.parts.drop (k+1)).isEmpty)=true:=by simp[h8];omega
     rw[if_pos le]at k2;refine⟨⟨by omega,f2,f1⟩,ab (fun c=>?_) (fun c=>?_)⟩
     ·simp only[Bool.not_eq_true']at c;rw[k2,c];rfl
     ·simp only[Bool.not_eq_true',Bool.not_eq_false]at c;exact⟨aL ka la,k+1,⟨by omega,by rw[k2,c];rfl⟩,by omega,by omega⟩
    ·replace l:¬((k:Int)<(a.parts.length:Int)-1):=fun e=>l (Xd e);have le:¬(decide (a.kind=8)&&!(a.parts.drop (k+1)).isEmpty)=true:=by simp;omega
     rw[if_neg le]at k2;refine⟨⟨by omega,f1,f2⟩,ab (fun c=>?_) (fun c=>?_)⟩
     ·simp only[Bool.not_eq_true']at c;rw[k2,c];rfl
     ·simp only[Bool.not_eq_true',Bool.not_eq_false]at c;exact⟨aL ka la,k+1,⟨by omega,by rw[k2,c];rfl⟩,by omega,by omega⟩
   ·simp at h8;have le:¬(decide (a.kind=8)&&!(a.parts.drop (k+1)).isEmpty)=true:=by simp[h8]
    rw[if_neg le]at k2;refine⟨⟨by omega,f1,f2⟩,ab (fun c=>?_) (fun c=>?_)⟩
    ·simp only[Bool.not_eq_true']at c;rw[k2,c];rfl
    ·simp only[Bool.not_eq_true',Bool.not_eq_false]at c;exact⟨aL ka la,k+1,⟨by omega,by rw[k2,c];rfl⟩,by omega,by omega⟩
  ·replace h:¬((k:Int)<(a.parts.length:Int)):=fun e=>h (Xd e);have e:k=a.parts.length:=by omega
   subst e;rw[List.drop_length]at k2;rw[k2];simp[dH]
theorem Gi(a b:Shape)(ha:Wf (.st .shape) a)(hb:Wf (.st .shape) b) :
  if(decide (aC a=(0:Int))&&decide (aC b=(0:Int)))=true then(sz a+sz b<=(800:Nat)/\allS aj a=true/\allS aj b=true)/\True/\aD (800:Nat) a b=fc a b/\True else True/\false=fc a b/\True:=by
 refine ab (fun h=>?_) (fun h=>?_)
 ·simp only[Bool.and_eq_true,decide_eq_true_eq]at h;have c1:=bX h.1;have c2:=bX h.2;refine⟨⟨by omega,c1.2.2,c2.2.2⟩,trivial,?_,trivial⟩;rw[fc,h.1,h.2];rfl
 ·refine⟨trivial,?_,trivial⟩;rw[fc,Bool.eq_false_iff.2 h];rfl
theorem Gj(k:Nam)(v:Shape)  :
  True/\eF [] k v=eF [] k v/\True:=by
 exact⟨trivial,rfl,trivial⟩
theorem Gk(m:List (Nam×Shape))(k:Nam)(v:Shape)  :
  True/\eF m k v=eF m k v/\True:=by
 exact⟨trivial,rfl,trivial⟩
theorem Gl(k:Nam)  :
  True/\{kind:=(0:Int),pkg:=[],name:=[],names:=[],parts:=[]:Shape}=al/\false=Option.isSome (bu [] k.pkg k.name)/\True:=by
 exact⟨trivial,rfl,rfl,trivial⟩
theorem Gm(m:List (Nam×Shape))(k:Nam)  :
  True/\Option.getD (dE m k) {kind:=(0:Int),pkg:=[],name:=[],names:=[],parts:=[]:Shape}=Option.getD (bu m k.pkg k.name) al/\Option.isSome (dE m k)=Option.isSome (bu m k.pkg k.name)/\m=m/\True:=by
 exact⟨trivial,rfl,rfl,rfl,trivial⟩
theorem EF(n:Nat)(s:Shape)(hs:Wf (.st .shape) s)(hn:sz s<=n+1)(h4:n+1<=400)(os:allS aj s=true) :
  if decide (s.kind=(9:Int))=true then True/\al=Option.getD (fillS (bu []) s) al/\Option.isSome (bu [] s.pkg s.name)=Option.isSome (fillS (bu []) s)/\True else((0:Int)<=(↑(List.length s.parts):Int)/\(↑(List.length s.parts):Int) *(↑(88:Nat):Int)<=(140737488355328:Int))/\(∃(x:Nat×List Shape),(x.1<=List.length s.parts/\List.length x.2=x.1/\fillL (bu []) s.parts=Option.map (fun(x_1:List Shape) ↦x.2++x_1) (fillL (bu []) (List.drop x.1 s.parts)))/\(0:Int)=(↑x.1:Int)/\[]=x.2/\s=s/\false=false/\s.parts=s.parts/\(↑(List.length s.parts):Int)=(↑(List.length s.parts):Int)/\(0:Nat)=List.length x.2/\s=s/\(0:Int)=(0:Int)/\an UInt8=an UInt8/\an UInt8=an UInt8/\True)/\∀(x:Nat×List Shape),x.1<=List.length s.parts/\List.length x.2=x.1/\fillL (bu []) s.parts=Option.map (fun(x_1:List Shape) ↦x.2++x_1) (fillL (bu []) (List.drop x.1 s.parts))->if decide ((↑x.1:Int)<(↑(List.length s.parts):Int))=true then((0:Int)<=(↑x.1:Int)/\(↑x.1:Int)<(↑(List.length s.parts):Int))/\(sz (List.getD s.parts (Int.toNat (↑x.1:Int)) (dfl (Ty.st SN.shape)))<=n/\n<=(400:Nat)/\allS aj (List.getD s.parts (Int.toNat (↑x.1:Int)) (dfl (Ty.st SN.shape)))=true)/\if(!Option.isSome (fillS (bu []) (List.getD s.parts (Int.toNat (↑x.1:Int)) (dfl (Ty.st SN.shape)))))=true then True/\(0:Int)=(Option.getD (fillS (bu []) s) al).kind/\[]=(Option.getD (fillS (bu []) s) al).pkg/\[]=(Option.getD (fillS (bu []) s) al).name/\(Option.getD (fillS (bu []) s) al).names=[]/\(Option.getD (fillS (bu []) s) al).parts=[]/\false=Option.isSome (fillS (bu []) s)/\True else(List.length x.2=List.length x.2/\(List.length x.2+List.length [Option.getD (fillS (bu []) (List.getD s.parts (Int.toNat (↑x.1:Int)) (dfl (Ty.st SN.shape)))) al]) *(88:Nat)<=(140737488355328:Nat))/\inR IntKind.i64 ((↑x.1:Int)+(1:Int))/\∃(y:Nat×List Shape),(y.1<=List.length s.parts/\List.length y.2=y.1/\fillL (bu []) s.parts=Option.map (fun(x:List Shape) ↦y.2++x) (fillL (bu []) (List.drop y.1 s.parts)))/\List.length s.parts-y.1<List.length s.parts-x.1/\(↑x.1:Int)+(1:Int)=(↑y.1:Int)/\x.2++[Option.getD (fillS (bu []) (List.getD s.parts (Int.toNat (↑x.1:Int)) (dfl (Ty.st SN.shape)))) al]=y.2/\s=s/\false=false/\s.parts=s.parts/\(↑(List.length s.parts):Int)=(↑(List.length s.parts):Int)/\List.length (x.2++[Option.getD (fillS (bu []) (List.getD s.parts (Int.toNat (↑x.1:Int)) (dfl (Ty.st SN.shape)))) al])=List.length y.2/\s=s/\(0:Int)=(0:Int)/\an UInt8=an UInt8/\an UInt8=an UInt8/\True else List.length s.names *(16:Nat)<=(140737488355328:Nat)/\True/\s.kind=(Option.getD (fillS (bu []) s) al).kind/\s.pkg=(Option.getD (fillS (bu []) s) al).pkg/\s.name=(Option.getD (fillS (bu []) s) al).name/\s.names=(Option.getD (fillS (bu []) s) al).names/\x.2=(Option.getD (fillS (bu []) s) al).parts/\true=Option.isSome (fillS (bu []) s)/\True:=by
 have fs:=kP os;have zs:=eC s;have ln:=hs.parts.len;have lz:=ix s.parts;simp only[Int.toNat_natCast,eq_self,true_and,and_true];refine ab (fun h9=>?_) (fun h9=>?_)
 ·simp only[decide_eq_true_eq]at h9;rw[iY,if_pos h9];exact⟨rfl,rfl⟩
 simp only[decide_eq_true_eq]at h9;have hf:fillS (bu []) s=(fillL (bu []) s.parts).map fun q=>⟨s.kind,s.pkg,s.name,s.names,q⟩:=by rw[iY,if_neg h9]
 refine⟨⟨by omega,by omega⟩,⟨(0,[]),⟨Nat.zero_le _,rfl,by simp⟩,rfl,rfl,rfl⟩,?_⟩;rintro⟨k,q⟩ ⟨h1,h2,h3⟩;dsimp only at h1 h2 h3⊢;refine ab (fun h=>?_) (fun h=>?_)
 ·replace h:=Xo h;have hk:k<s.parts.length:=by omega
  rw[aA s.parts k (dfl (.st .shape)) hk]at h3;simp only[fillL]at h3;have m1:=getD_mem s.parts k (dfl (.st .shape)) hk;have s1:=db m1;refine⟨by omega,⟨by omega,by omega,cN fs.2 m1⟩,?_⟩
  cases hx:fillS (bu []) (s.parts.getD k (dfl (.st .shape)))with
  |none=>rw[hx]at h3;refine ab (fun c=>?_) (fun c=>absurd rfl c);rw[hf,h3];exact⟨rfl,rfl,rfl,rfl,rfl,rfl⟩
  |some x=>
   rw[hx]at h3;refine ab (fun c=>absurd c Bool.false_ne_true) (fun c=>?_);refine⟨by simp only[Option.getD,List.length_cons,List.length_nil];omega,aL hk ln,(k+1,q++[x]),⟨by omega,by simp[h2],?_⟩,by dsimp only;omega,by dsimp only;omega,rfl,rfl⟩;rw[h3]
   cases fillL (bu []) (s.parts.drop (k+1))with
   |none=>rfl
   |some l=>simp
 ·replace h:¬((k:Int)<(s.parts.length:Int)):=fun e=>h (Xd e);have e:k=s.parts.length:=by omega
  subst e;rw[List.drop_length]at h3;simp only[fillL,Option.map,List.append_nil]at h3;rw[hf,h3];refine⟨?_,rfl,rfl,rfl,rfl,rfl,rfl⟩;rcases fZ fs.1 with g|g
  ·rw[g];simp
  ·omega
theorem EG(n:Nat)(m:List (Nam×Shape))(s:Shape)(hs:Wf (.st .shape) s)(hn:sz s<=n+1)(h4:n+1<=400)(os:allS aj s=true) :
  if decide (s.kind=(9:Int))=true then True/\Option.getD (bu m s.pkg s.name) al=Option.getD (fillS (bu m) s) al/\Option.isSome (bu m s.pkg s.name)=Option.isSome (fillS (bu m) s)/\m=m/\True else((0:Int)<=(↑(List.length s.parts):Int)/\(↑(List.length s.parts):Int) *(↑(88:Nat):Int)<=(140737488355328:Int))/\(∃(x:Nat×List Shape),(x.1<=List.length s.parts/\List.length x.2=x.1/\fillL (bu m) s.parts=Option.map (fun(x_1:List Shape) ↦x.2++x_1) (fillL (bu m) (List.drop x.1 s.parts)))/\(0:Int)=(↑x.1:Int)/\[]=x.2/\s=s/\false=false/\s.parts=s.parts/\(↑(List.length s.parts):Int)=(↑(List.length s.parts):Int)/\(0:Nat)=List.length x.2/\m=m/\s=s/\(0:Int)=(0:Int)/\an UInt8=an UInt8/\an UInt8=an UInt8/\True)/\∀(x:Nat×List Shape),x.1<=List.length s.parts/\List.length x.2=x.1/\fillL (bu m) s.parts=Option.map (fun(x_1:List Shape) ↦x.2++x_1) (fillL (bu m) (List.drop x.1 s.parts))->if decide ((↑x.1:Int)<(↑(List.length s.parts):Int))=true then((0:Int)<=(↑x.1:Int)/\(↑x.1:Int)<(↑(List.length s.parts):Int))/\(sz (List.getD s.parts (Int.toNat (↑x.1:Int)) (dfl (Ty.st SN.shape)))<=n/\n<=(400:Nat)/\allS aj (List.getD s.parts (Int.toNat (↑x.1:Int)) (dfl (Ty.st SN.shape)))=true)/\if(!Option.isSome (fillS (bu m) (List.getD s.parts (Int.toNat (↑x.1:Int)) (dfl (Ty.st SN.shape)))))=true then True/\(0:Int)=(Option.getD (fillS (bu m) s) al).kind/\[]=(Option.getD (fillS (bu m) s) al).pkg/\[]=(Option.getD (fillS (bu m) s) al).name/\(Option.getD (fillS (bu m) s) al).names=[]/\(Option.getD (fillS (bu m) s) al).parts=[]/\false=Option.isSome (fillS (bu m) s)/\m=m/\True else(List.length x.2=List.length x.2/\(List.length x.2+List.length [Option.getD (fillS (bu m) (List.getD s.parts (Int.toNat (↑x.1:Int)) (dfl (Ty.st SN.shape)))) al]) *(88:Nat)<=(140737488355328:Nat))/\inR IntKind.i64 ((↑x.1:Int)+(1:Int))/\∃(y:Nat×List Shape),(y.1<=List.length s.parts/\List.length y.2=y.1/\fillL (bu m) s.parts=Option.map (fun(x:List Shape) ↦y.2++x) (fillL (bu m) (List.drop y.1 s.parts)))/\List.length s.parts-y.1<List.length s.parts-x.1/\(↑x.1:Int)+(1:Int)=(↑y.1:Int)/\x.2++[Option.getD (fillS (bu m) (List.getD s.parts (Int.toNat (↑x.1:Int)) (dfl (Ty.st SN.shape)))) al]=y.2/\s=s/\false=false/\s.parts=s.parts/\(↑(List.length s.parts):Int)=(↑(List.length s.parts):Int)/\List.length (x.2++[Option.getD (fillS (bu m) (List.getD s.parts (Int.toNat (↑x.1:Int)) (dfl (Ty.st SN.shape)))) al])=List.length y.2/\m=m/\s=s/\(0:Int)=(0:Int)/\an UInt8=an UInt8/\an UInt8=an UInt8/\True else List.length s.names *(16:Nat)<=(140737488355328:Nat)/\True/\s.kind=(Option.getD (fillS (bu m) s) al).kind/\s.pkg=(Option.getD (fillS (bu m) s) al).pkg/\s.name=(Option.getD (fillS (bu m) s) al).name/\s.names=(Option.getD (fillS (bu m) s) al).names/\x.2=(Option.getD (fillS (bu m) s) al).parts/\true=Option.isSome (fillS (bu m) s)/\m=m/\True:=by
 have fs:=kP os;have zs:=eC s;have ln:=hs.parts.len;have lz:=ix s.parts;simp only[Int.toNat_natCast,eq_self,true_and,and_true];refine ab (fun h9=>?_) (fun h9=>?_)
 ·simp only[decide_eq_true_eq]at h9;rw[iY,if_pos h9];exact⟨rfl,rfl⟩
 simp only[decide_eq_true_eq]at h9;have hf:fillS (bu m) s=(fillL (bu m) s.parts).map fun q=>⟨s.kind,s.pkg,s.name,s.names,q⟩:=by rw[iY,if_neg h9]
 refine⟨⟨by omega,by omega⟩,⟨(0,[]),⟨Nat.zero_le _,rfl,by simp⟩,rfl,rfl,rfl⟩,?_⟩;rintro⟨k,q⟩ ⟨h1,h2,h3⟩;dsimp only at h1 h2 h3⊢;refine ab (fun h=>?_) (fun h=>?_)
 ·replace h:=Xo h;have hk:k<s.parts.length:=by omega
  rw[aA s.parts k (dfl (.st .shape)) hk]at h3;simp only[fillL]at h3;have m1:=getD_mem s.parts k (dfl (.st .shape)) hk;have s1:=db m1;refine⟨by omega,⟨by omega,by omega,cN fs.2 m1⟩,?_⟩
  cases hx:fillS (bu m) (s.parts.getD k (dfl (.st .shape)))with
  |none=>rw[hx]at h3;refine ab (fun c=>?_) (fun c=>absurd rfl c);rw[hf,h3];exact⟨rfl,rfl,rfl,rfl,rfl,rfl⟩
  |some x=>
   rw[hx]at h3;refine ab (fun c=>absurd c Bool.false_ne_true) (fun c=>?_);refine⟨by simp only[Option.getD,List.length_cons,List.length_nil];omega,aL hk ln,(k+1,q++[x]),⟨by omega,by simp[h2],?_⟩,by dsimp only;omega,by dsimp only;omega,rfl,rfl⟩;rw[h3]
   cases fillL (bu m) (s.parts.drop (k+1))with
   |none=>rfl
   |some l=>simp
 ·replace h:¬((k:Int)<(s.parts.length:Int)):=fun e=>h (Xd e);have e:k=s.parts.length:=by omega
  subst e;rw[List.drop_length]at h3;simp only[fillL,Option.map,List.append_nil]at h3;rw[hf,h3];refine⟨?_,rfl,rfl,rfl,rfl,rfl,rfl⟩;rcases fZ fs.1 with g|g
  ·rw[g];simp
  ·omega
theorem Ck   :
  (∃(x:Nat),True/\(0:Int)=(0:Int)/\an (den (Ty.st SN.bind))=an (den (Ty.st SN.bind))/\an (den (Ty.st SN.bind))=an (den (Ty.st SN.bind))/\(↑(List.length ([]:List Bndg)):Int)=(↑(List.length ([]:List Bndg)):Int)/\True)/\∀(x:Nat),True->True/\True:=by
 exact⟨⟨0,trivial,rfl,rfl,rfl,rfl,trivial⟩,fun _ _=>⟨trivial,trivial⟩⟩
theorem Cl(b:Bndg)(r:List Bndg)(hl:Wf (.lst (.st .bind)) (b::r)) :
  if decide ((0:Int)<(↑(List.length (b::r)):Int))=true then((0:Int)<=(0:Int)/\(0:Int)<(↑(List.length (b::r)):Int))/\inR IntKind.i64 ((0:Int)+(1:Int))/\(∃(x:Nat×List (Nam×Shape)),(x.1<=List.length (b::r)/\od (List.drop x.1 (b::r)) x.2=iz (b::r))/\(0:Int)+(1:Int)=(↑x.1:Int)/\b::r=b::r/\b::r=b::r/\(↑(List.length (b::r)):Int)=(↑(List.length (b::r)):Int)/\eF [] {pkg:=(List.getD (b::r) (Int.toNat (0:Int)) (dfl (Ty.st SN.bind))).pkg,name:=(List.getD (b::r) (Int.toNat (0:Int)) (dfl (Ty.st SN.bind))).name:Nam} (List.getD (b::r) (Int.toNat (0:Int)) (dfl (Ty.st SN.bind))).shape=x.2/\True)/\∀(x:Nat×List (Nam×Shape)),x.1<=List.length (b::r)/\od (List.drop x.1 (b::r)) x.2=iz (b::r)->if decide ((↑x.1:Int)<(↑(List.length (b::r)):Int))=true then((0:Int)<=(↑x.1:Int)/\(↑x.1:Int)<(↑(List.length (b::r)):Int))/\inR IntKind.i64 ((↑x.1:Int)+(1:Int))/\∃(y:Nat×List (Nam×Shape)),(y.1<=List.length (b::r)/\od (List.drop y.1 (b::r)) y.2=iz (b::r))/\List.length (b::r)-y.1<List.length (b::r)-x.1/\(↑x.1:Int)+(1:Int)=(↑y.1:Int)/\b::r=b::r/\b::r=b::r/\(↑(List.length (b::r)):Int)=(↑(List.length (b::r)):Int)/\eF x.2 {pkg:=(List.getD (b::r) (Int.toNat (↑x.1:Int)) (dfl (Ty.st SN.bind))).pkg,name:=(List.getD (b::r) (Int.toNat (↑x.1:Int)) (dfl (Ty.st SN.bind))).name:Nam} (List.getD (b::r) (Int.toNat (↑x.1:Int)) (dfl (Ty.st SN.bind))).shape=y.2/\True else True/\x.2=iz (b::r)/\True else True/\False:=by
 have ln:=hl.len;refine ab (fun _=>?_) (fun h=>absurd (Xd (by simp only[List.length_cons];omega)) h);simp only[Int.toNat_natCast,eq_self,true_and,and_true];refine⟨by simp only[List.length_cons];omega,b8 (by omega) (by omega),⟨(1,eF [] ⟨b.pkg,b.name⟩ b.shape),⟨by simp,rfl⟩,rfl,rfl⟩,?_⟩;rintro⟨k,m⟩ ⟨h1,h2⟩;dsimp only at h1 h2⊢;refine ab (fun h=>?_) (fun h=>?_)
 ·replace h:=Xo h;have hk:k<(b::r).length:=by omega
  rw[aA (b::r) k (dfl (.st .bind)) hk]at h2;exact⟨by omega,aL hk ln,(k+1,_),⟨by omega,h2⟩,by dsimp only;omega,by dsimp only;omega,rfl⟩
 ·replace h:¬((k:Int)<((b::r).length:Int)):=fun e=>h (Xd e);have e:k=(b::r).length:=by omega
  subst e;rw[List.drop_length]at h2;exact h2
theorem wo(s:Shape)(hs:Wf (.st .shape) s) :
  if(!decide (aC s=(0:Int)))=true then True/\(0:Int)=(aq s []).1.kind/\[]=(aq s []).1.pkg/\[]=(aq s []).1.name/\(aq s []).1.names=[]/\(aq s []).1.parts=[]/\aC s=(aq s []).2/\True else(sz s<=(400:Nat)/\(400:Nat)<=(400:Nat)/\allS aj s=true)/\if(!Option.isSome (fillS (bu []) s))=true then True/\(0:Int)=(aq s []).1.kind/\[]=(aq s []).1.pkg/\[]=(aq s []).1.name/\(aq s []).1.names=[]/\(aq s []).1.parts=[]/\(110:Int)=(aq s []).2/\True else if(!decide (aC (Option.getD (fillS (bu []) s) al)=(0:Int)))=true then True/\(0:Int)=(aq s []).1.kind/\[]=(aq s []).1.pkg/\[]=(aq s []).1.name/\(aq s []).1.names=[]/\(aq s []).1.parts=[]/\aC (Option.getD (fillS (bu []) s) al)=(aq s []).2/\True else True/\aM (Option.getD (fillS (bu []) s) al)=(aq s []).1/\(0:Int)=(aq s []).2/\True:=by
 have hr:aq s []=if aC s=0 then(match fillS (bu []) s with|none=>(al,110)|some q=>if aC q=0 then(aM q,0)else(al,aC q))else(al,aC s):=by unfold aq;rw[<-vU];try rfl
 refine ab (fun h=>?_) (fun h=>?_)
 ·have h:¬aC s=0:=by simpa using h
  rw[hr,if_neg h];exact⟨trivial,rfl,rfl,rfl,rfl,rfl,rfl,trivial⟩
 ·have h:aC s=0:=by simpa using h
  rw[hr,if_pos h];have c:=bX h;refine⟨⟨c.1,Nat.le_refl _,c.2.2⟩,?_⟩
  cases hq:fillS (bu []) s with
  |none=>exact ab (fun _=>⟨trivial,rfl,rfl,rfl,rfl,rfl,rfl,trivial⟩) (fun g=>absurd rfl g)
  |some q=>
   refine ab (fun g=>absurd g Bool.false_ne_true) (fun _=>ab (fun g=>?_) (fun g=>?_))
   ·have g:¬aC q=0:=by simpa using g
    dsimp only;rw[if_neg g];exact⟨trivial,rfl,rfl,rfl,rfl,rfl,rfl,trivial⟩
   ·have g:aC q=0:=by simpa using g
    dsimp only;rw[if_pos g];exact⟨trivial,rfl,rfl,trivial⟩
theorem ze(s:Shape)(b:Bndg)(r:List Bndg)(hs:Wf (.st .shape) s)(hl:Wf (.lst (.st .bind)) (b::r)) :
  if(!decide (aC s=(0:Int)))=true then True/\(0:Int)=(aq s (b::r)).1.kind/\[]=(aq s (b::r)).1.pkg/\[]=(aq s (b::r)).1.name/\(aq s (b::r)).1.names=[]/\(aq s (b::r)).1.parts=[]/\aC s=(aq s (b::r)).2/\True else(sz s<=(400:Nat)/\(400:Nat)<=(400:Nat)/\allS aj s=true)/\if(!Option.isSome (fillS (bu (iz (b::r))) s))=true then True/\(0:Int)=(aq s (b::r)).1.kind/\[]=(aq s (b::r)).1.pkg/\[]=(aq s (b::r)).1.name/\(aq s (b::r)).1.names=[]/\(aq s (b::r)).1.parts=[]/\(110:Int)=(aq s (b::r)).2/\True else if(!decide (aC (Option.getD (fillS (bu (iz (b::r))) s) al)=(0:Int)))=true then True/\(0:Int)=(aq s (b::r)).1.kind/\[]=(aq s (b::r)).1.pkg/\[]=(aq s (b::r)).1.name/\(aq s (b::r)).1.names=[]/\(aq s (b::r)).1.parts=[]/\aC (Option.getD (fillS (bu (iz (b::r))) s) al)=(aq s (b::r)).2/\True else True/\aM (Option.getD (fillS (bu (iz (b::r))) s) al)=(aq s (b::r)).1/\(0:Int)=(aq s (b::r)).2/\True:=by
 have hr:aq s (b::r)=if aC s=0 then(match fillS (bu (iz (b::r))) s with|none=>(al,110)|some q=>if aC q=0 then(aM q,0)else(al,aC q))else(al,aC s):=by unfold aq;rw[<-vU];try rfl
 refine ab (fun h=>?_) (fun h=>?_)
 ·have h:¬aC s=0:=by simpa using h
  rw[hr,if_neg h];exact⟨trivial,rfl,rfl,rfl,rfl,rfl,rfl,trivial⟩
 ·have h:aC s=0:=by simpa using h
  rw[hr,if_pos h];have c:=bX h;refine⟨⟨c.1,Nat.le_refl _,c.2.2⟩,?_⟩
  cases hq:fillS (bu (iz (b::r))) s with
  |none=>exact ab (fun _=>⟨trivial,rfl,rfl,rfl,rfl,rfl,rfl,trivial⟩) (fun g=>absurd rfl g)
  |some q=>
   refine ab (fun g=>absurd g Bool.false_ne_true) (fun _=>ab (fun g=>?_) (fun g=>?_))
   ·have g:¬aC q=0:=by simpa using g
    dsimp only;rw[if_neg g];exact⟨trivial,rfl,rfl,rfl,rfl,rfl,rfl,trivial⟩
   ·have g:aC q=0:=by simpa using g
    dsimp only;rw[if_pos g];exact⟨trivial,rfl,rfl,trivial⟩
theorem Hg(k:Int)  :
  True/\k=(ofK k).kind/\[]=(ofK k).pkg/\[]=(ofK k).name/\(ofK k).names=[]/\(ofK k).parts=[]/\True:=by
 exact⟨trivial,rfl,rfl,rfl,rfl,rfl,trivial⟩
theorem Cm(e a:Int)  :
  True/\e=e/\a=a/\True:=by
 exact⟨trivial,rfl,rfl,trivial⟩
theorem EH(l:List Bndg)(o m:Str)(hl:Wf (.lst (.st .bind)) l) :
  inR IntKind.i64 ((↑(List.length l):Int)-(1:Int))/\(∃(x:Nat),(x<=List.length l/\az l o m=az (List.take x l) o m)/\(↑(List.length l):Int)-(1:Int)=(↑x:Int)-(1:Int)/\l=l/\o=o/\m=m/\(0:Int)=(0:Int)/\an UInt8=an UInt8/\an UInt8=an UInt8/\True)/\∀(x:Nat),x<=List.length l/\az l o m=az (List.take x l) o m->if decide ((0:Int)<=(↑x:Int)-(1:Int))=true then((0:Int)<=(↑x:Int)-(1:Int)/\(↑x:Int)-(1:Int)<(↑(List.length l):Int))/\if decide ((List.getD l (Int.toNat ((↑x:Int)-(1:Int))) (dfl (Ty.st SN.bind))).pkg=o)=true then((0:Int)<=(↑x:Int)-(1:Int)/\(↑x:Int)-(1:Int)<(↑(List.length l):Int))/\if decide ((List.getD l (Int.toNat ((↑x:Int)-(1:Int))) (dfl (Ty.st SN.bind))).name=m)=true then((0:Int)<=(↑x:Int)-(1:Int)/\(↑x:Int)-(1:Int)<(↑(List.length l):Int))/\True/\aM (List.getD l (Int.toNat ((↑x:Int)-(1:Int))) (dfl (Ty.st SN.bind))).shape=Option.elim (az l o m) al aM/\true=Option.isSome (az l o m)/\True else inR IntKind.i64 ((↑x:Int)-(1:Int)-(1:Int))/\∃(y:Nat),(y<=List.length l/\az l o m=az (List.take y l) o m)/\y<x/\(↑x:Int)-(1:Int)-(1:Int)=(↑y:Int)-(1:Int)/\l=l/\o=o/\m=m/\(0:Int)=(0:Int)/\an UInt8=an UInt8/\an UInt8=an UInt8/\True else inR IntKind.i64 ((↑x:Int)-(1:Int)-(1:Int))/\∃(y:Nat),(y<=List.length l/\az l o m=az (List.take y l) o m)/\y<x/\(↑x:Int)-(1:Int)-(1:Int)=(↑y:Int)-(1:Int)/\l=l/\o=o/\m=m/\(0:Int)=(0:Int)/\an UInt8=an UInt8/\an UInt8=an UInt8/\True else True/\(0:Int)=(Option.elim (az l o m) al aM).kind/\[]=(Option.elim (az l o m) al aM).pkg/\[]=(Option.elim (az l o m) al aM).name/\(Option.elim (az l o m) al aM).names=[]/\(Option.elim (az l o m) al aM).parts=[]/\false=Option.isSome (az l o m)/\True:=by
 have ln:=hl.len;refine⟨b8 (by omega) (by omega),⟨l.length,⟨Nat.le_refl _,by rw[List.take_length]⟩,rfl,rfl,rfl,rfl,rfl,rfl,rfl,trivial⟩,?_⟩;rintro x ⟨h1,h2⟩;refine ab (fun h=>?_) (fun h=>?_)
 ·have h:=Xo h;obtain⟨k,rfl⟩:∃k,x=k+1:=⟨x-1,by omega⟩;have e1:(((k+1:Nat):Int)-1)=(k:Int):=by omega
  rw[og l o m (dfl (.st .bind)) (by omega)]at h2;simp only[e1,Int.toNat_natCast,eq_self,true_and,and_true]
  have next:az l o m=az (l.take k) o m->inR IntKind.i64 ((k:Int)-1)/\∃(y:Nat),(y<=List.length l/\az l o m=az (List.take y l) o m)/\y<k+1/\(k:Int)-1=(y:Int)-1:=
   fun g=>⟨b8 (by omega) (by omega),k,⟨by omega,g⟩,by omega,rfl⟩
  refine⟨by omega,ab (fun c1=>?_) (fun c1=>?_)⟩
  ·have c1:=Xo c1;refine⟨by omega,ab (fun c2=>?_) (fun c2=>?_)⟩
   ·have c2:=Xo c2;rw[if_pos ⟨c1,c2⟩]at h2;rw[h2];exact⟨by omega,rfl,rfl⟩
   ·rw[if_neg (fun g=>c2 (Xd g.2))]at h2;exact next h2
  ·rw[if_neg (fun g=>c1 (Xd g.1))]at h2;exact next h2
 ·have h:¬(0:Int)<=(x:Int)-1:=fun e=>h (Xd e);obtain rfl:x=0:=by omega
  rw[h2];exact⟨trivial,rfl,rfl,rfl,rfl,rfl,rfl,trivial⟩
theorem Cn(n:Nat)(t:Trm)(e:Envt)(ht:Wf (.st .term) t)(he:Wf (.st .env) e)(hz:szT t<=n+1)(hf:allT ag t=true)(hv:e.values.length+4096 *szT t<=100000000) :
  (szT t<=n+(1:Nat)/\allT ag t=true/\List.length e.values+(4096:Nat) *szT t<=(100000000:Nat))/\if decide ((ax (aa n) t e).2.err=(0:Int))=true then if(!decide (aC (ax (aa n) t e).1=(0:Int)))=true then if(!decide (aC (ax (aa n) t e).1=(0:Int)))=true then True/\(0:Int)=(aa (n+(1:Nat)) t e).1.kind/\[]=(aa (n+(1:Nat)) t e).1.pkg/\[]=(aa (n+(1:Nat)) t e).1.name/\(aa (n+(1:Nat)) t e).1.names=[]/\(aa (n+(1:Nat)) t e).1.parts=[]/\aC (ax (aa n) t e).1=(aa (n+(1:Nat)) t e).2.err/\t.pos=(aa (n+(1:Nat)) t e).2.pos/\True else True/\aM (ax (aa n) t e).1=(aa (n+(1:Nat)) t e).1/\(0:Int)=(aa (n+(1:Nat)) t e).2.err/\(0:Int)=(aa (n+(1:Nat)) t e).2.pos/\True else if(!decide ((ax (aa n) t e).2.err=(0:Int)))=true then True/\(0:Int)=(aa (n+(1:Nat)) t e).1.kind/\[]=(aa (n+(1:Nat)) t e).1.pkg/\[]=(aa (n+(1:Nat)) t e).1.name/\(aa (n+(1:Nat)) t e).1.names=[]/\(aa (n+(1:Nat)) t e).1.parts=[]/\(ax (aa n) t e).2.err=(aa (n+(1:Nat)) t e).2.err/\(ax (aa n) t e).2.pos=(aa (n+(1:Nat)) t e).2.pos/\True else True/\aM (ax (aa n) t e).1=(aa (n+(1:Nat)) t e).1/\(0:Int)=(aa (n+(1:Nat)) t e).2.err/\(0:Int)=(aa (n+(1:Nat)) t e).2.pos/\True else if(!decide ((ax (aa n) t e).2.err=(0:Int)))=true then True/\(0:Int)=(aa (n+(1:Nat)) t e).1.kind/\[]=(aa (n+(1:Nat)) t e).1.pkg/\[]=(aa (n+(1:Nat)) t e).1.name/\(aa (n+(1:Nat)) t e).1.names=[]/\(aa (n+(1:Nat)) t e).1.parts=[]/\(ax (aa n) t e).2.err=(aa (n+(1:Nat)) t e).2.err/\(ax (aa n) t e).2.pos=(aa (n+(1:Nat)) t e).2.pos/\True else True/\aM (ax (aa n) t e).1=(aa (n+(1:Nat)) t e).1/\(0:Int)=(aa (n+(1:Nat)) t e).2.err/\(0:Int)=(aa (n+(1:Nat)) t e).2.pos/\True:=by
 refine⟨⟨hz,hf,hv⟩,?_⟩;rw[show aa (n+1) t e=ea t (ax (aa n) t e)from rfl];generalize ax (aa n) t e=r;unfold ea;by_cases h1:r.2.err=0
 ·by_cases h2:aC r.1=0
  ·simp[h1,h2,cb]
  ·simp[h1,h2,al]
 ·simp[h1,al]
theorem EI(n:Nat)(t:Trm)(w:Shape)(e:Envt)(ht:Wf (.st .term) t)(hw:Wf (.st .shape) w)(he:Wf (.st .env) e)(hz:szT t<=n)(hf:allT ag t=true)(hv:e.values.length+4096 *szT t<=100000000) :
  (szT t<=n/\allT ag t=true/\List.length e.values+(4096:Nat) *szT t<=(100000000:Nat))/\if decide ((aa n t e).2.err=(0:Int))=true then if(!fc (aa n t e).1 w)=true then True/\(140:Int)=(au (aa n) t w e).err/\t.pos=(au (aa n) t w e).pos/\True else True/\(aa n t e).2.err=(au (aa n) t w e).err/\(aa n t e).2.pos=(au (aa n) t w e).pos/\True else True/\(aa n t e).2.err=(au (aa n) t w e).err/\(aa n t e).2.pos=(au (aa n) t w e).pos/\True:=by
 refine⟨⟨hz,hf,hv⟩,?_⟩;unfold au;by_cases h1:(aa n t e).2.err=0
 ·cases h2:fc (aa n t e).1 w<;>simp[h1,h2]
 ·simp[h1]
theorem Co(n:Nat)(t:Trm)(e:Envt)(ht:Wf (.st .term) t)(he:Wf (.st .env) e)(hp:0<t.parts.length)(hz:szT t<=n+1)(hf:allT ag t=true)(hv:e.values.length+4096 *szT t<=100000000) :
  ((0:Int)<=(0:Int)/\(0:Int)<(↑(List.length t.parts):Int))/\(szT (List.getD t.parts (Int.toNat (0:Int)) (dfl (Ty.st SN.term)))<=n/\allT ag (List.getD t.parts (Int.toNat (0:Int)) (dfl (Ty.st SN.term)))=true/\List.length e.values+(4096:Nat) *szT (List.getD t.parts (Int.toNat (0:Int)) (dfl (Ty.st SN.term)))<=(100000000:Nat))/\if(!decide ((aa n (List.getD t.parts (Int.toNat (0:Int)) (dfl (Ty.st SN.term))) e).2.err=(0:Int)))=true then True/\(aa n (List.getD t.parts (Int.toNat (0:Int)) (dfl (Ty.st SN.term))) e).1=(cw (aa n) t e).1/\(aa n (List.getD t.parts (Int.toNat (0:Int)) (dfl (Ty.st SN.term))) e).2.err=(cw (aa n) t e).2.err/\(aa n (List.getD t.parts (Int.toNat (0:Int)) (dfl (Ty.st SN.term))) e).2.pos=(cw (aa n) t e).2.pos/\True else if decide ((aa n (List.getD t.parts (Int.toNat (0:Int)) (dfl (Ty.st SN.term))) e).1.kind=(4:Int))=true then True/\(aa n (List.getD t.parts (Int.toNat (0:Int)) (dfl (Ty.st SN.term))) e).1=(cw (aa n) t e).1/\(aa n (List.getD t.parts (Int.toNat (0:Int)) (dfl (Ty.st SN.term))) e).2.err=(cw (aa n) t e).2.err/\(aa n (List.getD t.parts (Int.toNat (0:Int)) (dfl (Ty.st SN.term))) e).2.pos=(cw (aa n) t e).2.pos/\True else if(!decide ((aa n (List.getD t.parts (Int.toNat (0:Int)) (dfl (Ty.st SN.term))) e).1.kind=(6:Int)))=true then True/\(aa n (List.getD t.parts (Int.toNat (0:Int)) (dfl (Ty.st SN.term))) e).1=(cw (aa n) t e).1/\(140:Int)=(cw (aa n) t e).2.err/\t.pos=(cw (aa n) t e).2.pos/\True else if decide (cu (aa n (List.getD t.parts (Int.toNat (0:Int)) (dfl (Ty.st SN.term))) e).1.names t.name (0:Int)<(0:Int))=true then True/\(aa n (List.getD t.parts (Int.toNat (0:Int)) (dfl (Ty.st SN.term))) e).1=(cw (aa n) t e).1/\(140:Int)=(cw (aa n) t e).2.err/\t.pos=(cw (aa n) t e).2.pos/\True else((0:Int)<=cu (aa n (List.getD t.parts (Int.toNat (0:Int)) (dfl (Ty.st SN.term))) e).1.names t.name (0:Int)/\cu (aa n (List.getD t.parts (Int.toNat (0:Int)) (dfl (Ty.st SN.term))) e).1.names t.name (0:Int)<(↑(List.length (aa n (List.getD t.parts (Int.toNat (0:Int)) (dfl (Ty.st SN.term))) e).1.parts):Int))/\True/\List.getD (aa n (List.getD t.parts (Int.toNat (0:Int)) (dfl (Ty.st SN.term))) e).1.parts (Int.toNat (cu (aa n (List.getD t.parts (Int.toNat (0:Int)) (dfl (Ty.st SN.term))) e).1.names t.name (0:Int))) (dfl (Ty.st SN.shape))=(cw (aa n) t e).1/\(0:Int)=(cw (aa n) t e).2.err/\(0:Int)=(cw (aa n) t e).2.pos/\True:=by
 have p0:=qy (dfl (.st .term)) hz hf hp;refine⟨by omega,⟨p0.1,p0.2.1,by have:=p0.2.2;rw[show Int.toNat 0=0 from rfl];omega⟩,?_⟩;rw[show t.parts.getD (Int.toNat 0) (dfl (.st .term))=t.parts.getD 0 ao from rfl];unfold cw;have hn:=@sJ n (t.parts.getD 0 ao) e;revert hn;generalize aa n (t.parts.getD 0 ao) e=r;intro hn;dsimp only;by_cases h1:r.2.err=0
 ·by_cases h4:r.1.kind=4
  ·simp[h1,h4]
  ·by_cases h6:r.1.kind=6
   ·rcases sH t.name (dfl (.st .shape)) (hn h1)with⟨g1,g2⟩|⟨g1,g2,g3⟩
    ·have g1':cu r.1.names t.name 0<0:=by omega
     simp[h1,h6,g1',g2]
    ·have g1':¬cu r.1.names t.name 0<0:=by omega
     simp[h1,h6,g1',g3,g1,g2,cb]
   ·simp[h1,h4,h6]
 ·simp[h1]
theorem Cp(t:Trm)(e:Envt)(ht:Wf (.st .term) t)(he:Wf (.st .env) e)(hs:t.shapes.length<=1000000) :
  (∃(x:Nat×List Shape),(x.1<=List.length t.shapes/\List.length x.2=x.1/\((ae e.types t.pos (List.drop x.1 t.shapes)).2.err=(0:Int)->ae e.types t.pos t.shapes=(x.2++(ae e.types t.pos (List.drop x.1 t.shapes)).1,cb))/\(¬(ae e.types t.pos (List.drop x.1 t.shapes)).2.err=(0:Int)->ae e.types t.pos t.shapes=ae e.types t.pos (List.drop x.1 t.shapes)))/\(0:Int)=(↑x.1:Int)/\x.2=[]/\t=t/\e=e/\t.shapes=t.shapes/\(↑(List.length t.shapes):Int)=(↑(List.length t.shapes):Int)/\List.length x.2=(0:Nat)/\t=t/\e=e/\(0:Int)=(0:Int)/\(0:Int)=(0:Int)/\True)/\∀(x:Nat×List Shape),x.1<=List.length t.shapes/\List.length x.2=x.1/\((ae e.types t.pos (List.drop x.1 t.shapes)).2.err=(0:Int)->ae e.types t.pos t.shapes=(x.2++(ae e.types t.pos (List.drop x.1 t.shapes)).1,cb))/\(¬(ae e.types t.pos (List.drop x.1 t.shapes)).2.err=(0:Int)->ae e.types t.pos t.shapes=ae e.types t.pos (List.drop x.1 t.shapes))->if decide ((↑x.1:Int)<(↑(List.length t.shapes):Int))=true then((0:Int)<=(↑x.1:Int)/\(↑x.1:Int)<(↑(List.length t.shapes):Int))/\if(!decide ((aq (List.getD t.shapes (Int.toNat (↑x.1:Int)) (dfl (Ty.st SN.shape))) e.types).2=(0:Int)))=true then True/\(ae e.types t.pos t.shapes).1=[]/\(aq (List.getD t.shapes (Int.toNat (↑x.1:Int)) (dfl (Ty.st SN.shape))) e.types).2=(ae e.types t.pos t.shapes).2.err/\t.pos=(ae e.types t.pos t.shapes).2.pos/\List.length (ae e.types t.pos t.shapes).1=(0:Nat)/\True else(List.length x.2=List.length x.2/\(List.length x.2+List.length [(aq (List.getD t.shapes (Int.toNat (↑x.1:Int)) (dfl (Ty.st SN.shape))) e.types).1]) *(88:Nat)<=(140737488355328:Nat))/\inR IntKind.i64 ((↑x.1:Int)+(1:Int))/\∃(y:Nat×List Shape),(y.1<=List.length t.shapes/\List.length y.2=y.1/\((ae e.types t.pos (List.drop y.1 t.shapes)).2.err=(0:Int)->ae e.types t.pos t.shapes=(y.2++(ae e.types t.pos (List.drop y.1 t.shapes)).1,cb))/\(¬(ae e.types t.pos (List.drop y.1 t.shapes)).2.err=(0:Int)->ae e.types t.pos t.shapes=ae e.types t.pos (List.drop y.1 t.shapes)))/\List.length t.shapes-y.1<List.length t.shapes-x.1/\(↑x.1:Int)+(1:Int)=(↑y.1:Int)/\x.2++[(aq (List.getD t.shapes (Int.toNat (↑x.1:Int)) (dfl (Ty.st SN.shape))) e.types).1]=y.2/\t=t/\e=e/\t.shapes=t.shapes/\(↑(List.length t.shapes):Int)=(↑(List.length t.shapes):Int)/\List.length (x.2++[(aq (List.getD t.shapes (Int.toNat (↑x.1:Int)) (dfl (Ty.st SN.shape))) e.types).1])=List.length y.2/\t=t/\e=e/\(0:Int)=(0:Int)/\(0:Int)=(0:Int)/\True else True/\x.2=(ae e.types t.pos t.shapes).1/\(0:Int)=(ae e.types t.pos t.shapes).2.err/\(0:Int)=(ae e.types t.pos t.shapes).2.pos/\List.length x.2=List.length (ae e.types t.pos t.shapes).1/\True:=by
 simp only[Int.toNat_natCast,eq_self,true_and,and_true];refine⟨⟨(0,[]),⟨Nat.zero_le _,rfl,fun h=>kQ h,fun _=>rfl⟩,rfl,rfl,rfl⟩,?_⟩;rintro⟨k,q⟩ ⟨h1,h2,h3,h4⟩;dsimp only at h1 h2 h3 h4⊢;refine ab (fun h=>?_) (fun h=>?_)
 ·replace h:=Xo h;have hk:k<t.shapes.length:=by omega
  rw[aA t.shapes k (dfl (.st .shape)) hk,ga]at h3 h4;refine⟨by omega,ab (fun c=>?_) (fun c=>?_)⟩
  ·have c:¬(aq (t.shapes.getD k (dfl (.st .shape))) e.types).2=0:=by simpa using c
   rw[if_neg c]at h4;rw[h4 c];exact⟨rfl,rfl,rfl,rfl⟩
  ·have c:(aq (t.shapes.getD k (dfl (.st .shape))) e.types).2=0:=by simpa using c
   rw[if_pos c]at h3 h4;refine⟨by simp only[List.length_cons,List.length_nil];omega,aL hk (by omega),(k+1,q++[_]),⟨by omega,by simp[h2],fun g=>?_,fun g=>?_⟩,by dsimp only;omega,by dsimp only;omega,rfl,rfl⟩
   ·dsimp only at g;rw[if_pos g]at h3;rw[h3 rfl];simp
   ·dsimp only at g;rw[if_neg g]at h4;rw[h4 g,<-qz g]
 ·replace h:¬((k:Int)<(t.shapes.length:Int)):=fun e=>h (Xd e);have e:k=t.shapes.length:=by omega
  subst e;rw[List.drop_length]at h3;rw[h3 rfl];simp[ae,cb]
theorem EJ(n:Nat)(t:Trm)(e:Envt)(ht:Wf (.st .term) t)(he:Wf (.st .env) e)(hp:0<t.parts.length)(hz:szT t<=n+1)(hf:allT ag t=true)(hv:e.values.length+4096 *szT t<=100000000) :
  ((0:Int)<=(0:Int)/\(0:Int)<(↑(List.length t.parts):Int))/\(szT (List.getD t.parts (Int.toNat (0:Int)) (dfl (Ty.st SN.term)))<=n/\allT ag (List.getD t.parts (Int.toNat (0:Int)) (dfl (Ty.st SN.term)))=true/\List.length e.values+(4096:Nat) *szT (List.getD t.parts (Int.toNat (0:Int)) (dfl (Ty.st SN.term)))<=(100000000:Nat))/\if(!decide ((aa n (List.getD t.parts (Int.toNat (0:Int)) (dfl (Ty.st SN.term))) e).2.err=(0:Int)))=true then True/\(aa n (List.getD t.parts (Int.toNat (0:Int)) (dfl (Ty.st SN.term))) e).1=(aR (aa n) t e).1/\(aa n (List.getD t.parts (Int.toNat (0:Int)) (dfl (Ty.st SN.term))) e).2.err=(aR (aa n) t e).2.err/\(aa n (List.getD t.parts (Int.toNat (0:Int)) (dfl (Ty.st SN.term))) e).2.pos=(aR (aa n) t e).2.pos/\True else(if(!decide ((aa n (List.getD t.parts (Int.toNat (0:Int)) (dfl (Ty.st SN.term))) e).1.kind=(4:Int)))=true then if(!decide ((aa n (List.getD t.parts (Int.toNat (0:Int)) (dfl (Ty.st SN.term))) e).1.kind=(8:Int)))=true then true=(!decide ((aa n (List.getD t.parts (0:Nat) ao) e).1.kind=(4:Int))&&(!decide ((aa n (List.getD t.parts (0:Nat) ao) e).1.kind=(8:Int))||!decide (List.length (aa n (List.getD t.parts (0:Nat) ao) e).1.parts=List.length t.parts)))/\t=t/\e=e/\false=false/\decide ((aa n (List.getD t.parts (Int.toNat (0:Int)) (dfl (Ty.st SN.term))) e).1.kind=(4:Int))=decide ((aa n (List.getD t.parts (Int.toNat (0:Int)) (dfl (Ty.st SN.term))) e).1.kind=(4:Int))/\t=t/\e=e/\(0:Int)=(0:Int)/\an UInt8=an UInt8/\an UInt8=an UInt8/\(0:Int)=(0:Int)/\(0:Int)=(0:Int)/\(aa n (List.getD t.parts (Int.toNat (0:Int)) (dfl (Ty.st SN.term))) e).1=(aa n (List.getD t.parts (Int.toNat (0:Int)) (dfl (Ty.st SN.term))) e).1/\(aa n (List.getD t.parts (Int.toNat (0:Int)) (dfl (Ty.st SN.term))) e).2.err=(aa n (List.getD t.parts (Int.toNat (0:Int)) (dfl (Ty.st SN.term))) e).2.err/\(aa n (List.getD t.parts (Int.toNat (0:Int)) (dfl (Ty.st SN.term))) e).2.pos=(aa n (List.getD t.parts (Int.toNat (0:Int)) (dfl (Ty.st SN.term))) e).2.pos/\True else(!decide ((↑(List.length (aa n (List.getD t.parts (Int.toNat (0:Int)) (dfl (Ty.st SN.term))) e).1.parts):Int)=(↑(List.length t.parts):Int)))=(!decide ((aa n (List.getD t.parts (0:Nat) ao) e).1.kind=(4:Int))&&(!decide ((aa n (List.getD t.parts (0:Nat) ao) e).1.kind=(8:Int))||!decide (List.length (aa n (List.getD t.parts (0:Nat) ao) e).1.parts=List.length t.parts)))/\t=t/\e=e/\false=false/\decide ((aa n (List.getD t.parts (Int.toNat (0:Int)) (dfl (Ty.st SN.term))) e).1.kind=(4:Int))=decide ((aa n (List.getD t.parts (Int.toNat (0:Int)) (dfl (Ty.st SN.term))) e).1.kind=(4:Int))/\t=t/\e=e/\(0:Int)=(0:Int)/\an UInt8=an UInt8/\an UInt8=an UInt8/\(0:Int)=(0:Int)/\(0:Int)=(0:Int)/\(aa n (List.getD t.parts (Int.toNat (0:Int)) (dfl (Ty.st SN.term))) e).1=(aa n (List.getD t.parts (Int.toNat (0:Int)) (dfl (Ty.st SN.term))) e).1/\(aa n (List.getD t.parts (Int.toNat (0:Int)) (dfl (Ty.st SN.term))) e).2.err=(aa n (List.getD t.parts (Int.toNat (0:Int)) (dfl (Ty.st SN.term))) e).2.err/\(aa n (List.getD t.parts (Int.toNat (0:Int)) (dfl (Ty.st SN.term))) e).2.pos=(aa n (List.getD t.parts (Int.toNat (0:Int)) (dfl (Ty.st SN.term))) e).2.pos/\True else false=(!decide ((aa n (List.getD t.parts (0:Nat) ao) e).1.kind=(4:Int))&&(!decide ((aa n (List.getD t.parts (0:Nat) ao) e).1.kind=(8:Int))||!decide (List.length (aa n (List.getD t.parts (0:Nat) ao) e).1.parts=List.length t.parts)))/\t=t/\e=e/\false=false
  /\decide ((aa n (List.getD t.parts (Int.toNat (0:Int)) (dfl (Ty.st SN.term))) e).1.kind=(4:Int))=decide ((aa n (List.getD t.parts (Int.toNat (0:Int)) (dfl (Ty.st SN.term))) e).1.kind=(4:Int))/\t=t/\e=e/\(0:Int)=(0:Int)/\an UInt8=an UInt8/\an UInt8=an UInt8/\(0:Int)=(0:Int)/\(0:Int)=(0:Int)/\(aa n (List.getD t.parts (Int.toNat (0:Int)) (dfl (Ty.st SN.term))) e).1=(aa n (List.getD t.parts (Int.toNat (0:Int)) (dfl (Ty.st SN.term))) e).1/\(aa n (List.getD t.parts (Int.toNat (0:Int)) (dfl (Ty.st SN.term))) e).2.err=(aa n (List.getD t.parts (Int.toNat (0:Int)) (dfl (Ty.st SN.term))) e).2.err/\(aa n (List.getD t.parts (Int.toNat (0:Int)) (dfl (Ty.st SN.term))) e).2.pos=(aa n (List.getD t.parts (Int.toNat (0:Int)) (dfl (Ty.st SN.term))) e).2.pos/\True)/\if(!decide ((aa n (List.getD t.parts (0:Nat) ao) e).1.kind=(4:Int))&&(!decide ((aa n (List.getD t.parts (0:Nat) ao) e).1.kind=(8:Int))||!decide (List.length (aa n (List.getD t.parts (0:Nat) ao) e).1.parts=List.length t.parts)))=true then True/\(aa n (List.getD t.parts (Int.toNat (0:Int)) (dfl (Ty.st SN.term))) e).1=(aR (aa n) t e).1/\(140:Int)=(aR (aa n) t e).2.err/\t.pos=(aR (aa n) t e).2.pos/\True else((0:Int)<=(1:Int)/\(1:Int)<=(↑(List.length t.parts):Int)/\(↑(List.length t.parts):Int)<=(↑(List.length t.parts):Int))/\(∃(x:Nat),(x+(1:Nat)<=List.length t.parts/\((aa n (List.getD t.parts (0:Nat) ao) e).1.kind=(4:Int)->b6 (aa n) e (ofK (4:Int)) (List.drop (1:Nat) t.parts)=b6 (aa n) e (ofK (4:Int)) (List.drop (x+(1:Nat)) t.parts))/\(¬(aa n (List.getD t.parts (0:Nat) ao) e).1.kind=(4:Int)->cv (aa n) e (List.drop (1:Nat) t.parts) (aa n (List.getD t.parts (0:Nat) ao) e).1.parts=cv (aa n) e (List.drop (x+(1:Nat)) t.parts) (List.drop x (aa n (List.getD t.parts (0:Nat) ao) e).1.parts)))/\(0:Int)=(↑x:Int)/\false=false/\t=t/\e=e/\false=false/\decide ((aa n (List.getD t.parts (Int.toNat (0:Int)) (dfl (Ty.st SN.term))) e).1.kind=(4:Int))=decide ((aa n (List.getD t.parts (Int.toNat (0:Int)) (dfl (Ty.st SN.term))) e).1.kind=(4:Int))/\List.drop (Int.toNat (1:Int)) (List.take (Int.toNat (↑(List.length t.parts):Int)) t.parts)=List.drop (Int.toNat (1:Int)) (List.take (Int.toNat (↑(List.length t.parts):Int)) t.parts)/\(↑(List.length (List.drop (Int.toNat (1:Int)) (List.take (Int.toNat (↑(List.length t.parts):Int)) t.parts))):Int)=(↑(List.length (List.drop (Int.toNat (1:Int)) (List.take (Int.toNat (↑(List.length t.parts):Int)) t.parts))):Int)/\t=t/\e=e/\(0:Int)=(0:Int)/\an UInt8=an UInt8/\an UInt8=an UInt8/\(0:Int)=(0:Int)/\(0:Int)=(0:Int)/\(aa n (List.getD t.parts (Int.toNat (0:Int)) (dfl (Ty.st SN.term))) e).1=(aa n (List.getD t.parts (Int.toNat (0:Int)) (dfl (Ty.st SN.term))) e).1/\(aa n (List.getD t.parts (Int.toNat (0:Int)) (dfl (Ty.st SN.term))) e).2.err=(aa n (List.getD t.parts (Int.toNat (0:Int)) (dfl (Ty.st SN.term))) e).2.err/\(aa n (List.getD t.parts (Int.toNat (0:Int)) (dfl (Ty.st SN.term))) e).2.pos=(aa n (List.getD t.parts (Int.toNat (0:Int)) (dfl (Ty.st SN.term))) e).2.pos/\True)/\∀(x:Nat),x+(1:Nat)<=List.length t.parts/\((aa n (List.getD t.parts (0:Nat) ao) e).1.kind=(4:Int)->b6 (aa n) e (ofK (4:Int)) (List.drop (1:Nat) t.parts)=b6 (aa n) e (ofK (4:Int)) (List.drop (x+(1:Nat)) t.parts))
  /\(¬(aa n (List.getD t.parts (0:Nat) ao) e).1.kind=(4:Int)->cv (aa n) e (List.drop (1:Nat) t.parts) (aa n (List.getD t.parts (0:Nat) ao) e).1.parts=cv (aa n) e (List.drop (x+(1:Nat)) t.parts) (List.drop x (aa n (List.getD t.parts (0:Nat) ao) e).1.parts))->if decide ((↑x:Int)<(↑(List.length (List.drop (Int.toNat (1:Int)) (List.take (Int.toNat (↑(List.length t.parts):Int)) t.parts))):Int))=true then((0:Int)<=(↑x:Int)/\(↑x:Int)<(↑(List.length (List.drop (Int.toNat (1:Int)) (List.take (Int.toNat (↑(List.length t.parts):Int)) t.parts))):Int))/\if(!decide ((aa n (List.getD t.parts (Int.toNat (0:Int)) (dfl (Ty.st SN.term))) e).1.kind=(4:Int)))=true then((0:Int)<=(↑x:Int)/\(↑x:Int)<(↑(List.length (aa n (List.getD t.parts (Int.toNat (0:Int)) (dfl (Ty.st SN.term))) e).1.parts):Int))/\(szT (List.getD (List.drop (Int.toNat (1:Int)) (List.take (Int.toNat (↑(List.length t.parts):Int)) t.parts)) (Int.toNat (↑x:Int)) (dfl (Ty.st SN.term)))<=n/\allT ag (List.getD (List.drop (Int.toNat (1:Int)) (List.take (Int.toNat (↑(List.length t.parts):Int)) t.parts)) (Int.toNat (↑x:Int)) (dfl (Ty.st SN.term)))=true/\List.length e.values+(4096:Nat) *szT (List.getD (List.drop (Int.toNat (1:Int)) (List.take (Int.toNat (↑(List.length t.parts):Int)) t.parts)) (Int.toNat (↑x:Int)) (dfl (Ty.st SN.term)))<=(100000000:Nat))/\if(!decide ((au (aa n) (List.getD (List.drop (Int.toNat (1:Int)) (List.take (Int.toNat (↑(List.length t.parts):Int)) t.parts)) (Int.toNat (↑x:Int)) (dfl (Ty.st SN.term))) (List.getD (aa n (List.getD t.parts (Int.toNat (0:Int)) (dfl (Ty.st SN.term))) e).1.parts (Int.toNat (↑x:Int)) (dfl (Ty.st SN.shape))) e).err=(0:Int)))=true then True/\(aa n (List.getD t.parts (Int.toNat (0:Int)) (dfl (Ty.st SN.term))) e).1=(aR (aa n) t e).1/\(au (aa n) (List.getD (List.drop (Int.toNat (1:Int)) (List.take (Int.toNat (↑(List.length t.parts):Int)) t.parts)) (Int.toNat (↑x:Int)) (dfl (Ty.st SN.term))) (List.getD (aa n (List.getD t.parts (Int.toNat (0:Int)) (dfl (Ty.st SN.term))) e).1.parts (Int.toNat (↑x:Int)) (dfl (Ty.st SN.shape))) e).err=(aR (aa n) t e).2.err/\(au (aa n) (List.getD (List.drop (Int.toNat (1:Int)) (List.take (Int.toNat (↑(List.length t.parts):Int)) t.parts)) (Int.toNat (↑x:Int)) (dfl (Ty.st SN.term))) (List.getD (aa n (List.getD t.parts (Int.toNat (0:Int)) (dfl (Ty.st SN.term))) e).1.parts (Int.toNat (↑x:Int)) (dfl (Ty.st SN.shape))) e).pos=(aR (aa n) t e).2.pos/\True else inR IntKind.i64 ((↑x:Int)+(1:Int))/\∃(y:Nat),(y+(1:Nat)<=List.length t.parts/\((aa n (List.getD t.parts (0:Nat) ao) e).1.kind=(4:Int)->b6 (aa n) e (ofK (4:Int)) (List.drop (1:Nat) t.parts)=b6 (aa n) e (ofK (4:Int)) (List.drop (y+(1:Nat)) t.parts))/\(¬(aa n (List.getD t.parts (0:Nat) ao) e).1.kind=(4:Int)->cv (aa n) e (List.drop (1:Nat) t.parts) (aa n (List.getD t.parts (0:Nat) ao) e).1.parts=cv (aa n) e (List.drop (y+(1:Nat)) t.parts) (List.drop y (aa n (List.getD t.parts (0:Nat) ao) e).1.parts)))/\List.length t.parts-y<List.length t.parts-x/\(↑x:Int)+(1:Int)=(↑y:Int)/\false=false/\t=t/\e=e/\false=false/\decide ((aa n (List.getD t.parts (Int.toNat (0:Int)) (dfl (Ty.st SN.term))) e).1.kind=(4:Int))=decide ((aa n (List.getD t.parts (Int.toNat (0:Int)) (dfl (Ty.st SN.term))) e).1.kind=(4:Int))/\List.drop (Int.toNat (1:Int)) (List.take (Int.toNat (↑(List.length t.parts):Int)) t.parts)=List.drop (Int.toNat (1:Int)) (List.take (Int.toNat (↑(List.length t.parts):Int)) t.parts)
  /\(↑(List.length (List.drop (Int.toNat (1:Int)) (List.take (Int.toNat (↑(List.length t.parts):Int)) t.parts))):Int)=(↑(List.length (List.drop (Int.toNat (1:Int)) (List.take (Int.toNat (↑(List.length t.parts):Int)) t.parts))):Int)/\t=t/\e=e/\(0:Int)=(0:Int)/\an UInt8=an UInt8/\an UInt8=an UInt8/\(0:Int)=(0:Int)/\(0:Int)=(0:Int)/\(aa n (List.getD t.parts (Int.toNat (0:Int)) (dfl (Ty.st SN.term))) e).1=(aa n (List.getD t.parts (Int.toNat (0:Int)) (dfl (Ty.st SN.term))) e).1/\(aa n (List.getD t.parts (Int.toNat (0:Int)) (dfl (Ty.st SN.term))) e).2.err=(aa n (List.getD t.parts (Int.toNat (0:Int)) (dfl (Ty.st SN.term))) e).2.err/\(aa n (List.getD t.parts (Int.toNat (0:Int)) (dfl (Ty.st SN.term))) e).2.pos=(aa n (List.getD t.parts (Int.toNat (0:Int)) (dfl (Ty.st SN.term))) e).2.pos/\True else(szT (List.getD (List.drop (Int.toNat (1:Int)) (List.take (Int.toNat (↑(List.length t.parts):Int)) t.parts)) (Int.toNat (↑x:Int)) (dfl (Ty.st SN.term)))<=n/\allT ag (List.getD (List.drop (Int.toNat (1:Int)) (List.take (Int.toNat (↑(List.length t.parts):Int)) t.parts)) (Int.toNat (↑x:Int)) (dfl (Ty.st SN.term)))=true/\List.length e.values+(4096:Nat) *szT (List.getD (List.drop (Int.toNat (1:Int)) (List.take (Int.toNat (↑(List.length t.parts):Int)) t.parts)) (Int.toNat (↑x:Int)) (dfl (Ty.st SN.term)))<=(100000000:Nat))/\if(!decide ((au (aa n) (List.getD (List.drop (Int.toNat (1:Int)) (List.take (Int.toNat (↑(List.length t.parts):Int)) t.parts)) (Int.toNat (↑x:Int)) (dfl (Ty.st SN.term))) (ofK (4:Int)) e).err=(0:Int)))=true then True/\(aa n (List.getD t.parts (Int.toNat (0:Int)) (dfl (Ty.st SN.term))) e).1=(aR (aa n) t e).1/\(au (aa n) (List.getD (List.drop (Int.toNat (1:Int)) (List.take (Int.toNat (↑(List.length t.parts):Int)) t.parts)) (Int.toNat (↑x:Int)) (dfl (Ty.st SN.term))) (ofK (4:Int)) e).err=(aR (aa n) t e).2.err/\(au (aa n) (List.getD (List.drop (Int.toNat (1:Int)) (List.take (Int.toNat (↑(List.length t.parts):Int)) t.parts)) (Int.toNat (↑x:Int)) (dfl (Ty.st SN.term))) (ofK (4:Int)) e).pos=(aR (aa n) t e).2.pos/\True else inR IntKind.i64 ((↑x:Int)+(1:Int))/\∃(y:Nat),(y+(1:Nat)<=List.length t.parts/\((aa n (List.getD t.parts (0:Nat) ao) e).1.kind=(4:Int)->b6 (aa n) e (ofK (4:Int)) (List.drop (1:Nat) t.parts)=b6 (aa n) e (ofK (4:Int)) (List.drop (y+(1:Nat)) t.parts))/\(¬(aa n (List.getD t.parts (0:Nat) ao) e).1.kind=(4:Int)->cv (aa n) e (List.drop (1:Nat) t.parts) (aa n (List.getD t.parts (0:Nat) ao) e).1.parts=cv (aa n) e (List.drop (y+(1:Nat)) t.parts) (List.drop y (aa n (List.getD t.parts (0:Nat) ao) e).1.parts)))/\List.length t.parts-y<List.length t.parts-x/\(↑x:Int)+(1:Int)=(↑y:Int)/\false=false/\t=t/\e=e/\false=false/\decide ((aa n (List.getD t.parts (Int.toNat (0:Int)) (dfl (Ty.st SN.term))) e).1.kind=(4:Int))=decide ((aa n (List.getD t.parts (Int.toNat (0:Int)) (dfl (Ty.st SN.term))) e).1.kind=(4:Int))/\List.drop (Int.toNat (1:Int)) (List.take (Int.toNat (↑(List.length t.parts):Int)) t.parts)=List.drop (Int.toNat (1:Int)) (List.take (Int.toNat (↑(List.length t.parts):Int)) t.parts)/\(↑(List.length (List.drop (Int.toNat (1:Int)) (List.take (Int.toNat (↑(List.length t.parts):Int)) t.parts))):Int)=(↑(List.length (List.drop (Int.toNat (1:Int)) (List.take (Int.toNat (↑(List.length t.parts):Int)) t.parts))):Int)/\t=t/\e=e/\(0:Int)=(0:Int)/\an UInt8=an UInt8/\an UInt8=an UInt8/\(0:Int)=(0:Int)/\(0:Int)=(0:Int)
  /\(aa n (List.getD t.parts (Int.toNat (0:Int)) (dfl (Ty.st SN.term))) e).1=(aa n (List.getD t.parts (Int.toNat (0:Int)) (dfl (Ty.st SN.term))) e).1/\(aa n (List.getD t.parts (Int.toNat (0:Int)) (dfl (Ty.st SN.term))) e).2.err=(aa n (List.getD t.parts (Int.toNat (0:Int)) (dfl (Ty.st SN.term))) e).2.err/\(aa n (List.getD t.parts (Int.toNat (0:Int)) (dfl (Ty.st SN.term))) e).2.pos=(aa n (List.getD t.parts (Int.toNat (0:Int)) (dfl (Ty.st SN.term))) e).2.pos/\True else if decide ((aa n (List.getD t.parts (Int.toNat (0:Int)) (dfl (Ty.st SN.term))) e).1.kind=(4:Int))=true then True/\(aa n (List.getD t.parts (Int.toNat (0:Int)) (dfl (Ty.st SN.term))) e).1=(aR (aa n) t e).1/\(0:Int)=(aR (aa n) t e).2.err/\(0:Int)=(aR (aa n) t e).2.pos/\True else inR IntKind.i64 ((↑(List.length (aa n (List.getD t.parts (Int.toNat (0:Int)) (dfl (Ty.st SN.term))) e).1.parts):Int)-(1:Int))/\((0:Int)<=(↑(List.length (aa n (List.getD t.parts (Int.toNat (0:Int)) (dfl (Ty.st SN.term))) e).1.parts):Int)-(1:Int)/\(↑(List.length (aa n (List.getD t.parts (Int.toNat (0:Int)) (dfl (Ty.st SN.term))) e).1.parts):Int)-(1:Int)<(↑(List.length (aa n (List.getD t.parts (Int.toNat (0:Int)) (dfl (Ty.st SN.term))) e).1.parts):Int))/\True/\List.getD (aa n (List.getD t.parts (Int.toNat (0:Int)) (dfl (Ty.st SN.term))) e).1.parts (Int.toNat ((↑(List.length (aa n (List.getD t.parts (Int.toNat (0:Int)) (dfl (Ty.st SN.term))) e).1.parts):Int)-(1:Int))) (dfl (Ty.st SN.shape))=(aR (aa n) t e).1/\(0:Int)=(aR (aa n) t e).2.err/\(0:Int)=(aR (aa n) t e).2.pos/\True:=by
 have p0:=jw hz hf hv (dfl (.st .term)) hp (Nat.le_add_right _ _);have ln:=ht.term_parts.len;have hds:List.drop (Int.toNat 1) (List.take t.parts.length t.parts)=t.parts.drop 1:=by rw[List.take_length];rfl
 have hdg:∀k:Nat,(t.parts.drop 1).getD k (dfl (.st .term))=t.parts.getD (k+1) (dfl (.st .term)):=fun k=>by rw[List.getD_eq_getElem?_getD,List.getD_eq_getElem?_getD,List.getElem?_drop,Nat.add_comm]
 rw[show t.parts.getD (Int.toNat 0) (dfl (.st .term))=t.parts.getD 0 ao from rfl];simp only[Int.toNat_natCast,eq_self,true_and,and_true];simp only[hds,hdg,List.length_drop];have hC0:¬(aa n (t.parts.getD 0 ao) e).2.err=0->aR (aa n) t e=aa n (t.parts.getD 0 ao) e:=fun h=>by simp only[aR,if_neg h]
 have hC4:(aa n (t.parts.getD 0 ao) e).2.err=0->(aa n (t.parts.getD 0 ao) e).1.kind=4->aR (aa n) t e=if(b6 (aa n) e (ofK 4) (t.parts.drop 1)).err=0 then((aa n (t.parts.getD 0 ao) e).1,cb)else((aa n (t.parts.getD 0 ao) e).1,b6 (aa n) e (ofK 4) (t.parts.drop 1)):=fun h k=>by simp only[aR,if_pos h,if_pos k]
 have hC8:(aa n (t.parts.getD 0 ao) e).2.err=0->¬(aa n (t.parts.getD 0 ao) e).1.kind=4->(aa n (t.parts.getD 0 ao) e).1.kind=8/\(aa n (t.parts.getD 0 ao) e).1.parts.length=t.parts.length->aR (aa n) t e=if(cv (aa n) e (t.parts.drop 1) (aa n (t.parts.getD 0 ao) e).1.parts).err=0 then((aa n (t.parts.getD 0 ao) e).1.parts.getD ((aa n (t.parts.getD 0 ao) e).1.parts.length-1) al,cb)else((aa n (t.parts.getD 0 ao) e).1,cv (aa n) e (t.parts.drop 1) (aa n (t.parts.getD 0 ao) e).1.parts):=fun h k g=>by simp only[aR,if_pos h,if_neg k,if_pos g]
 have hC9:(aa n (t.parts.getD 0 ao) e).2.err=0->¬(aa n (t.parts.getD 0 ao) e).1.kind=4->¬((aa n (t.parts.getD 0 ao) e).1.kind=8/\(aa n (t.parts.getD 0 ao) e).1.parts.length=t.parts.length)->aR (aa n) t e=((aa n (t.parts.getD 0 ao) e).1,⟨140,t.pos⟩):=fun h k g=>by simp only[aR,if_pos h,if_neg k,if_neg g]
 revert hC0 hC4 hC8 hC9;generalize aR (aa n) t e=R;generalize aa n (t.parts.getD 0 ao) e=r;intro hC0 hC4 hC8 hC9;have dn:decide ((r.1.parts.length:Int)=(t.parts.length:Int))=decide (r.1.parts.length=t.parts.length):=decide_eq_decide.2 (by omega);refine⟨by omega,p0,ab (fun h=>?_) (fun h=>?_)⟩
 ·rw[hC0 (by simpa using h)];exact⟨rfl,rfl,rfl⟩
 have h:r.2.err=0:=by simpa using h
 rw[dn];refine⟨?_,ab (fun g=>?_) (fun g=>?_)⟩
 ·cases decide (r.1.kind=4)<;>cases decide (r.1.kind=8)<;>cases decide (r.1.parts.length=t.parts.length)<;>rfl
 ·have g':¬r.1.kind=4/\¬(r.1.kind=8/\r.1.parts.length=t.parts.length):=by simp only[Bool.and_eq_true,Bool.or_eq_true,Bool.not_eq_true',decide_eq_false_iff_not]at g;exact⟨g.1,fun q=>g.2.elim (fun x=>x q.1) (fun x=>x q.2)⟩
  rw[hC9 h g'.1 g'.2];exact⟨rfl,rfl,rfl⟩
 have g':¬r.1.kind=4->r.1.kind=8/\r.1.parts.length=t.parts.length:=fun q=>by simp only[Bool.and_eq_true,Bool.or_eq_true,Bool.not_eq_true',decide_eq_false_iff_not]at g;exact⟨Decidable.byContradiction fun x=>g ⟨q,.inl x⟩,Decidable.byContradiction fun x=>g ⟨q,.inr x⟩⟩
 refine⟨by omega,⟨0,⟨by omega,fun _=>rfl,fun _=>by rw[List.drop_zero]⟩,rfl⟩,?_⟩;rintro k ⟨h1,h2,h3⟩;refine ab (fun c=>?_) (fun c=>?_)
 ·have c:=Xo c;have hk:k+1<t.parts.length:=by omega
  have ob:=jw hz hf hv (dfl (.st .term)) hk (Nat.le_add_right _ _);rw[aA t.parts (k+1) (dfl (.st .term)) hk]at h2 h3;refine⟨by omega,ab (fun k4=>?_) (fun k4=>?_)⟩
  ·have k4:¬r.1.kind=4:=by simpa using k4
   have k8:=g' k4;have h3:=h3 k4;rw[aA r.1.parts k (dfl (.st .shape)) (by omega)]at h3;simp only[cv]at h3;refine⟨by omega,ob,ab (fun f=>?_) (fun f=>?_)⟩
   ·have f:¬(au (aa n) (t.parts.getD (k+1) (dfl (.st .term))) (r.1.parts.getD k (dfl (.st .shape))) e).err=0:=by simpa using f
    rw[if_neg f]at h3;rw[hC8 h k4 k8,h3,if_neg f];exact⟨rfl,rfl,rfl⟩
   ·have f:(au (aa n) (t.parts.getD (k+1) (dfl (.st .term))) (r.1.parts.getD k (dfl (.st .shape))) e).err=0:=by simpa using f
    rw[if_pos f]at h3;exact⟨aL (by omega) ln,k+1,⟨by omega,fun q=>absurd q k4,fun _=>h3⟩,by omega,by omega⟩
  ·have k4:r.1.kind=4:=by simpa using k4
   have h2:=h2 k4;simp only[b6]at h2;refine⟨ob,ab (fun f=>?_) (fun f=>?_)⟩
   ·have f:¬(au (aa n) (t.parts.getD (k+1) (dfl (.st .term))) (ofK 4) e).err=0:=by simpa using f
    rw[if_neg f]at h2;rw[hC4 h k4,h2,if_neg f];exact⟨rfl,rfl,rfl⟩
   ·have f:(au (aa n) (t.parts.getD (k+1) (dfl (.st .term))) (ofK 4) e).err=0:=by simpa using f
    rw[if_pos f]at h2;exact⟨aL (by omega) ln,k+1,⟨by omega,fun _=>h2,fun q=>absurd k4 q⟩,by omega,by omega⟩
 ·have c:¬((k:Int)<((t.parts.length-1:Nat):Int)):=fun q=>c (Xd q);have hk:k+1=t.parts.length:=by omega
  rw[hk,List.drop_length]at h2 h3;refine ab (fun k4=>?_) (fun k4=>?_)
  ·have k4:r.1.kind=4:=Xo k4;rw[hC4 h k4,h2 k4];exact⟨rfl,rfl,rfl⟩
  ·have k4:¬r.1.kind=4:=fun q=>k4 (Xd q);have k8:=g' k4;have h3:=h3 k4;simp only[cv]at h3;have ei:((r.1.parts.length:Int)-1).toNat=r.1.parts.length-1:=by omega
   rw[hC8 h k4 k8,h3,ei];exact⟨b8 (by omega) (by omega),by omega,rfl,rfl,rfl⟩
end Go.AL.Seat
end
