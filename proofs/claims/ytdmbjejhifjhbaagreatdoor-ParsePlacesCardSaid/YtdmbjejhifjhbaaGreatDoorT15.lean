/- Plain facts. The layer: Go code as conditions, and that they are sound. No condition. -/
import Derived.Test.YtdmbjejhifjhbaaGreatDoorT14
import Derived.Deep.DeepWitnessRowRef
import Derived.Lib.LaidIn
import Derived.Lib.LaidU8T
import Derived.PinnedBridge
import Derived.ProofKit
import Derived.Recover
import Derived.Shelf.Vars
import Derived.Test.YtdmbjejhifjhbaaGreatDoorCards
import Derived.Test.YtdmbjejhifjhbaaGreatDoorProg
import Derived.Test.YtdmbjejhifjhbaaGreatDoorTie
set_option linter.unusedVariables false
set_option linter.unusedSimpArgs false
set_option linter.unnecessarySimpa false
set_option linter.deprecated false
set_option linter.unusedSectionVars false
set_option maxRecDepth 100000
section
namespace Go.AL.Seat
open Go Go.AL Go.Proofs Go.Shelf Go.Pd
class SeatLaid [Tabs]:Prop where
 max:∃m:Int,Tabs.tab 2 0 (.int .i64 m)
 utf:ni 0 1
variable [Tabs] [SeatLaid]
theorem vR:ad Tryz.prog 134 (p2 .str .str fun a b=>⟨some (b=oU),none,.str (lS a),[]⟩):=y0 Tryz.lays160 (by kernel_rfl) rfl (au.mk' Tryz.func134 (by kernel_rfl))
theorem Ft:ad Tryz.prog 189 (p2 .str .str fun a b=>⟨some (b=[45]/\a.length < 4294967281),none,.tup [.str (aC a),.str (cg a),.bool (dI a)],[]⟩):=
 let ⟨_,hm⟩:=SeatLaid.max;B7 Tryz.lays145 hm rfl (au.mk' Tryz.func189 (by kernel_rfl))
theorem so:ad Tryz.prog 190 (p2 .str .str fun a b=>⟨some (b=[46]/\a.length < 4294967281),none,.lst .str (splitB 46 a) none,[]⟩):=
 let ⟨_,hm⟩:=SeatLaid.max;vN Tryz.lays146 (by kernel_rfl) hm rfl (au.mk' Tryz.func190 (by kernel_rfl))
theorem u7:ad Tryz.prog 195 (p2 .str .str fun a b=>⟨some (b.length=1),none,.bool (decide (b.getD 0 0∈a)),[]⟩):=qD Tryz.lays144 rfl (au.mk' Tryz.func195 (by kernel_rfl))
theorem rL:ad Tryz.prog 193 (p2 .str (.int .u8) fun a c=>.ret (.int .i64 (nV a c))):=oW Tryz.lays137 rfl (au.mk' Tryz.func193 (by kernel_rfl))
theorem qH:ad Tryz.prog 180 (p1 .str fun s=>.ret (.tup [.int .i32 ((gU s).1:Int),.int .i64 ((gU s).2:Int)])):=o5 Tryz.lays197 SeatLaid.utf rfl (au.mk' Tryz.func180 (by kernel_rfl))
theorem B8:ad Tryz.prog 212 (p1 .str fun s=>.ret (.bool (cu s).isNone)):=vP Tryz.lays196 SeatLaid.utf rfl (au.mk' Tryz.func212 (by kernel_rfl))
end Go.AL.Seat
end
section
namespace Go.Proofs.YtdmbjejhifjhbaaGreatDoor.Join
open Go.AL Go.AL.Seat Go.ChangeShapes Go.WideShapes Go.RowKit Go.Lib Go.Shelf
set_option maxRecDepth 1000000
theorem own:ownKnob Tryz.prog.godebug=none:=by kernel_rfl
theorem Fu:laidOutB Tryz.prog=true:=by kernel_rfl
theorem undB:Tryz.prog.underlying 4=some .bool:=by kernel_rfl
theorem undI:Tryz.prog.underlying 3=some (.int .i64):=by kernel_rfl
theorem undS:Tryz.prog.underlying 9=some .string:=by kernel_rfl
theorem GY:Tryz.prog.readableRec 9=true:=by kernel_rfl
theorem GZ:22 < Tryz.prog.types.size:=Xo (by kernel_rfl)
def laid:List (String × DataW Unit):=Rows.parseTypesRow.laid
theorem H0:(Rows.laid_unicode_utf8_acceptRanges:DataW Unit)=acceptData:=by kernel_rfl
theorem H1 {W:World} (h:W.ShapedOpen Tryz.prog):∃m,W.cell? ⟨2,0,none⟩=some (.int .i64 m):=
 cell_of_shapedOpen_int (t:=3) (zero:=#[.int .i64 0]) h (Xo (by kernel_rfl)) (by kernel_rfl) rfl (by kernel_rfl) (by kernel_rfl) undI
theorem fI {W:World} (h:laidMet Tryz.prog laid W):Utf8Tabs 0 1 W:=
 utf8Tabs_of_readsT (ρ:=Tryz.lays196_ren) (U8Types.of196 Tryz.lays196) ⟨by kernel_rfl,by kernel_rfl,by kernel_rfl,by kernel_rfl,by kernel_rfl,by kernel_rfl,by kernel_rfl⟩
  (Pinned.utf8First_eq ▸ laidMet.reads h (by simp [laid,Rows.parseTypesRow,Rows.laid_unicode_utf8_first])) (H0 ▸ laidMet.reads h (by simp [laid,Rows.parseTypesRow]))
theorem DD {W:World} (h:laidMet Tryz.prog laid W) (hs:W.ShapedOpen Tryz.prog):@SeatLaid (qp W):=by
 letI:Tabs:=qp W
 obtain ⟨m,hm⟩:=H1 hs
 obtain ⟨u1,u2⟩:=fI h
 exact ⟨⟨m,by decide,hm⟩,fun c hc=>⟨by decide,u1 c hc⟩,fun i hi=>⟨⟨by decide,(u2 i hi).1⟩,by decide,(u2 i hi).2⟩⟩
def z32:List Int:=[0,1,28,2,29,14,24,3,30,22,20,15,25,17,4,8,31,27,13,23,21,19,16,7,26,12,18,6,11,5,10,9]
def z64:List Int:=[0,1,56,2,57,49,28,3,61,58,42,50,38,29,17,4,62,47,59,36,45,43,51,22,53,39,33,30,24,18,12,5,63,55,48,27,60,41,37,16,46,35,44,21,52,32,23,11,54,26,40,15,34,20,31,10,25,14,19,9,13,8,7,6]
def zPow:List Int:=[1,10,100,1000,10000,100000,1000000,10000000,100000000,1000000000,10000000000,100000000000,1000000000000,10000000000000,100000000000000,1000000000000000,10000000000000000,100000000000000000,1000000000000000000,10000000000000000000]
def zAcc:List Int:=[128,191,160,191,128,159,144,191,128,143,0,0,0,0,0,0,0,0,0,0,0,0,0,0,0,0,0,0,0,0,0,0]
def GG:List Int:=List.map Int.ofNat Pinned.utf8FirstZ
noncomputable def lj (os:Os):World:=
 let N:=(World.settled Tryz.prog os).heap.size
 let w0:=World.holding Tryz.prog os ⟨#[.cells #[.string ⟨#[118,97,108,117,101,32,111,117,116,32,111,102,32,114,97,110,103,101]⟩] 259,.cells #[.string ⟨#[105,110,118,97,108,105,100,32,115,121,110,116,97,120]⟩] 259],#[],[]⟩
 let put (h:Array Obj) (g:Nat) (cs:Array Value):Array Obj:=h.modify g fun
  | .cells _ t frozen=>.cells cs t frozen
  | o=>o
 let h0:=put (put w0.heap 4 #[.iface 257 (.pointer (some ⟨N+1,0,none⟩))]) 5 #[.iface 257 (.pointer (some ⟨N,0,none⟩))]
 let h1:=put (put (put h0 3 (zPow.map (Value.int .u64)).toArray) 6 (z32.map (Value.int .u8)).toArray) 7 (z64.map (Value.int .u8)).toArray
 let h2:=put (put h1 0 (GG.map (Value.int .u8)).toArray) 1 (zAcc.map (Value.int .u8)).toArray
 {w0 with heap:=h2}
noncomputable abbrev N0:Nat:=(World.settled Tryz.prog default).heap.size
theorem GH (os:Os) (args:Array Value):LaidIn Tryz.prog ((lj os).forCall (fun _ _=>0) ⟨#[],args,[]⟩).memory laid [6,7,3,1,5,N0,4,N0+1,0]:=
 LaidIn.of_run [6,7,3,1,5,N0,4,N0+1,0] 10 (by kernel_rfl) (by kernel_rfl) (by kernel_rfl) (by kernel_rfl)
theorem DE (os:Os) (args:Array Value):laidMet Tryz.prog laid ((lj os).forCall (fun _ _=>0) ⟨#[],args,[]⟩).memory:=(GH os args).met
end Go.Proofs.YtdmbjejhifjhbaaGreatDoor.Join
end
section
open Go Go.AL Go.Proofs
namespace Go.AL.Seat
variable [Tabs]
def r1:TR:=⟨.other,1,8,[.undef],none⟩
def r2:TR:=⟨.int .i64,1,8,[.int .i64 0],some (.int .i64)⟩
def r5:TR:=⟨.int .u8,1,1,[.int .u8 0],some (.int .u8)⟩
def r7:TR:=⟨.strct true [(0,2),(1,3),(2,4),(3,6)],4,24,[.int .i64 0,.int .i64 0,.bool false,.int .u8 0],none⟩
def r9:TR:=⟨.str,1,16,[.str []],some .str⟩
def r12:TR:=⟨.int .u64,1,8,[.int .u64 0],some (.int .u64)⟩
def r13:TR:=⟨.strct false [(0,9),(1,12)],2,24,[.str [],.int .u64 0],none⟩
def r18:TR:=⟨.strct false [(0,17)],1,8,[.nilp],none⟩
def r20:TR:=⟨.iface,1,16,[.nilif],none⟩
def r21:TR:=⟨.int .i32,1,4,[.int .i32 0],some (.int .i32)⟩
def r100:TR:=⟨.strct true [(0,9),(1,3)],2,24,[.str [],.int .i64 0],none⟩
def r102:TR:=⟨.strct false [(0,101),(2,22),(3,31)],5,64,[.str [],.int .i64 0,.nils,.int .i64 0,.int .i64 0],none⟩
def r145:TR:=⟨.strct false [],0,0,[],none⟩
def r151:TR:=⟨.strct false [(0,149),(1,150)],2,32,[.nilp,.nils],none⟩
def r163:TR:=⟨.strct true [(0,3),(1,3),(2,3),(3,3)],4,32,[.int .i64 0,.int .i64 0,.int .i64 0,.int .i64 0],none⟩
def r225:TR:=⟨.strct true [(0,5),(1,5)],2,2,[.int .u8 0,.int .u8 0],none⟩
def r243:TR:=⟨.strct false [(0,9),(1,9),(2,155)],3,48,[.str [],.str [],.nilif],none⟩
def r258:TR:=⟨.strct true [(0,9)],1,16,[.str []],none⟩
def r272:TR:=⟨.strct false [(0,17),(1,17),(2,17),(3,9)],4,40,[.nilp,.nilp,.nilp,.str []],none⟩
def r283:TR:=⟨.strct false [(0,12),(1,12),(2,239),(3,278),(4,5),(5,5),(6,279),(7,280),(8,198),(9,281),(10,282)],11,48,[.int .u64 0,.int .u64 0,.int .u32 0,.int .u8 0,.int .u8 0,.int .u8 0,.int .u8 0,.undef,.nilp,.int .i32 0,.int .i32 0],none⟩
def tbl:List (Nat × TR):=[(1,r1),
 (2,r2),
 (3,r2),
 (4,⟨.bool,1,1,[.bool false],some .bool⟩),
 (5,r5),
 (6,r5),
 (7,r7),
 (8,r7),
 (9,r9),
 (10,r9),
 (11,r9),
 (12,r12),
 (13,r13),
 (14,r13),
 (15,⟨.ptr 273,1,8,[.nilp],none⟩),
 (16,⟨.ptr 276,1,8,[.nilp],none⟩),
 (17,⟨.ptr 284,1,8,[.nilp],none⟩),
 (18,r18),
 (19,r18),
 (20,r20),
 (21,r21),
 (22,⟨.slice 56,1,24,[.nils],some (.lst (.st .token))⟩),
 (23,r1),
 (24,r1),
 (25,⟨.slice 9,1,24,[.nils],some (.lst .str)⟩),
 (26,⟨.slice 28,1,24,[.nils],some (.lst (.st .shape))⟩),
 (27,⟨.strct false [(0,3),(1,9),(2,9),(3,25),(4,26)],5,88,[.int .i64 0,.str [],.str [],.nils,.nils],none⟩),
 (28,⟨.strct false [(0,3),(1,9),(2,9),(3,25),(4,26)],5,88,[.int .i64 0,.str [],.str [],.nils,.nils],some (.st .shape)⟩),
 (29,r2),
 (30,⟨.strct true [(0,29),(1,3)],2,16,[.int .i64 0,.int .i64 0],none⟩),
 (31,⟨.strct true [(0,29),(1,3)],2,16,[.int .i64 0,.int .i64 0],some (.st .fault)⟩),
 (33,r1),
 (34,r1),
 (35,r1),
 (36,⟨.slice 38,1,24,[.nils],some (.lst (.st .term))⟩),
 (37,⟨.strct false [(0,3),(1,9),(2,9),(3,3),(4,25),(5,25),(6,26),(7,36),(8,3)],9,152,[.int .i64 0,.str [],.str [],.int .i64 0,.nils,.nils,.nils,.nils,.int .i64 0],none⟩),
 (38,⟨.strct false [(0,3),(1,9),(2,9),(3,3),(4,25),(5,25),(6,26),(7,36),(8,3)],9,152,[.int .i64 0,.str [],.str [],.int .i64 0,.nils,.nils,.nils,.nils,.int .i64 0],some (.st .term)⟩),
 (40,r1),
 (41,r1),
 (43,r1),
 (45,r1),
 (46,r1),
 (48,r1),
 (49,r1),
 (50,r1),
 (52,r1),
 (53,r1),
 (54,r1),
 (55,⟨.strct true [(0,3),(1,9),(2,3)],3,32,[.int .i64 0,.str [],.int .i64 0],none⟩),
 (56,⟨.strct true [(0,3),(1,9),(2,3)],3,32,[.int .i64 0,.str [],.int .i64 0],some (.st .token)⟩),
 (57,⟨.ptr 62,1,8,[.nilp],none⟩),
 (58,r1),
 (59,⟨.strct false [(0,22),(1,3),(2,31)],4,48,[.nils,.int .i64 0,.int .i64 0,.int .i64 0],none⟩),
 (60,⟨.strct false [(0,22),(1,3),(2,31)],4,48,[.nils,.int .i64 0,.int .i64 0,.int .i64 0],some (.st .par)⟩),
 (61,⟨.strct false [(0,60)],4,48,[.nils,.int .i64 0,.int .i64 0,.int .i64 0],none⟩),
 (62,⟨.strct false [(0,60)],4,48,[.nils,.int .i64 0,.int .i64 0,.int .i64 0],some (.st .par)⟩),
 (63,r1),
 (65,r1),
 (66,r1),
 (67,r1),
 (68,r1),
 (69,r1),
 (70,r1),
 (71,r1),
 (72,r1),
 (74,r1),
 (75,r1),
 (76,r1),
 (77,r1),
 (78,r1),
 (79,r1),
 (80,r1),
 (81,r1),
 (82,⟨.ptr 60,1,8,[.nilp],none⟩),
 (83,r1),
 (84,r1),
 (85,r1),
 (86,r1),
 (87,r1),
 (89,r1),
 (90,r1),
 (91,r1),
 (93,r1),
 (94,r1),
 (95,r1),
 (96,r1),
 (97,r1),
 (98,r1),
 (99,⟨.ptr 103,1,8,[.nilp],none⟩),
 (100,r100),
 (101,r100),
 (102,r102),
 (103,r102),
 (104,r1),
 (105,r1),
 (106,r1),
 (107,r1),
 (108,r1),
 (110,r1),
 (111,r1),
 (112,r1),
 (114,r1),
 (115,r1),
 (116,r1),
 (117,r1),
 (118,r1),
 (119,r1),
 (120,r1),
 (121,r1),
 (122,r1),
 (123,r1),
 (124,r1),
 (125,r1),
 (126,r1),
 (127,r1),
 (128,⟨.ptr 101,1,8,[.nilp],none⟩),
 (129,⟨.slice 3,1,24,[.nils],some (.lst (.int .i64))⟩),
 (131,r1),
 (132,r1),
 (133,r1),
 (134,r1),
 (135,⟨.strct true [(0,3),(1,3),(2,3),(3,9)],4,40,[.int .i64 0,.int .i64 0,.int .i64 0,.str []],none⟩),
 (136,⟨.strct true [(0,3),(1,3),(2,3),(3,9)],4,40,[.int .i64 0,.int .i64 0,.int .i64 0,.str []],some (.st .version)⟩),
 (138,r1),
 (140,r1),
 (141,r1),
 (142,r1),
 (144,r1),
 (145,r145),
 (146,r145),
 (148,r1),
 (149,⟨.ptr 152,1,8,[.nilp],none⟩),
 (150,⟨.slice 5,1,24,[.nils],some (.lst (.int .u8))⟩),
 (151,r151),
 (152,r151),
 (153,r1),
 (154,r20),
 (155,r20),
 (157,r1),
 (158,r1),
 (159,r1),
 (160,r1),
 (161,r1),
 (162,r1),
 (163,r163),
 (164,r163),
 (165,r1),
 (166,r1),
 (167,r1),
 (168,r1),
 (169,r1),
 (170,r1),
 (171,r1),
 (172,r1),
 (174,r1),
 (175,r1),
 (176,r1),
 (180,r1),
 (181,r1),
 (182,⟨.ptr 178,1,8,[.nilp],none⟩),
 (184,r1),
 (185,r1),
 (186,⟨.arr 3 3,3,24,[.int .i64 0,.int .i64 0,.int .i64 0],none⟩),
 (187,r1),
 (188,r1),
 (189,r1),
 (190,r1),
 (191,r1),
 (193,r1),
 (194,r1),
 (195,r1),
 (196,r1),
 (197,r1),
 (198,⟨.ptr 5,1,8,[.nilp],none⟩),
 (199,r1),
 (200,r1),
 (201,r1),
 (202,r1),
 (203,r1),
 (204,r1),
 (205,r1),
 (206,r1),
 (208,r1),
 (209,r1),
 (211,r12),
 (212,r1),
 (213,r1),
 (215,r1),
 (216,r2),
 (218,r1),
 (219,⟨.ptr 244,1,8,[.nilp],none⟩),
 (220,r1),
 (221,r1),
 (222,r1),
 (223,r1),
 (225,r225),
 (226,r225),
 (228,r12),
 (229,r1),
 (230,r1),
 (231,r1),
 (232,r1),
 (233,r1),
 (234,r1),
 (235,r1),
 (236,r1),
 (237,r1),
 (239,⟨.int .u32,1,4,[.int .u32 0],some (.int .u32)⟩),
 (242,r1),
 (243,r243),
 (244,r243),
 (245,r1),
 (246,r1),
 (247,r1),
 (248,r2),
 (250,r1),
 (251,r1),
 (252,r1),
 (254,r1),
 (255,r1),
 (256,r1),
 (257,⟨.ptr 259,1,8,[.nilp],none⟩),
 (258,r258),
 (259,r258),
 (261,r1),
 (262,r12),
 (263,r1),
 (264,r1),
 (265,r1),
 (266,⟨.ptr 3,1,8,[.nilp],none⟩),
 (267,r1),
 (270,⟨.ptr 262,1,8,[.nilp],none⟩),
 (271,r1),
 (272,r272),
 (273,r272),
 (277,r1),
 (278,r5),
 (279,r5),
 (280,r1),
 (281,r21),
 (282,r21),
 (283,r283),
 (284,r283)]
theorem tk {t:Nat} {r:TR} (h1:(Tryz.prog.info? t).map (fun i=>(i.size,i.bytes,i.zero.map fun z=>z.cells.toList.map ct))=some (r.size,r.bytes,some r.zero):=by kernel_rfl)
  (h2:(Tryz.prog.underlying t).map (aZ Tryz.prog r.ti)=some true:=by kernel_rfl)
  (h3:(gu r.zero r.size && (Nat.beq r.size 0 || Nat.blt 0 r.bytes) && (match r.ty with | some τ=>Nat.beq (ac τ) r.size && (EY τ ==r.isAgg) | none=>true))=true:=by kernel_rfl)
  (h8:(Tryz.prog.info? t).map (fun i=>i.zero.map fun z=>xo z ==r.isAgg)=some (some true):=by kernel_rfl)
  (h9:(match r.ti with | .strct true _=>!Tryz.prog.stoodInHeld t && !Tryz.prog.eqGuardType Tryz.prog.depth t | _=>true)=true:=by kernel_rfl):TRok Tryz.prog t r:=TRok.mk' h1 h2 h3 h8 h9
theorem DF:bH Tryz.prog tbl:=
 .cons tk (.cons tk (.cons tk (.cons tk (.cons tk (.cons tk (.cons tk (.cons tk (.cons tk (.cons tk (.cons tk (.cons tk (.cons tk (.cons tk (.cons tk (.cons tk (.cons tk (.cons tk (.cons tk (.cons tk (.cons tk (.cons tk (.cons tk (.cons tk (.cons tk (.cons tk (.cons tk (.cons tk (.cons tk (.cons tk (.cons tk (.cons tk (.cons tk (.cons tk (.cons tk (.cons tk (.cons tk (.cons tk (.cons tk (.cons tk (.cons tk (.cons tk (.cons tk (.cons tk (.cons tk (.cons tk (.cons tk (.cons tk (.cons tk (.cons tk (.cons tk (.cons tk (.cons tk (.cons tk (.cons tk (.cons tk (.cons tk (.cons tk (.cons tk (.cons tk (.cons tk (.cons tk (.cons tk (.cons tk (.cons tk (.cons tk (.cons tk (.cons tk (.cons tk (.cons tk (.cons tk (.cons tk (.cons tk (.cons tk (.cons tk (.cons tk (.cons tk (.cons tk (.cons tk (.cons tk (.cons tk (.cons tk (.cons tk (.cons tk (.cons tk (.cons tk (.cons tk (.cons tk (.cons tk (.cons tk (.cons tk (.cons tk (.cons tk (.cons tk (.cons tk (.cons tk (.cons tk (.cons tk (.cons tk (.cons tk (.cons tk (.cons tk (.cons tk (.cons tk (.cons tk (.cons tk (.cons tk (.cons tk (.cons tk (.cons tk (.cons tk (.cons tk (.cons tk (.cons tk (.cons tk (.cons tk (.cons tk (.cons tk (.cons tk (.cons tk (.cons tk (.cons tk (.cons tk (.cons tk (.cons tk (.cons tk (.cons tk (.cons tk (.cons tk (.cons tk (.cons tk (.cons tk (.cons tk (.cons tk (.cons tk (.cons tk (.cons tk (.cons tk (.cons tk (.cons tk (.cons tk (.cons tk (.cons tk (.cons tk (.cons tk (.cons tk (.cons tk (.cons tk (.cons tk (.cons tk (.cons tk (.cons tk (.cons tk (.cons tk (.cons tk (.cons tk (.cons tk (.cons tk (.cons tk (.cons tk (.cons tk (.cons tk (.cons tk (.cons tk (.cons tk (.cons tk (.cons tk (.cons tk (.cons tk (.cons tk (.cons tk (.cons tk (.cons tk (.cons tk (.cons tk (.cons tk (.cons tk (.cons tk (.cons tk (.cons tk (.cons tk (.cons tk (.cons tk (.cons tk (.cons tk (.cons tk (.cons tk (.cons tk (.cons tk (.cons tk (.cons tk (.cons tk (.cons tk (.cons tk (.cons tk (.cons tk (.cons tk (.cons tk (.cons tk (.cons tk (.cons tk (.cons tk (.cons tk (.cons tk (.cons tk (.cons tk (.cons tk (.cons tk (.cons tk (.cons tk (.cons tk (.cons tk (.cons tk (.cons tk (.cons tk (.cons tk (.cons tk (.cons tk (.cons tk (.cons tk (.cons tk (.cons tk (.cons tk (.cons tk (.cons tk (.cons tk (.cons tk (.cons tk (.cons tk (.cons tk (.cons tk (.cons tk (.cons tk (.cons tk (.cons tk (.cons tk (.cons tk (.cons tk (.cons tk (.cons tk (.cons tk (.cons tk (.cons tk (.nil)))))))))))))))))))))))))))))))))))))))))))))))))))))))))))))))))))))))))))))))))))))))))))))))))))))))))))))))))))))))))))))))))))))))))))))))))))))))))))))))))))))))))))))))))))))))))))))))))))))))))))))))))))))))))))))))))))))))))))))))))))
theorem mixed:Tryz.prog.follows .mixedOrders=true:=by kernel_rfl
end Go.AL.Seat
end
section
namespace Go.AL
variable [Tabs]
def GI:AV→Bool
 | .ptr k 0=>cD k
 | _=>false
def ptrIn (ks:List Nat):AV→Bool
 | .ptr k _=>ks.contains k
 | _=>false
def Fv (ks:List Nat) (t:List (Nat × AV)):List (Nat × AV):=t.map fun x=>(x.1,if ptrIn ks x.2 then x.2 else .undef)
structure RC where
 r0:Code
 rest:Code
 crest:Code
 t5:Nat
 caps:List Operand
 t6:Nat
 t3:Nat
def GJ (g:Nat) (c cc:Code):Option RC:=
 match c,cc with
 | .seq r0 (.seq (.region _ o1 false) rest),.seq (.region _ o2 false) crest=>
  match o1.toList,o2.toList with
  | [⟨some t5,.makeFunc (.func g') fst caps,_,_,_,none⟩,⟨none,.defer ⟨.value (.tmp t5'),asx,_⟩,_,_,_,none⟩],
   [⟨some t6,.call ⟨.builtin .recover,as2,_⟩,_,_,_,none⟩,⟨some t3,.assign (.tmp t6'),_,_,_,none⟩]=>
   if Nat.beq g' g && Nat.beq t5' t5 && Nat.beq t6' t6 && fst.isEmpty && asx.isEmpty && as2.isEmpty then some ⟨r0,rest,crest,t5,caps.toList,t6,t3⟩ else none
  | _,_=>none
 | _,_=>none
def DG (C:Cfg) (rs:List ResultVar) (L:List dQ) (s1:St) (S1:List (Nat × SObj)) (S:List (Nat × SObj)) (A:Ans) (t2:List (Nat × AV)) (s3:St):Prop:=
 match bX (am s3.b) && (am S1).all (fun k=>(am s3.b).contains k) with
 | true=>
  match mK C.tbl ⟨Fv (am S1) t2,s3.b⟩ rs with
  | some l=>
   (match kb (ax s1.b) L 998 (gN S1 s3.b),mapVs (oj L 998) (gM L 998) (gM L 998) l with
   | some u',some l'=>gO ⟨[],putB s1.b u'⟩ fun s4=>rX (some l') s4 A.val (putB S A.upd)
   | _,_=>False)
  | none=>False
 | false=>False
def vT (C:Cfg) (annC:An) (clo:Func) (R:RC) (caps:List AV) (v:AV) (s2:St) (fin:St→Prop):Prop:=
 iM (List.range clo.ntmps) fun keep=>gO ⟨pC (eJ 0 caps) R.t3 v,s2.b⟩ fun s=>swp C keep annC R.crest s fun
  | .exit _,_=>False
  | .pan _,_=>False
  | _,s3=>fin s3
def fwpR (C:Cfg) (ann annC:An) (fn:Func) (g:Nat) (clo:Func) (args:List AV) (S:List (Nat × SObj)) (A:Ans):Prop:=
 match fn.body,clo.body,A.pan with
 | some c,some cc,none=>
  match GJ g c cc with
  | none=>False
  | some R=>
   match cY fn.ntmps c && cY clo.ntmps cc && Nat.blt R.t5 fn.ntmps && mF args fn.ntmps && (am S).all cD && clo.results.isEmpty && mF R.caps clo.ntmps && mF R.caps R.t6 with
   | false=>False
   | true=>iM ((List.range fn.ntmps)) fun keep=>gO ⟨eJ 0 args,S⟩ fun i=>swp C keep ann R.r0 i fun
    | .normal,s1=>
     (match (am s1.b).map (fun i=>(i,(none:Option (Nat × Nat)))) with
     | L=>
      (match bX (L.map (·.1)) && Nat.ble L.length 100,mapVs (toP L) (toI L) (toI L) ((List.range fn.ntmps).map (bD s1.t)),mapVs (toP L) (toI L) (toI L) (R.caps.map (opd (bD s1.t))),mH (ax s1.b) L L 900 with
      | true,some as1,some caps,some S1=>
       (match caps.all GI with
       | true=>gO ⟨pC (eJ 0 as1) R.t5 .undef,S1⟩ fun i=>swp C keep ann R.rest i fun
        | .exit _,_=>False
        | .pan v,s2=>vT C annC clo R caps v s2 (DG C fn.results.toList L s1 S1 S A s2.t)
        | _,s2=>vT C annC clo R caps .nilif s2 (DG C fn.results.toList L s1 S1 S A s2.t)
       | false=>False)
      | _,_,_,_=>False))
    | _,_=>False
 | _,_,_=>False
theorem sq:∀(u S:List (Nat × SObj)) (i:Nat),bX (u.map (·.1))=true→ax (putB S u) i=(ax u i).or (ax S i)
 | [],S,i,_=>by simp [putB,ax]
 | (j,o) ::r,S,i,h=>by
  simp only [List.map_cons,bX,Bool.and_eq_true,Bool.not_eq_true'] at h
  simp only [putB]
  rw [sq r _ i h.2,ic]
  simp only [ax]
  by_cases e:j=i
  ·subst e
   have:ax r j=none:=by
    cases hb:ax r j with
    | none=>rfl
    | some o'=>
     have:=dN r j o' hb
     have h1:=h.1
     simp only [List.contains_eq_mem,decide_eq_false_iff_not,List.mem_map,not_exists,not_and] at h1
     exact absurd rfl (h1 _ this)
   simp [this]
  ·simp [e]
section
variable {P:Program} {C:Cfg}
theorem V.pinned {e0 e:Nat→Option CObj} {w0 w:World} {p0 p:Nat→Nat→Prop} (hk:∀id c,e0 id=some c→∃c',e id=some c'/\CLe c c') {a:AV} {v:Value} (ha:GI a=true) (h:V ⟨e0,w0,p0⟩ a v):V ⟨e,w,p⟩ a v:=by
 cases h with
 | ptr i o b q len he=>
  obtain ⟨c',h1,h2⟩:=hk i _ he
  have:=h2.box
  subst this
  exact .ptr i o b q len h1
 | _=>simp [GI] at ha
theorem Holds.retmp' {F:Fr} {s:AS} {a a':Act} {Ω:Om} (h:Holds F s a Ω) {n:Nat} {ds:List Deferred} {T:Nat→AV} (hT:∀i,V Ω (T i) (a'.tmps.getD i undef)) (hs:a'.tmps.size=n) (hd:a'.defers=ds) :
  Holds ⟨F.w0,F.pub0,n,F.e0,F.dom0,ds,F.tab0⟩ ⟨T,s.B⟩ a' Ω:=
 ⟨hT,hs,hd,h.slots,h.dom,h.inj,h.pubok,h.keep,⟨h.frame.os,h.frame.tape,h.frame.output,h.frame.size,h.frame.block,h.frame.cell,h.frame.kind,h.frame.pub,h.frame.old,h.frame.pcell⟩⟩
inductive Rcv:FrameMode→AV→Om→Value→FrameMode→Prop
 | ret (Ω:Om):Rcv .returning .nilif Ω .nilIface .returning
 | pan (Ω:Om) (a:AV) (v:Value):V Ω a v→Rcv (.panicking [{v,recovered:=false}]) a Ω v (.panicking [{v,recovered:=true}])
structure RCcode (g:Nat) (R:RC) (c cc:Code):Prop where
 code:∃i1 i2 ty1 ps1 af1 ty2 ps2 af2 ts2 ty3 ps3 af3 ts3 ty4 ps4 af4,
  c=.seq R.r0 (.seq (.region i1 #[⟨some R.t5,.makeFunc (.func g) #[] R.caps.toArray,ty1,ps1,af1,none⟩,⟨none,.defer ⟨.value (.tmp R.t5),#[],ts2⟩,ty2,ps2,af2,none⟩] false) R.rest)/\
  cc=.seq (.region i2 #[⟨some R.t6,.call ⟨.builtin .recover,#[],ts3⟩,ty3,ps3,af3,none⟩,⟨some R.t3,.assign (.tmp R.t6),ty4,ps4,af4,none⟩] false) R.crest
theorem DH {g:Nat} {c cc:Code} {R:RC} (h:GJ g c cc=some R):RCcode g R c cc:=by
 unfold GJ at h
 split at h
 ·rename_i r0 i1 o1 rest i2 o2 crest
  split at h
  ·rename_i h1 h2
   split at h
   ·rename_i hc
    simp only [Bool.and_eq_true,Nat.beq_eq,Array.isEmpty_iff] at hc
    obtain ⟨⟨⟨⟨⟨rfl,rfl⟩,rfl⟩,rfl⟩,rfl⟩,rfl⟩:=hc
    simp only [Xs] at h
    subst h
    have e1:=congrArg List.toArray h1
    have e2:=congrArg List.toArray h2
    simp only [Array.toArray_toList] at e1 e2
    subst e1 e2
    exact ⟨_,_,_,_,_,_,_,_,_,_,_,_,_,_,_,_,rfl,rfl⟩
   ·cases h
  ·cases h
 ·cases h
theorem oK {ts:Array Nat} {d:Option Nat} {ty:Nat} {ps:String} {af:Array Edge} {ρ:Operand→Value} {w:World} :
  (execOp ρ ⟨d,.call ⟨.builtin .recover,#[],ts⟩,ty,ps,af,none⟩).run P w=.ok .recover w:=by
 simp [execOp,resolve,invoke,builtin]
theorem y5 (hm:P.follows .mixedOrders=true) (hT:bH P C.tbl) (hS:dG P C.spec) {g:Nat} {clo:Func} {c cc:Code} {R:RC} (hR:RCcode g R c cc) (hg:P.funcs[g]?=some clo) (hb:clo.body=some cc)
  (hd:cY clo.ntmps cc=true) (hres:clo.results=#[]) {caps:List AV} (hcl:caps.length<=clo.ntmps) (hc6:caps.length<=R.t6) {F:Fr} {s2:St} {a2:Act} {Ω2:Om} (h:Holds F s2.abs a2 Ω2) {vs:List Value} (hv:VL Ω2 caps vs)
  {u u':FrameMode} {av:AV} {v:Value} (hrc:Rcv u av Ω2 v u') {annC:An} {fin:St→Prop} (hc:vT C annC clo R caps av s2 fin) :
  CallsD P g vs.toArray u Ω2.w fun en u2 w'=>u2=u'/\en=.returned (.tuple #[])/\∃s3 Ω3 a3 T,Ω3.w=w'/\fin s3/\Holds ⟨F.w0,F.pub0,clo.ntmps,F.e0,F.dom0,[],F.tab0⟩ ⟨T,ax s3.b⟩ a3 Ω3:=by
 obtain ⟨i1,i2,ty1,ps1,af1,ty2,ps2,af2,ts2,ty3,ps3,af3,ts3,ty4,ps4,af4,_,rfl⟩:=hR
 refine callsD_of_wpS hg hb (fun c₀ cs hu=>?_)
 apply wpS_seq
 apply wpS_region
 simp only [cY,Bool.and_eq_true,List.all_cons,List.all_nil,Bool.and_true,Nat.blt_eq] at hd
 obtain ⟨⟨hd6,hd3⟩,hdc⟩:=hd
 have hvs:vs.length<=clo.ntmps:=by rw [←hv.1];exact hcl
 have hbase:Holds ⟨F.w0,F.pub0,clo.ntmps,F.e0,F.dom0,[],F.tab0⟩ ⟨bD (eJ 0 caps),ax s2.b⟩ {tmps:=vs.toArray++Array.replicate (clo.ntmps - vs.toArray.size) undef,defers:=[]} Ω2:=
  h.retmp' (fun i=>ji _ hv i) (by simp;omega) rfl
 have key:∃cs',(∃c1,cs'=c1 ::cs/\c1={c₀ with mode:=u'})/\∀Q':Exit→Act→List Frame→World→Prop,Q' .normal (({tmps:=vs.toArray++Array.replicate (clo.ntmps - vs.toArray.size) undef,defers:=[]}:Act).put (some R.t6) v |>.put (some R.t3) v) cs' Ω2.w→
   wpOpsS P #[⟨some R.t6,.call ⟨.builtin .recover,#[],ts3⟩,ty3,ps3,af3,none⟩,⟨some R.t3,.assign (.tmp R.t6),ty4,ps4,af4,none⟩] Q' [0,1] {tmps:=vs.toArray++Array.replicate (clo.ntmps - vs.toArray.size) undef,defers:=[]} (c₀ ::cs) Ω2.w:=by
  have two:∀(cs':List Frame) (Q':Exit→Act→List Frame→World→Prop),Q' .normal (({tmps:=vs.toArray++Array.replicate (clo.ntmps - vs.toArray.size) undef,defers:=[]}:Act).put (some R.t6) v |>.put (some R.t3) v) cs' Ω2.w→
    wpOpsS P #[⟨some R.t6,.call ⟨.builtin .recover,#[],ts3⟩,ty3,ps3,af3,none⟩,⟨some R.t3,.assign (.tmp R.t6),ty4,ps4,af4,none⟩] Q' [1] (({tmps:=vs.toArray++Array.replicate (clo.ntmps - vs.toArray.size) undef,defers:=[]}:Act).put (some R.t6) v) cs' Ω2.w:=by
   intro cs' Q' hq
   have he:(({tmps:=vs.toArray++Array.replicate (clo.ntmps - vs.toArray.size) undef,defers:=[]}:Act).put (some R.t6) v).eval (.tmp R.t6)=v:=by
    show (Act.put _ (some R.t6) v).tmps.getD R.t6 undef=v
    rw [cZ hbase.size hd6,if_pos rfl]
   unfold wpOpsS
   simp only [List.getElem?_toArray,List.getElem?_cons_succ,List.getElem?_cons_zero,Region.wanted,if_true]
   have hr:(execOp (({tmps:=vs.toArray++Array.replicate (clo.ntmps - vs.toArray.size) undef,defers:=[]}:Act).put (some R.t6) v).eval ⟨some R.t3,.assign (.tmp R.t6),ty4,ps4,af4,none⟩).run P Ω2.w=.ok (.value v) Ω2.w:=by
    show (pure (Next.value (Act.eval _ (.tmp R.t6))):Sem Next).run P Ω2.w=_
    rw [he]
    rfl
   rw [hr]
   simp only [Oper.upon]
   exact hq
  cases hrc with
  | ret=>
   refine ⟨_,⟨c₀,rfl,by cases c₀;simp only at hu;subst hu;rfl⟩,fun Q' hq=>?_⟩
   unfold wpOpsS
   simp only [List.getElem?_toArray,List.getElem?_cons_zero,Region.wanted,if_true]
   rw [oK]
   simp only [recoverD,hu]
   exact two _ Q' hq
  | pan _ _ hv'=>
   refine ⟨_,⟨_,rfl,rfl⟩,fun Q' hq=>?_⟩
   unfold wpOpsS
   simp only [List.getElem?_toArray,List.getElem?_cons_zero,Region.wanted,if_true]
   rw [oK]
   simp only [recoverD,hu]
   exact two _ Q' hq
 obtain ⟨cs',⟨c1,rfl,hc1⟩,key⟩:=key
 refine key _ ?_
 refine wpS_of_wp ?_
 unfold vT at hc
 rw [iz,eB] at hc
 have hav:V Ω2 av v:=by
  cases hrc <;> first | exact .nilif | assumption
 have h1:=(hbase.pure (dst:=some R.t6) (val:=.undef) (v:=v) (.undef v) (fun d e=>by cases e;exact hd6)).pure (dst:=some R.t3) (val:=av) (v:=v) hav (fun d e=>by cases e;exact hd3)
 have h2:Holds ⟨F.w0,F.pub0,clo.ntmps,F.e0,F.dom0,[],F.tab0⟩ (St.abs ⟨pC (eJ 0 caps) R.t3 av,s2.b⟩) _ Ω2:=h1.weak (s':=St.abs ⟨pC (eJ 0 caps) R.t3 av,s2.b⟩) (fun i=>by
  simp only [St.abs,jg,cE]
  by_cases e3:R.t3=i
  ·right;simp [e3]
  ·by_cases e6:R.t6=i
   ·left
    subst e6
    rw [if_neg e3,jh,if_pos (Nat.zero_le _),Nat.sub_zero]
    simp [List.getD_eq_getElem?_getD,List.getElem?_eq_none hc6]
   ·right;simp [e3,e6]) rfl
 refine wp_mono (lh hm hT hS _ annC R.crest _ _ _ Ω2 hc hdc h2) ?_
 intro e a' w' hq
 obtain ⟨z,s3,Ω3,q1,q2,q3,q4⟩:=hq
 have fin3:fin s3→bodyPostS P clo c₀ cs (fun en u2 w'=>u2=u'/\en=.returned (.tuple #[])/\∃s3 Ω3 a3 T,Ω3.w=w'/\fin s3/\Holds ⟨F.w0,F.pub0,clo.ntmps,F.e0,F.dom0,[],F.tab0⟩ ⟨T,ax s3.b⟩ a3 Ω3) .ret a' (c1 ::cs) w':=by
  intro hf
  refine ⟨q3.defers,u',by rw [hc1],.tuple #[],by simp [results,hres],rfl,rfl,s3,Ω3,a',_,q2,hf,q3⟩
 cases z with
 | normal=>cases q1;exact fin3 q4
 | ret=>cases q1;exact fin3 q4
 | exit id=>exact q4.elim
 | pan v=>exact q4.elim
theorem B9 {w:World} {pub:Nat→Nat→Prop} {e:Nat→Option CObj} {n:Nat} {hl:∀id c,e id=some c→cD id=true} {ds:List Deferred} {ht:iY w pub} {T:Nat→AV} {t:List (Nat × AV)} {b b':List (Nat × SObj)} {a:Act} {Ω:Om} {l:List AV} {us:List Value} {val:AV}
  (hh:Holds ⟨w,pub,n,e,hl,ds,ht⟩ ⟨T,ax b⟩ a Ω) (k2:VL Ω l us) (hend:rX (some l) ⟨t,b⟩ val b') :
  ∃pub' e',V ⟨e',Ω.w,pub'⟩ val (if h:us.toArray.size=1 then us.toArray[0] else .tuple us.toArray)/\After w pub e (ax b') Ω.w pub' e':=by
 unfold rX at hend
 split at hend
 ·rename_i x hres
  cases hres
  obtain ⟨u,rfl⟩:=mX (by rw [←k2.1];rfl)
  have h1:=hh.retmp' (T:=bD (eJ 0 [x])) (a':={tmps:=[u].toArray++Array.replicate 0 undef,defers:=[]}) (n:=1) (ds:=[]) (fun i=>ji 0 k2 i) (by simp) rfl
  obtain ⟨Ω2,e2,hh2⟩:=eG (s:=⟨[(0,x)],b⟩) h1 (gS hend)
  refine ⟨Ω2.pub,Ω2.e,?_,?_⟩
  ·have:=hh2.tmps 0
   rw [←e2]
   exact this
  ·rw [←e2]
   exact jj hh2
 ·rename_i l' hne hres
  cases hres
  split at hend
  ·rename_i rs
   split at hend
   ·rename_i hln
    have hl2:=cn _ _ hln
    have h1:=hh.retmp' (T:=bD (eJ 0 l)) (a':={tmps:=us.toArray++Array.replicate 0 undef,defers:=[]}) (n:=us.length) (ds:=[]) (fun i=>ji 0 k2 i) (by simp) rfl
    obtain ⟨Ω2,e2,hh2⟩:=eG (s:=⟨eJ 0 l,b⟩) h1 (gS hend)
    have hsz:¬us.toArray.size=1:=by
     intro h1
     obtain ⟨x,hx⟩:=mX (l:=l) (by rw [k2.1];simpa using h1)
     exact hne x hx
    rw [dif_neg hsz]
    refine ⟨Ω2.pub,Ω2.e,?_,?_⟩
    ·refine .tup rs us (by rw [←k2.1,←hl2]) (fun j c v hc hv=>?_)
     have:=hh2.tmps j
     simp only [St.abs,jh,Nat.zero_le,if_true,Nat.sub_zero,List.getD_eq_getElem?_getD,hc,Option.getD_some] at this
     have e3:(us.toArray++Array.replicate 0 undef).getD j undef=v:=by
      simp [Array.getD_eq_getD_getElem?,hv]
     rw [e3] at this
     rw [←e2]
     exact this
    ·rw [←e2]
     exact jj hh2
   ·exact hend.elim
  ·exact hend.elim
 ·rename_i h;cases h
theorem CLe.to_box {c:CObj} {b o l:Nat} (h:CLe c (.box b o l)):c=.box b o l:=by
 cases c <;> simp [CLe] at h
 obtain ⟨rfl,rfl,rfl⟩:=h
 rfl
theorem V.ptrIn {F:Fr} {Ω2 Ω3:Om} {ks:List Nat} (h2:∀id c,F.e0 id=some c→∃c',Ω2.e id=some c'/\CLe c c') (h3:∀id c,F.e0 id=some c→∃c',Ω3.e id=some c'/\CLe c c')
  (hk:∀k∈ks,∃c,F.e0 k=some c) {a:AV} {v:Value} (h:V Ω2 a v):V Ω3 (if AL.ptrIn ks a=true then a else .undef) v:=by
 split
 ·rename_i hp
  cases h with
  | ptr i o b q len he=>
   simp only [AL.ptrIn,List.contains_eq_mem,decide_eq_true_eq] at hp
   obtain ⟨c,hc⟩:=hk i hp
   obtain ⟨c2,e2,l2⟩:=h2 i c hc
   rw [he] at e2
   cases e2
   have:=l2.to_box
   subst this
   obtain ⟨c3,e3,l3⟩:=h3 i _ hc
   have:=l3.box
   subst this
   exact .ptr i o b q len e3
  | _=>simp [AL.ptrIn] at hp
 ·exact .undef v
theorem Ba (hT:bH P C.tbl) {w:World} {pub:Nat→Nat→Prop} {e:Nat→Option CObj} {n n1:Nat} {hl:∀id c,e id=some c→cD id=true} {ht:iY w pub} {s1:St} {a1:Act} {Ω1:Om} {ht1:iY Ω1.w Ω1.pub} (h3:Holds ⟨w,pub,n,e,hl,[],ht⟩ s1.abs a1 Ω1)
  {L:List dQ} (hdist:bX (L.map (·.1))=true) {S1:List (Nat × SObj)} (hS1:mH (ax s1.b) L L 900=some S1) {hl1:∀id c,dy L Ω1.e id=some c→cD id=true} (hk1:∀k∈am S1,∃c,dy L Ω1.e k=some c)
  {ds:List Deferred} {s2:St} {a2:Act} {Ω2:Om} (q3:Holds ⟨Ω1.w,Ω1.pub,n,dy L Ω1.e,hl1,ds,ht1⟩ s2.abs a2 Ω2) {s3:St} {a3:Act} {Ω3:Om} {T:Nat→AV} (h5:Holds ⟨Ω1.w,Ω1.pub,n1,dy L Ω1.e,hl1,[],ht1⟩ ⟨T,ax s3.b⟩ a3 Ω3)
  {fn:Func} {S:List (Nat × SObj)} {A:Ans} (hpan:A.pan=none) (hf:DG C fn.results.toList L s1 S1 S A s2.t s3) :
  ∃v,(results fn a2.tmps).run P Ω3.w=.ok v Ω3.w/\∃pub' e',(∀b pv u,A.pan=some (b,pv,u)→b=false)/\V ⟨e',Ω3.w,pub'⟩ A.val v/\After w pub e (ax (putB S A.upd)) Ω3.w pub' e':=by
 unfold DG at hf
 split at hf
 ·rename_i hck
  simp only [Bool.and_eq_true,List.all_eq_true] at hck
  obtain ⟨hd3,hin⟩:=hck
  split at hf
  ·rename_i l hres
   split at hf
   ·rename_i u' l' hu' hl'
    rw [eB] at hf
    have hR:Holds ⟨Ω1.w,Ω1.pub,n,dy L Ω1.e,hl1,ds,ht1⟩ (St.abs ⟨Fv (am S1) s2.t,s3.b⟩) a2 Ω3:=by
     have:=h5.retmp' (T:=bD (Fv (am S1) s2.t)) (a':=a2) (n:=n) (ds:=ds) (fun i=>by
      rw [show bD (Fv (am S1) s2.t) i=if ptrIn (am S1) (bD s2.t i)=true then bD s2.t i else .undef from mV (fun x=>if ptrIn (am S1) x=true then x else .undef) (by simp [ptrIn]) s2.t i]
      exact V.ptrIn (F:=⟨Ω1.w,Ω1.pub,n,dy L Ω1.e,hl1,ds,ht1⟩) q3.keep h5.keep hk1 (q3.tmps i)) q3.size q3.defers
     exact this
    obtain ⟨us,k1,k2⟩:=gB hT hR _ _ hres
    have hmap:(results fn a2.tmps).run P Ω3.w=.ok (if h:us.toArray.size=1 then us.toArray[0] else .tuple us.toArray) Ω3.w:=by
     rw [qn,←Array.toArray_toList (xs:=fn.results),List.mapM_toArray]
     simp only [Sem.run_bind,Sem.run_map,k1,Result.andThen_ok,Sem.run_pure]
    have hB:ax (putB S1 s3.b)=ax s3.b:=by
     funext i
     rw [sq _ _ _ hd3]
     cases h:ax s3.b i with
     | some o=>rfl
     | none=>
      cases h':ax S1 i with
      | none=>rfl
      | some o=>
       have:=hin i (List.mem_map.2 ⟨(i,o),dN _ _ _ h',rfl⟩)
       simp only [List.contains_eq_mem,decide_eq_true_eq] at this
       exact absurd this (lf _ _ h)
    have hA:After Ω1.w Ω1.pub (dy L Ω1.e) (ax (putB S1 s3.b)) Ω3.w Ω3.pub Ω3.e:=by
     rw [hB]
     exact jj (h5.retmp' (T:=T) (a':=a3) (n:=n1) (ds:=[]) h5.tmps h5.size h5.defers)
    obtain ⟨Ω',w1,w2,w3⟩:=nK h3 (d:=998) (by omega) hdist hS1 hd3 hu' (val:=.tup l) (val':=.tup l') (by simp only [mapV,hl']) (v:=.tuple us.toArray) (V.of_tup k2) hA
    obtain ⟨us',e1,k3⟩:=w2.tup_inv
    have e2:us=us':=by
     have:=congrArg Array.toList (Value.tuple.inj e1)
     simpa using this
    subst e2
    rw [show s1.abs.B=ax s1.b from rfl,←iy] at w3
    obtain ⟨pub',e',p1,p2⟩:=B9 (T:=s1.abs.T) (b:=putB s1.b u') (t:=[]) w3 k3 hf
    rw [w1] at p1 p2
    exact ⟨_,hmap,pub',e',(fun b pv u h=>by rw [hpan] at h;cases h),p1,p2⟩
   ·exact hf.elim
  ·exact hf.elim
 ·exact hf.elim
theorem fwpR_sound (hm:P.follows .mixedOrders=true) (hT:bH P C.tbl) (hS:dG P C.spec) {ann annC:An} {f g:Nat} {fn clo:Func} (hf:P.funcs[f]?=some fn) (hg:P.funcs[g]?=some clo)
  (eg:∀args w,(callFunc g args).run P w=.ok (.enter g args) w) {args:List AV} {S:List (Nat × SObj)} {A:Ans} (h:fwpR C ann annC fn g clo args S A):ar P f args S A:=by
 intro w pub e vs hp ht hv hs hdom hinj
 unfold fwpR at h
 split at h
 ·rename_i c cc hb hcb hpan
  split at h
  ·exact h.elim
  ·rename_i R hR
   split at h
   ·exact h.elim
   ·rename_i hck
    simp only [Bool.and_eq_true,List.all_eq_true,Array.isEmpty_iff,Nat.blt_eq] at hck
    obtain ⟨⟨⟨⟨⟨⟨⟨hk1,hk2⟩,hk5⟩,hk3⟩,hk4⟩,hres⟩,hcl⟩,hc6⟩:=hck
    have hlen:=fj _ _ hk3
    have hcl:=fj _ _ hcl
    have hc6:=fj _ _ hc6
    rw [iz,eB] at h
    have hlent:∀id c,e id=some c→cD id=true:=by
     intro id c hc
     cases hg:ax S id with
     | none=>rw [hdom id hg] at hc;cases hc
     | some o=>exact hk4 id (List.mem_map.2 ⟨(id,o),dN _ _ _ hg,rfl⟩)
    have hRc:=DH hR
    obtain ⟨i1,i2,ty1,ps1,af1,ty2,ps2,af2,ts2,ty3,ps3,af3,ts3,ty4,ps4,af4,rfl,_⟩:=id hRc
    refine calls_of_wp_defers hf hb ?_
    have hh:=me (n:=fn.ntmps) hp ht hv hlen hs hdom hinj hlent
    have hdr:cY fn.ntmps R.r0=true/\cY fn.ntmps R.rest=true:=by
     simp only [cY,Bool.and_eq_true] at hk1
     exact ⟨hk1.1,hk1.2.2⟩
    refine wp_seq (wp_mono (lh (F:=⟨w,pub,fn.ntmps,e,hlent,[],ht⟩) hm hT hS _ ann R.r0 _ _ _ _ h hdr.1 hh) ?_)
    intro en a1 w1 hq
    obtain ⟨z,s1,Ω1,q1,rfl,h3,h4⟩:=hq
    cases z with
    | exit id=>exact h4.elim
    | ret=>exact h4.elim
    | pan pv=>exact h4.elim
    | normal=>
     cases q1
     simp only at h4
     generalize hLL:(am s1.b).map (fun i=>(i,(none:Option (Nat × Nat))))=L at h4
     split at h4
     ·rename_i as1 caps S1 hdl has hcaps hS1
      simp only [Bool.and_eq_true,Nat.ble_eq] at hdl
      obtain ⟨hdist,hL100⟩:=hdl
      split at h4
      ·rename_i hcp
       rw [eB] at h4
       obtain ⟨k1,k2,k3⟩:=ib L 900 S1 hS1
       refine wp_seq (wp_region ?_)
       show wpOps P _ _ [0,1] a1 Ω1.w
       refine dz (o:=⟨some R.t5,.makeFunc (.func g) #[] R.caps.toArray,ty1,ps1,af1,none⟩) rfl rfl (aH (v:=.func (.func g) #[] (R.caps.toArray.map a1.eval)) (w':=Ω1.w) (by simp [execOp,Instr.makeFunc]) ?_)
       have he5:(a1.put (some R.t5) (.func (.func g) #[] (R.caps.toArray.map a1.eval))).eval (.tmp R.t5)=.func (.func g) #[] (R.caps.toArray.map a1.eval):=by
        show (Act.put a1 (some R.t5) _).tmps.getD R.t5 undef=_
        rw [cZ h3.size hk5,if_pos rfl]
       refine dz (o:=⟨none,.defer ⟨.value (.tmp R.t5),#[],ts2⟩,ty2,ps2,af2,none⟩) rfl rfl ?_
       have hrun:(execOp (a1.put (some R.t5) (.func (.func g) #[] (R.caps.toArray.map a1.eval))).eval ⟨none,.defer ⟨.value (.tmp R.t5),#[],ts2⟩,ty2,ps2,af2,none⟩).run P Ω1.w=.ok (.defer {target:=.fn (.func g) (R.caps.toArray.map a1.eval),args:=#[]}) Ω1.w:=by
        have he5':=he5
        simp only [List.map_toArray] at he5'
        simp [execOp,resolve,he5',Deferred.ofValue]
       unfold Oper.wp
       rw [hrun]
       have hcv:R.caps.toArray.map a1.eval=(R.caps.map a1.eval).toArray:=by simp
       have hdef0:a1.defers=[]:=h3.defers
       have hvl1:VL Ω1 ((List.range fn.ntmps).map (bD s1.t)) a1.tmps.toList:=by
        have hz:a1.tmps.size=fn.ntmps:=h3.size
        refine ⟨by simp;omega,fun j c v hc hv=>?_⟩
        simp only [List.getElem?_map,Option.map_eq_some_iff] at hc
        obtain ⟨q,hq,rfl⟩:=hc
        have hqj:q=j:=by
         have:=List.getElem?_eq_some_iff.1 hq
         obtain ⟨_,e⟩:=this
         simpa using e.symm
        subst hqj
        have:=h3.tmps q
        rw [Array.getElem?_toList] at hv
        simp only [Array.getD_eq_getD_getElem?,hv,Option.getD_some] at this
        exact this
       have hvc1:VL Ω1 (R.caps.map (opd (bD s1.t))) (R.caps.map a1.eval):=by
        refine ⟨by simp,fun j c v hc hv=>?_⟩
        simp only [List.getElem?_map,Option.map_eq_some_iff] at hc hv
        obtain ⟨x,hx,rfl⟩:=hc
        obtain ⟨y,hy,rfl⟩:=hv
        rw [hx] at hy
        cases hy
        exact bC h3 x
       have hvl:=hvl1.mapVs (kz L Ω1.e) has
       have hvc:=hvc1.mapVs (kz L Ω1.e) hcaps
       have hlent1:∀k i r,bj L k=some (i,r)→∃o o',s1.abs.B i=some o/\fP L r o=some o'/\ax S1 k=some o':=by
        intro k i r hk
        obtain ⟨h1,h2⟩:=fo hk
        obtain ⟨o,o',q1,q2,q3⟩:=k2 _ i r h2
        rw [show 900+(k - 900)=k by omega] at q3
        exact ⟨o,o',q1,q2,q3⟩
       have hLs:∀q i r,nth L q=some (i,r)→∃o o',s1.abs.B i=some o/\fP L r o=some o':=fun q i r hq=>let ⟨o,o',q1,q2,_⟩:=k2 q i r hq;⟨o,o',q1,q2⟩
       have hslots:∀id o,ax S1 id=some o→bv ⟨dy L Ω1.e,Ω1.w,Ω1.pub⟩ (fun _ _=>True) id o:=fun id o' ho'=>by
        obtain ⟨q,i,r,o2,e1,e2,e3,e4⟩:=k1 id o' ho'
        subst e1
        exact vd (cR (l9 L i 900 q r hdist e2)) (h3.slots i o2 e3) e4
       have hdom1:∀id,ax S1 id=none→dy L Ω1.e id=none:=fun id hid=>by
        unfold dy
        cases hl:bj L id with
        | none=>rfl
        | some x=>
         obtain ⟨o1,o2,_,_,q3⟩:=hlent1 id x.1 x.2 hl
         rw [hid] at q3
         cases q3
       have hinj1:Inj (dy L Ω1.e):=fun i j c c' b oo hi hj ho1 ho2=>by
        obtain ⟨i1,r1,c1,p1,p2,p3⟩:=kA h3.slots hLs hi
        obtain ⟨i2,r2,c2,p4,p5,p6⟩:=kA h3.slots hLs hj
        have:=h3.inj i1 i2 c1 c2 b oo p2 p5 (p3 b oo ho1) (p6 b oo ho2)
        subst this
        have a1:=dH hdist p1
        have a2:=dH hdist p4
        rw [a1] at a2
        simp at a2
        exact a2.1
       have hpin:∀id c,dy L Ω1.e id=some c→cD id=true:=by
        intro id c hc
        cases hg:ax S1 id with
        | none=>rw [hdom1 id hg] at hc;cases hc
        | some o=>
         have:=k3 (id,o) (dN _ _ _ hg)
         simp only [cD,Bool.and_eq_true,Nat.ble_eq,Nat.blt_eq]
         simp only at this
         omega
       have hkS:∀k∈am S1,∃c,dy L Ω1.e k=some c:=by
        intro k hk
        obtain ⟨x,hx,rfl⟩:=List.mem_map.1 hk
        cases hg:ax S1 x.1 with
        | none=>exact absurd (List.mem_map.2 ⟨x,hx,rfl⟩) (lf _ _ hg)
        | some o=>
         have hso:=hslots x.1 o hg
         cases o with
         | box c=>obtain ⟨_,_,e1,_⟩:=hso;exact ⟨_,e1⟩
         | tail τ n=>obtain ⟨_,_,e1,_⟩:=hso;exact ⟨_,e1⟩
         | map κ τ m=>obtain ⟨_,e1,_⟩:=hso;exact ⟨_,e1⟩
         | bld t u l=>obtain ⟨_,_,e1,_⟩:=hso;exact ⟨_,e1⟩
         | tailp τ n x=>obtain ⟨_,_,e1,_⟩:=hso;exact ⟨_,e1⟩
       have hlen1:as1.length<=fn.ntmps:=by
        have:=hvl.1
        rw [this,Array.length_toList,h3.size]
        exact Nat.le_refl _
       have hi1:=me (n:=fn.ntmps) h3.pubok h3.tabs hvl hlen1 hslots hdom1 hinj1 hpin
       have hi2:=hi1.retmp' (T:=bD (eJ 0 as1)) (a':={tmps:=a1.tmps,defers:=[{target:=.fn (.func g) (R.caps.toArray.map a1.eval),args:=#[]}]}) (n:=fn.ntmps) (ds:=[{target:=.fn (.func g) (R.caps.toArray.map a1.eval),args:=#[]}])
        (fun i=>by
         have:=hi1.tmps i
         have e0:(a1.tmps.toList.toArray++Array.replicate (fn.ntmps - a1.tmps.toList.toArray.size) undef)=a1.tmps:=by
          have hz:a1.tmps.size=fn.ntmps:=h3.size
          apply Array.ext'
          simp [hz]
         rw [e0] at this
         exact this) h3.size rfl
       have hi3:=hi2.pure (dst:=some R.t5) (val:=.undef) (v:=.func (.func g) #[] (R.caps.toArray.map a1.eval)) (.undef _) (fun d e=>by cases e;exact hk5)
       have hi4:=hi3.weak (s':=St.abs ⟨pC (eJ 0 as1) R.t5 .undef,S1⟩) (fun i=>by
        simp only [St.abs,jg,cE]
        by_cases e5:R.t5=i
        ·left;simp [e5]
        ·right;simp [e5]) rfl
       have hact:(({tmps:=a1.tmps,defers:=[{target:=.fn (.func g) (R.caps.toArray.map a1.eval),args:=#[]}]}:Act).put (some R.t5) (.func (.func g) #[] (R.caps.toArray.map a1.eval)))=
         ({(a1.put (some R.t5) (.func (.func g) #[] (R.caps.toArray.map a1.eval))) with defers:={target:=.fn (.func g) (R.caps.toArray.map a1.eval),args:=#[]} ::(a1.put (some R.t5) (.func (.func g) #[] (R.caps.toArray.map a1.eval))).defers}:Act).put none undef:=by
        simp [Act.put,hdef0]
       show Code.wp P R.rest _ (({(a1.put (some R.t5) (.func (.func g) #[] (R.caps.toArray.map a1.eval))) with defers:={target:=.fn (.func g) (R.caps.toArray.map a1.eval),args:=#[]} ::(a1.put (some R.t5) (.func (.func g) #[] (R.caps.toArray.map a1.eval))).defers}:Act).put none undef) Ω1.w
       rw [←hact]
       refine wp_mono (lh hm hT hS _ ann R.rest _ _ _ ⟨dy L Ω1.e,Ω1.w,Ω1.pub⟩ h4 hdr.2 hi4) ?_
       intro en a2 w2 hq
       obtain ⟨z,s2,Ω2,g1,rfl,g3,g4⟩:=hq
       have hcv2:VL Ω2 caps (R.caps.map a1.eval):=by
        refine ⟨hvc.1,fun j c v hc hv=>?_⟩
        exact V.pinned g3.keep (List.all_eq_true.1 hcp c (List.mem_of_getElem? hc)) (hvc.2 j c v hc hv)
       have hcl':caps.length<=clo.ntmps:=by rw [hvc.1,List.length_map];exact hcl
       have hc6':caps.length<=R.t6:=by rw [hvc.1,List.length_map];exact hc6
       have close:∀(u u':FrameMode) (av:AV) (v:Value),u≠.run→settle u'=.returning→Rcv u av Ω2 v u'→vT C annC clo R caps av s2 (DG C fn.results.toList L s1 S1 S A s2.t)→
         Leaves P fn a2.tmps (fun en w'=>∃pub' e',match en with
          | .returned v=>(∀b pv u,A.pan=some (b,pv,u)→b=false)/\V ⟨e',w',pub'⟩ A.val v/\After w pub e (ax (putB S A.upd)) w' pub' e'
          | .panicked ch=>∃pv u v,A.pan=some (true,pv,u)/\ch=[{v,recovered:=false}]/\V ⟨e',w',pub'⟩ pv v/\After w pub e (ax (putB S u)) w' pub' e'
          | .outgrown=>False) [{target:=.fn (.func g) (R.caps.toArray.map a1.eval),args:=#[]}] u Ω2.w:=by
        intro u u' av v hu hse hrc hcr
        refine leaves_cons (f:=g) (args:=(R.caps.map a1.eval).toArray) hu (by simp [invoke,eg]) ?_
        refine (y5 hm hT hS hRc hg hcb hk2 hres hcl' hc6' g3 hcv2 hrc hcr).mono ?_
        rintro en u2 w3 ⟨rfl,rfl,s3,Ω3,a3,T3,rfl,hfin,h5⟩
        simp only [hse,Leaves]
        obtain ⟨v,r1,pub',e',r2,r3,r4⟩:=Ba hT h3 hdist hS1 hkS g3 h5 hpan hfin
        exact ⟨v,r1,pub',e',r2,r3,r4⟩
       have hds:a2.defers=[{target:=.fn (.func g) (R.caps.toArray.map a1.eval),args:=#[]}]:=g3.defers
       cases z with
       | normal=>cases g1;show Leaves P fn a2.tmps _ a2.defers .returning Ω2.w;rw [hds];exact close .returning .returning .nilif .nilIface (by simp) rfl (.ret Ω2) g4
       | ret=>cases g1;show Leaves P fn a2.tmps _ a2.defers .returning Ω2.w;rw [hds];exact close .returning .returning .nilif .nilIface (by simp) rfl (.ret Ω2) g4
       | exit id=>exact g4.elim
       | pan pv=>
        obtain ⟨v,rfl,hv⟩:=g1
        show Leaves P fn a2.tmps _ a2.defers (.panicking [{v,recovered:=false}]) Ω2.w
        rw [hds]
        exact close _ (.panicking [{v,recovered:=true}]) pv v (by simp) (by simp [settle]) (.pan Ω2 pv v hv) g4
      ·exact h4.elim
     ·exact h4.elim
 ·exact h.elim
end
end Go.AL
end
section
namespace Go.Pd
open Go.AL
def iF (b:UInt8):Bool:=!(decide (bI b < 32) && !decide (bI b=10) && !decide (bI b=9))
def qI (s:Str):Bool:=s.all iF && (cu s).isNone
def cW (s:Shape):Bool:=decide (dO s=0) && allS bV s
def iG (t:Trm) (n v s p:Nat):Bool:=decide (t.names.length=n) && decide (t.vars.length=v) && decide (t.shapes.length=s) && decide (t.parts.length=p)
def oL (t:Trm):Bool:=decide (0<=t.pos) && (decide (t.n=0) || decide (t.kind=1)) && (decide (t.pkg=[]) || decide (t.kind=5)) && t.shapes.all cW
def u9 (l:List Str):Bool:=l.all aQ && decide l.Nodup
def DI (t:Trm):Bool:=
 if t.kind=1 then decide (t.name=[]) && decide (0<=t.n) && decide (t.n<=999999999999999) && iG t 0 0 0 0
 else if t.kind=2 then qI t.name && iG t 0 0 0 0
 else if t.kind=3∨t.kind=4 then decide (t.name=[]) && iG t 0 0 0 0
 else if t.kind=5 then aQ t.name && (decide (t.pkg=[]) || aQ t.pkg) && iG t 0 0 0 0
 else if t.kind=6 then decide (t.name=[]) && decide (t.names.length<=4096) && u9 t.names && iG t t.names.length 0 t.names.length 1
 else if t.kind=7 then decide (t.name=[]) && decide (0 < t.parts.length) && iG t 0 0 0 t.parts.length
 else if t.kind=8 then decide (t.name=[]) && u9 t.names && iG t t.names.length 0 0 t.names.length
 else if t.kind=9∨t.kind=10 then aQ t.name && iG t 0 0 0 1
 else if t.kind=11 then decide (t.name=[]) && iG t 0 0 1 t.parts.length
 else if t.kind=12 then decide (t.name=[]) && iG t 0 0 1 3
 else if t.kind=13 then decide (t.name=[]) && u9 t.names && t.vars.all aQ && iG t t.names.length t.names.length (t.names.length+1) (t.names.length+1)
 else if t.kind=14 then aQ t.name && iG t 0 0 0 2
 else if t.kind=15 then decide (t.name=[]) && iG t 0 0 1 1
 else if t.kind=16∨t.kind=17 then dq t.name && iG t 0 0 0 1
 else false
def bi (t:Trm):Bool:=oL t && DI t
mutual
def allT (f:Trm→Bool):Trm→Bool
 | ⟨k,g,q,z,ns,vs,ss,ps,pp⟩=>f ⟨k,g,q,z,ns,vs,ss,ps,pp⟩ && allTL f ps
def allTL (f:Trm→Bool):List Trm→Bool
 | []=>true
 | p ::r=>allT f p && allTL f r
end
theorem po (f:Trm→Bool) (t:Trm):allT f t=(f t && allTL f t.parts):=by cases t;rw [allT]
theorem lm (f:Trm→Bool):∀l:List Trm,allTL f l=l.all (allT f)
 | []=>rfl
 | p ::r=>by rw [List.all_cons,←lm f r];rw [allTL]
def cC (t:Trm):Bool:=allT (fun x=>decide (x.names.length<=1000000)) t
theorem Bb {t x:Trm} (h:cC t=true) (hx:x∈t.parts):cC x=true:=by
 unfold cC at h ⊢
 rw [po,Bool.and_eq_true,lm] at h
 exact List.all_eq_true.1 h.2 x hx
theorem y6 {t:Trm} (h:cC t=true):t.names.length<=1000000:=by
 unfold cC at h
 rw [po,Bool.and_eq_true] at h
 exact Xo h.1
def ff (t:Trm):Int:=
 if 4096 < (countT t 4096).1 then 3 else if 40 < (countT t 4096).2 then 91 else if allT bi t=true then 0 else 80
end Go.Pd
namespace Go.Pd
open Go.AL
theorem dnZ (n:Nat):decide ((n:Int)=0)=decide (n=0):=decide_eq_decide.2 (by omega)
theorem dn1 (n:Nat):decide ((n:Int)=1)=decide (n=1):=decide_eq_decide.2 (by omega)
theorem dn2 (n:Nat):decide ((n:Int)=2)=decide (n=2):=decide_eq_decide.2 (by omega)
theorem dn3 (n:Nat):decide ((n:Int)=3)=decide (n=3):=decide_eq_decide.2 (by omega)
theorem dnN (n m:Nat):decide ((n:Int)=(m:Int))=decide (n=m):=decide_eq_decide.2 (by omega)
theorem dnS (n m:Nat):decide ((n:Int)=(m:Int)+1)=decide (n=m+1):=decide_eq_decide.2 (by omega)
theorem dnL (n:Nat):decide ((n:Int)<=4096)=decide (n<=4096):=decide_eq_decide.2 (by omega)
theorem dnP (n:Nat):decide ((0:Int) < (n:Int))=decide (0 < n):=decide_eq_decide.2 (by omega)
theorem vU (s:Str) (k:Nat) (h:k < s.length):(aB s).getD k (dfl (Ty.int IntKind.u8))=bI (s.getD k 0):=by
 unfold aB
 simp [List.getD_eq_getElem?_getD,h,bI]
theorem Bc (b:UInt8):iF b=false↔(bI b < 32/\bI b≠10/\bI b≠9):=by
 unfold iF
 simp only [Bool.not_eq_false',Bool.and_eq_true,decide_eq_true_eq,Bool.not_eq_true',decide_eq_false_iff_not]
 omega
end Go.Pd
end
