/- Plain facts. What the functions' conditions say, proved. No condition. -/
import Derived.Test.YtbhedkjcdhgkhaaGreatDoorT04
import Derived.Deep.RegionHeld3
import Derived.Handy
import Derived.KernelRfl
import Derived.Maps.RangeRun
import Derived.Shelf.SlIter.Collect
import Derived.Shelf.SlSortCmp.NoneTotal
import Derived.Shelf.SlSortCmp.QuietGrown
import Derived.Shelf.SlSortCmp.WholeK
import Derived.Shelf.Slices.Clone
import Derived.Sort.Walk0
import Derived.Test.YtbhedkjcdhgkhaaGreatDoorProg
set_option linter.all false
set_option maxRecDepth 100000
section
open Go Go.AL Go.Proofs
namespace Go.AL.Seat
variable [Tabs]
def r1:TR:=⟨.other,1,8,[.undef],none⟩
def r2:TR:=⟨.int .i64,1,8,[.int .i64 0],some (.int .i64)⟩
def r5:TR:=⟨.int .u8,1,1,[.int .u8 0],some (.int .u8)⟩
def r7:TR:=⟨.strct true [(0,2),(1,3),(2,4),(3,6)],4,24,[.int .i64 0,.int .i64 0,.bool false,.int .u8 0],none⟩
def r9:TR:=⟨.str,1,16,[.str []],some .str⟩
def r12:TR:=⟨.int .u64,1,8,[.int .u64 0],some (.int .u64)⟩
def r13:TR:=⟨.strct false [(0,9),(1,12)],2,24,[.str [],.int .u64 0],none⟩
def r18:TR:=⟨.strct false [(0,17)],1,8,[.nilp],none⟩
def r20:TR:=⟨.iface,1,16,[.nilif],none⟩
def r21:TR:=⟨.int .i32,1,4,[.int .i32 0],some (.int .i32)⟩
def r79:TR:=⟨.map 77 3,1,8,[.nilm],none⟩
def uv:TR:=⟨.strct false [(0,99),(1,3),(2,69)],4,48,[.nils,.int .i64 0,.int .i64 0,.int .i64 0],none⟩
def xf:TR:=⟨.strct false [(0,104),(4,26)],9,144,[.nils,.int .i64 0,.int .i64 0,.int .i64 0,.str [],.nils,.nils,.nils,.int .i64 0],none⟩
def xg:TR:=⟨.strct true [(0,9),(1,3)],2,24,[.str [],.int .i64 0],none⟩
def xh:TR:=⟨.strct false [(0,130),(2,99),(3,69)],5,64,[.str [],.int .i64 0,.nils,.int .i64 0,.int .i64 0],none⟩
def uw:TR:=⟨.strct false [],0,0,[],none⟩
def uz:TR:=⟨.strct true [(0,3),(1,3),(2,3),(3,3)],4,32,[.int .i64 0,.int .i64 0,.int .i64 0,.int .i64 0],none⟩
def r272:TR:=⟨.strct true [(0,5),(1,5)],2,2,[.int .u8 0,.int .u8 0],none⟩
def r291:TR:=⟨.strct false [(0,9),(1,9),(2,226)],3,48,[.str [],.str [],.nilif],none⟩
def r303:TR:=⟨.strct true [(0,9)],1,16,[.str []],none⟩
def r316:TR:=⟨.strct false [(0,17),(1,17),(2,17),(3,9)],4,40,[.nilp,.nilp,.nilp,.str []],none⟩
def r327:TR:=⟨.strct false [(0,12),(1,12),(2,210),(3,322),(4,5),(5,5),(6,323),(7,324),(8,301),(9,325),(10,326)],11,48,[.int .u64 0,.int .u64 0,.int .u32 0,.int .u8 0,.int .u8 0,.int .u8 0,.int .u8 0,.undef,.nilp,.int .i32 0,.int .i32 0],none⟩
def tbl:List (Nat × TR):=[(1,r1),
 (2,r2),
 (3,r2),
 (4,⟨.bool,1,1,[.bool false],some .bool⟩),
 (5,r5),
 (6,r5),
 (7,r7),
 (8,r7),
 (9,r9),
 (10,r9),
 (11,r9),
 (12,r12),
 (13,r13),
 (14,r13),
 (15,⟨.ptr 317,1,8,[.nilp],none⟩),
 (16,⟨.ptr 320,1,8,[.nilp],none⟩),
 (17,⟨.ptr 328,1,8,[.nilp],none⟩),
 (18,r18),
 (19,r18),
 (20,r20),
 (21,r21),
 (22,⟨.slice 64,1,24,[.nils],some (.lst (.st .imp))⟩),
 (23,⟨.slice 58,1,24,[.nils],some (.lst (.st .decl))⟩),
 (24,⟨.slice 9,1,24,[.nils],some (.lst .str)⟩),
 (25,⟨.strct false [(0,9),(1,22),(2,23),(3,24),(4,3)],5,96,[.str [],.nils,.nils,.nils,.int .i64 0],none⟩),
 (26,⟨.strct false [(0,9),(1,22),(2,23),(3,24),(4,3)],5,96,[.str [],.nils,.nils,.nils,.int .i64 0],some (.st .modu)⟩),
 (27,r1),
 (28,⟨.slice 26,1,24,[.nils],some (.lst (.st .modu))⟩),
 (29,r1),
 (30,r1),
 (31,⟨.slice 77,1,24,[.nils],some (.lst (.st .nm))⟩),
 (32,r1),
 (33,r1),
 (34,r1),
 (35,r1),
 (36,⟨.slice 73,1,24,[.nils],some (.lst (.st .item))⟩),
 (37,⟨.strct false [(0,9),(1,36)],2,40,[.str [],.nils],none⟩),
 (38,⟨.strct false [(0,9),(1,36)],2,40,[.str [],.nils],some (.st .dep)⟩),
 (39,r1),
 (40,⟨.slice 38,1,24,[.nils],some (.lst (.st .dep))⟩),
 (41,r1),
 (42,r1),
 (43,r1),
 (44,r1),
 (45,⟨.slice 75,1,24,[.nils],some (.lst (.st .change))⟩),
 (46,r1),
 (47,r1),
 (48,r1),
 (49,r1),
 (50,r1),
 (51,⟨.slice 53,1,24,[.nils],some (.lst (.st .shape))⟩),
 (52,⟨.strct false [(0,3),(1,9),(2,9),(3,24),(4,51)],5,88,[.int .i64 0,.str [],.str [],.nils,.nils],none⟩),
 (53,⟨.strct false [(0,3),(1,9),(2,9),(3,24),(4,51)],5,88,[.int .i64 0,.str [],.str [],.nils,.nils],some (.st .shape)⟩),
 (54,⟨.slice 56,1,24,[.nils],some (.lst (.st .term))⟩),
 (55,⟨.strct false [(0,3),(1,9),(2,9),(3,3),(4,24),(5,24),(6,51),(7,54),(8,3)],9,152,[.int .i64 0,.str [],.str [],.int .i64 0,.nils,.nils,.nils,.nils,.int .i64 0],none⟩),
 (56,⟨.strct false [(0,3),(1,9),(2,9),(3,3),(4,24),(5,24),(6,51),(7,54),(8,3)],9,152,[.int .i64 0,.str [],.str [],.int .i64 0,.nils,.nils,.nils,.nils,.int .i64 0],some (.st .term)⟩),
 (57,⟨.strct false [(0,3),(1,9),(2,53),(7,56),(16,3)],17,272,[.int .i64 0,.str [],.int .i64 0,.str [],.str [],.nils,.nils,.int .i64 0,.str [],.str [],.int .i64 0,.nils,.nils,.nils,.nils,.int .i64 0,.int .i64 0],none⟩),
 (58,⟨.strct false [(0,3),(1,9),(2,53),(7,56),(16,3)],17,272,[.int .i64 0,.str [],.int .i64 0,.str [],.str [],.nils,.nils,.int .i64 0,.str [],.str [],.int .i64 0,.nils,.nils,.nils,.nils,.int .i64 0,.int .i64 0],some (.st .decl)⟩),
 (59,r1),
 (60,⟨.strct true [(0,3),(1,3),(2,3),(3,9)],4,40,[.int .i64 0,.int .i64 0,.int .i64 0,.str []],none⟩),
 (61,⟨.strct true [(0,3),(1,3),(2,3),(3,9)],4,40,[.int .i64 0,.int .i64 0,.int .i64 0,.str []],some (.st .version)⟩),
 (62,⟨.slice 66,1,24,[.nils],some (.lst (.st .bound))⟩),
 (63,⟨.strct false [(0,9),(1,61),(5,62),(6,3)],7,88,[.str [],.int .i64 0,.int .i64 0,.int .i64 0,.str [],.nils,.int .i64 0],none⟩),
 (64,⟨.strct false [(0,9),(1,61),(5,62),(6,3)],7,88,[.str [],.int .i64 0,.int .i64 0,.int .i64 0,.str [],.nils,.int .i64 0],some (.st .imp)⟩),
 (65,⟨.strct true [(0,3),(1,61)],5,48,[.int .i64 0,.int .i64 0,.int .i64 0,.int .i64 0,.str []],none⟩),
 (66,⟨.strct true [(0,3),(1,61)],5,48,[.int .i64 0,.int .i64 0,.int .i64 0,.int .i64 0,.str []],some (.st .bound)⟩),
 (67,r2),
 (68,⟨.strct true [(0,67),(1,3)],2,16,[.int .i64 0,.int .i64 0],none⟩),
 (69,⟨.strct true [(0,67),(1,3)],2,16,[.int .i64 0,.int .i64 0],some (.st .fault)⟩),
 (71,r1),
 (72,⟨.strct false [(0,3),(1,9),(2,53)],7,112,[.int .i64 0,.str [],.int .i64 0,.str [],.str [],.nils,.nils],none⟩),
 (73,⟨.strct false [(0,3),(1,9),(2,53)],7,112,[.int .i64 0,.str [],.int .i64 0,.str [],.str [],.nils,.nils],some (.st .item)⟩),
 (74,⟨.strct true [(0,3),(1,9)],2,24,[.int .i64 0,.str []],none⟩),
 (75,⟨.strct true [(0,3),(1,9)],2,24,[.int .i64 0,.str []],some (.st .change)⟩),
 (76,⟨.strct true [(0,9),(1,9)],2,32,[.str [],.str []],none⟩),
 (77,⟨.strct true [(0,9),(1,9)],2,32,[.str [],.str []],some (.st .nm)⟩),
 (78,r1),
 (79,r79),
 (80,r79),
 (81,r1),
 (82,r1),
 (83,r1),
 (84,r1),
 (85,r1),
 (86,r1),
 (87,r1),
 (88,r1),
 (89,r1),
 (90,r1),
 (91,r1),
 (92,r1),
 (93,r1),
 (94,r1),
 (95,r1),
 (96,r1),
 (97,r1),
 (98,r1),
 (99,⟨.slice 109,1,24,[.nils],some (.lst (.st .token))⟩),
 (101,r1),
 (102,⟨.ptr 106,1,8,[.nilp],none⟩),
 (103,uv),
 (104,uv),
 (105,xf),
 (106,xf),
 (107,r1),
 (108,⟨.strct true [(0,3),(1,9),(2,3)],3,32,[.int .i64 0,.str [],.int .i64 0],none⟩),
 (109,⟨.strct true [(0,3),(1,9),(2,3)],3,32,[.int .i64 0,.str [],.int .i64 0],some (.st .token)⟩),
 (110,r1),
 (111,r1),
 (112,r1),
 (113,r1),
 (114,r1),
 (115,r1),
 (116,r1),
 (117,r1),
 (118,r1),
 (119,r1),
 (120,r1),
 (121,⟨.slice 3,1,24,[.nils],some (.lst (.int .i64))⟩),
 (122,r1),
 (123,r1),
 (124,r1),
 (125,r1),
 (126,r1),
 (127,r1),
 (128,⟨.ptr 132,1,8,[.nilp],none⟩),
 (129,xg),
 (130,xg),
 (131,xh),
 (132,xh),
 (133,r1),
 (134,r1),
 (135,r1),
 (136,r1),
 (137,⟨.ptr 104,1,8,[.nilp],none⟩),
 (138,r1),
 (139,r1),
 (140,r1),
 (141,r1),
 (142,r1),
 (144,r1),
 (146,r1),
 (147,r1),
 (148,r1),
 (149,r1),
 (150,r1),
 (151,r1),
 (152,r1),
 (153,r1),
 (154,r1),
 (155,r1),
 (156,r1),
 (157,r1),
 (158,r1),
 (159,r1),
 (160,r1),
 (161,r12),
 (162,r1),
 (163,r1),
 (164,r1),
 (165,r1),
 (166,r1),
 (167,r1),
 (168,r1),
 (169,⟨.ptr 130,1,8,[.nilp],none⟩),
 (171,r1),
 (172,r1),
 (173,r1),
 (174,r1),
 (176,r1),
 (178,r1),
 (179,r1),
 (180,r1),
 (181,r1),
 (182,⟨.map 9 3,1,8,[.nilm],none⟩),
 (183,⟨.ptr 188,1,8,[.nilp],none⟩),
 (184,r1),
 (185,uv),
 (186,⟨.strct false [(0,99),(1,3),(2,69)],4,48,[.nils,.int .i64 0,.int .i64 0,.int .i64 0],some (.st .par)⟩),
 (187,⟨.strct false [(0,186)],4,48,[.nils,.int .i64 0,.int .i64 0,.int .i64 0],none⟩),
 (188,⟨.strct false [(0,186)],4,48,[.nils,.int .i64 0,.int .i64 0,.int .i64 0],some (.st .par)⟩),
 (189,r1),
 (190,r1),
 (191,r1),
 (192,r1),
 (194,r1),
 (195,r1),
 (196,r1),
 (198,r1),
 (199,r1),
 (200,r1),
 (201,r1),
 (202,r2),
 (204,r1),
 (205,r1),
 (206,r1),
 (208,r1),
 (209,r1),
 (210,⟨.int .u32,1,4,[.int .u32 0],some (.int .u32)⟩),
 (211,r1),
 (212,r12),
 (214,r1),
 (215,r1),
 (219,r1),
 (220,r1),
 (221,⟨.ptr 217,1,8,[.nilp],none⟩),
 (223,r1),
 (224,⟨.arr 3 3,3,24,[.int .i64 0,.int .i64 0,.int .i64 0],none⟩),
 (225,r20),
 (226,r20),
 (228,r1),
 (229,⟨.slice 5,1,24,[.nils],some (.lst (.int .u8))⟩),
 (230,r1),
 (231,r1),
 (232,r1),
 (233,⟨.ptr 186,1,8,[.nilp],none⟩),
 (234,r1),
 (235,r1),
 (236,r1),
 (237,r1),
 (238,r1),
 (239,uw),
 (240,uw),
 (242,r1),
 (243,r1),
 (244,r1),
 (245,r1),
 (246,r1),
 (247,r12),
 (248,r1),
 (249,r1),
 (250,r1),
 (251,⟨.ptr 3,1,8,[.nilp],none⟩),
 (252,r1),
 (253,r1),
 (254,r1),
 (255,r1),
 (256,uz),
 (257,uz),
 (258,r1),
 (259,r1),
 (260,r1),
 (261,r1),
 (262,r1),
 (263,r1),
 (264,r1),
 (265,⟨.ptr 247,1,8,[.nilp],none⟩),
 (266,r1),
 (267,r1),
 (268,r1),
 (269,r1),
 (270,r1),
 (272,r272),
 (273,r272),
 (275,r1),
 (276,r2),
 (278,r1),
 (279,⟨.ptr 292,1,8,[.nilp],none⟩),
 (280,r1),
 (281,r1),
 (282,r1),
 (283,r1),
 (284,r1),
 (285,r1),
 (286,r1),
 (287,r1),
 (289,r1),
 (290,r1),
 (291,r291),
 (292,r291),
 (293,r1),
 (295,r1),
 (296,r1),
 (297,r1),
 (298,r1),
 (299,r1),
 (300,r1),
 (301,⟨.ptr 5,1,8,[.nilp],none⟩),
 (302,⟨.ptr 304,1,8,[.nilp],none⟩),
 (303,r303),
 (304,r303),
 (305,r1),
 (307,r1),
 (309,r1),
 (310,r1),
 (315,r1),
 (316,r316),
 (317,r316),
 (321,r1),
 (322,r5),
 (323,r5),
 (324,r1),
 (325,r21),
 (326,r21),
 (327,r327),
 (328,r327)]
theorem tk {t:Nat} {r:TR} (h1:(Tryz.prog.info? t).map (fun i=>(i.size,i.bytes,i.zero.map fun z=>z.cells.toList.map b9))=some (r.size,r.bytes,some r.zero):=by kernel_rfl)
  (h2:(Tryz.prog.underlying t).map (ar Tryz.prog r.ti)=some true:=by kernel_rfl)
  (h3:(dh r.zero r.size && (Nat.beq r.size 0 || Nat.blt 0 r.bytes) && (match r.ty with | some τ=>Nat.beq (a7 τ) r.size && (wz τ ==r.isAgg) | none=>true))=true:=by kernel_rfl)
  (h8:(Tryz.prog.info? t).map (fun i=>i.zero.map fun z=>rq z ==r.isAgg)=some (some true):=by kernel_rfl)
  (h9:(match r.ti with | .strct true _=>!Tryz.prog.stoodInHeld t && !Tryz.prog.eqGuardType Tryz.prog.depth t | _=>true)=true:=by kernel_rfl):TRok Tryz.prog t r:=TRok.mk' h1 h2 h3 h8 h9
theorem xz:aD Tryz.prog tbl:=
 .cons tk (.cons tk (.cons tk (.cons tk (.cons tk (.cons tk (.cons tk (.cons tk (.cons tk (.cons tk (.cons tk (.cons tk (.cons tk (.cons tk (.cons tk (.cons tk (.cons tk (.cons tk (.cons tk (.cons tk (.cons tk (.cons tk (.cons tk (.cons tk (.cons tk (.cons tk (.cons tk (.cons tk (.cons tk (.cons tk (.cons tk (.cons tk (.cons tk (.cons tk (.cons tk (.cons tk (.cons tk (.cons tk (.cons tk (.cons tk (.cons tk (.cons tk (.cons tk (.cons tk (.cons tk (.cons tk (.cons tk (.cons tk (.cons tk (.cons tk (.cons tk (.cons tk (.cons tk (.cons tk (.cons tk (.cons tk (.cons tk (.cons tk (.cons tk (.cons tk (.cons tk (.cons tk (.cons tk (.cons tk (.cons tk (.cons tk (.cons tk (.cons tk (.cons tk (.cons tk (.cons tk (.cons tk (.cons tk (.cons tk (.cons tk (.cons tk (.cons tk (.cons tk (.cons tk (.cons tk (.cons tk (.cons tk (.cons tk (.cons tk (.cons tk (.cons tk (.cons tk (.cons tk (.cons tk (.cons tk (.cons tk (.cons tk (.cons tk (.cons tk (.cons tk (.cons tk (.cons tk (.cons tk (.cons tk (.cons tk (.cons tk (.cons tk (.cons tk (.cons tk (.cons tk (.cons tk (.cons tk (.cons tk (.cons tk (.cons tk (.cons tk (.cons tk (.cons tk (.cons tk (.cons tk (.cons tk (.cons tk (.cons tk (.cons tk (.cons tk (.cons tk (.cons tk (.cons tk (.cons tk (.cons tk (.cons tk (.cons tk (.cons tk (.cons tk (.cons tk (.cons tk (.cons tk (.cons tk (.cons tk (.cons tk (.cons tk (.cons tk (.cons tk (.cons tk (.cons tk (.cons tk (.cons tk (.cons tk (.cons tk (.cons tk (.cons tk (.cons tk (.cons tk (.cons tk (.cons tk (.cons tk (.cons tk (.cons tk (.cons tk (.cons tk (.cons tk (.cons tk (.cons tk (.cons tk (.cons tk (.cons tk (.cons tk (.cons tk (.cons tk (.cons tk (.cons tk (.cons tk (.cons tk (.cons tk (.cons tk (.cons tk (.cons tk (.cons tk (.cons tk (.cons tk (.cons tk (.cons tk (.cons tk (.cons tk (.cons tk (.cons tk (.cons tk (.cons tk (.cons tk (.cons tk (.cons tk (.cons tk (.cons tk (.cons tk (.cons tk (.cons tk (.cons tk (.cons tk (.cons tk (.cons tk (.cons tk (.cons tk (.cons tk (.cons tk (.cons tk (.cons tk (.cons tk (.cons tk (.cons tk (.cons tk (.cons tk (.cons tk (.cons tk (.cons tk (.cons tk (.cons tk (.cons tk (.cons tk (.cons tk (.cons tk (.cons tk (.cons tk (.cons tk (.cons tk (.cons tk (.cons tk (.cons tk (.cons tk (.cons tk (.cons tk (.cons tk (.cons tk (.cons tk (.cons tk (.cons tk (.cons tk (.cons tk (.cons tk (.cons tk (.cons tk (.cons tk (.cons tk (.cons tk (.cons tk (.cons tk (.cons tk (.cons tk (.cons tk (.cons tk (.cons tk (.cons tk (.cons tk (.cons tk (.cons tk (.cons tk (.cons tk (.cons tk (.cons tk (.cons tk (.cons tk (.cons tk (.cons tk (.cons tk (.cons tk (.cons tk (.cons tk (.cons tk (.cons tk (.cons tk (.cons tk (.cons tk (.cons tk (.cons tk (.cons tk (.cons tk (.cons tk (.cons tk (.cons tk (.cons tk (.cons tk (.cons tk (.cons tk (.cons tk (.cons tk (.cons tk (.cons tk (.cons tk (.cons tk (.cons tk (.cons tk (.cons tk (.cons tk (.cons tk (.cons tk (.cons tk (.cons tk (.cons tk (.cons tk (.cons tk (.cons tk (.cons tk (.nil))))))))))))))))))))))))))))))))))))))))))))))))))))))))))))))))))))))))))))))))))))))))))))))))))))))))))))))))))))))))))))))))))))))))))))))))))))))))))))))))))))))))))))))))))))))))))))))))))))))))))))))))))))))))))))))))))))))))))))))))))))))))))))))))))))))))))))))))))))))))))))))))))))))))
theorem mixed:Tryz.prog.follows .mixedOrders=true:=by kernel_rfl
end Go.AL.Seat
end
section
namespace Go.AL
open Go.Shelf Go.Proofs Go.RowKit
variable [Tabs] {P:Program} {ρ:Ren}
theorem After.newRow {w w':World} {pub:Nat→Nat→Prop} {e:Nat→Option CObj} (hp:gO w pub) (hd:∀id,e id=none) (hb:Below w.heap.size w w') {g:Nat} (hg:w.heap.size<=g) {p:Nat→Prop} (hc:∀o,p o→∃v,w'.cell? ⟨g,o,none⟩=some v) :
  After w pub e (ag (bq [] [])) w' (fun b o=>pub b o∨(b=g/\p o)) e where
 os:=hb.os
 tape:=hb.tape
 output:=hb.output
 size:=hb.size
 block b h _:=hb.block b h
 cell b o h _:=ab (hb.block b h) o
 kind b h _:=⟨aF (hb.block b h),fun o=>aw (hb.block b h) o⟩
 ext:=⟨fun _ c h=>⟨c,h,CLe.refl c⟩,fun _ _ h=>.inl h,fun b o h=>by obtain ⟨v,hv⟩:=hp b o h;exact ab (hb.block b (aB hv)) o⟩
 fresh b o h:=by
  rcases h with h | ⟨rfl,_⟩
  ·exact .inl h
  ·exact .inr (.inl hg)
 ok b o h:=by
  rcases h with h | ⟨rfl,h⟩
  ·obtain ⟨v,hv⟩:=hp b o h;exact ⟨v,(ab (hb.block b (aB hv)) o).trans hv⟩
  ·exact hc o h
 slots id o h:=by simp [bq,ay,au] at h
 dom id _:=hd id
 inj i j c d b o h:=by rw [hd i] at h;cases h
theorem qI (L:Lays2.n16 P ρ) (l:List Str) (hb:l.length *16<=140737488355328) {ob:Option Prop}:b8 P (ρ.f 16) [.lst .str l none] [] ⟨ob,none,.lst .str l none,[]⟩:=by
 intro w pub e vs hp ht hv hs hd hi
 have he:e=fun _=>none:=funext fun id=>hd id rfl
 subst he
 obtain ⟨v,rfl,hV⟩:=hv.one_inv
 cases hV with
 | lstNil _ _ tok=>
  refine (Any.slices_Clone_string_nil L 0 0 w).mono ?_
  rintro en w' ⟨rfl,rfl⟩
  exact ⟨pub,_,fun b pv u h=>(by cases h),.lstNil _ _ tok,After.below hp (fun _=>rfl) (Below.refl _ _)⟩
 | lstVoid _ a=>
  refine (Any.slices_Clone_string_zero L a 0 w).mono ?_
  rintro en w' ⟨v',rfl,⟨hl,hrow⟩,hn,hbw⟩
  refine ⟨pub,_,fun b pv u h=>(by cases h),?_,After.below hp (fun _=>rfl) hbw⟩
  rcases hrow with ⟨rfl,hz⟩ | ⟨g,cap,cur,rfl,hbase,hg,h1,h2,h3,h4⟩
  ·exact absurd rfl hn
  ·exact .lst .str [] none g 0 cap (fun _ _=>.bool false) (Nat.zero_le _) (by unfold maxLen at h2;unfold aK;omega) (fun id h=>by cases h) (fun i x hx=>by cases hx) (fun i x hx=>by cases hx)
 | lst _ _ _ b off cap vals h1 h2 tok hcell hval=>
  have at_:∀i (hi:i < l.length),w.cell? ⟨b,off+i,none⟩=some (.string ⟨l[i].toArray⟩)/\l[i].length<=aK:=fun i hi=>by
   have hx:l[i]?=some l[i]:=List.getElem?_eq_getElem hi
   obtain ⟨_,c1⟩:=hcell i l[i] hx 0 (.str l[i]) rfl
   have c2:=hval i l[i] hx 0 (.str l[i]) rfl
   obtain ⟨c3,c4⟩:=c2.str_inv
   rw [c3,show off+(i *a7 .str+0)=off+i by rw [show a7 .str=1 from rfl];omega] at c1
   exact ⟨c1,c4⟩
  refine (Any.slices_Clone_string L b off l.length cap (l.map fun s=>(⟨s.toArray⟩:ByteArray)) w (by simp) hb (fun j hj=>?_)).mono ?_
  ·have hj':j < l.length:=by simpa using hj
   rw [(at_ j hj').1,List.getD_eq_getElem?_getD,List.getElem?_map,List.getElem?_eq_getElem hj']
   rfl
  rintro en w' ⟨v',rfl,⟨hl,hrow⟩,hn,hbw⟩
  rcases hrow with ⟨rfl,hz⟩ | ⟨g,cap',cur,rfl,hbase,hg,k1,k2,k3,k4⟩
  ·exact absurd rfl hn
  have hcur:∀i (hi:i < l.length),cur[i]?=some (.string ⟨l[i].toArray⟩):=fun i hi=>by
   have:(cur.toList.take (l.length *1))[i]?=some (.string ⟨l[i].toArray⟩):=by
    rw [k4,List.getElem?_map,List.getElem?_take]
    simp [hi]
   rw [List.getElem?_take] at this
   split at this
   ·simpa using this
   ·cases this
  refine ⟨fun b o=>pub b o∨(b=g/\o < l.length),_,fun b pv u h=>(by cases h),?_,After.newRow hp (fun _=>rfl) hbw hbase (p:=fun o=>o < l.length) (fun o ho=>⟨_,by rw [ad hg];exact hcur o ho⟩)⟩
  refine .lst .str l none g 0 cap' (fun i _=>.string ⟨(l.getD i []).toArray⟩) k1 (by unfold maxLen at k2;unfold aK;omega) (fun id h=>by cases h) (fun i x hx j c hc=>?_) (fun i x hx j c hc=>?_)
  ·obtain ⟨hi,rfl⟩:=List.getElem?_eq_some_iff.1 hx
   have hj:j=0:=by
    cases j with
    | zero=>rfl
    | succ j=>simp [cells] at hc
   subst hj
   rw [show 0+(i *a7 .str+0)=i by rw [show a7 .str=1 from rfl];omega]
   refine ⟨.inr ⟨rfl,hi⟩,?_⟩
   show w'.cell? ⟨g,i,none⟩=_
   rw [ad hg,hcur i hi,List.getD_eq_getElem?_getD,List.getElem?_eq_getElem hi]
   rfl
  ·obtain ⟨hi,rfl⟩:=List.getElem?_eq_some_iff.1 hx
   have hj:j=0:=by
    cases j with
    | zero=>rfl
    | succ j=>simp [cells] at hc
   subst hj
   have e1:c=.str l[i]:=by simpa [cells] using hc.symm
   subst e1
   rw [List.getD_eq_getElem?_getD,List.getElem?_eq_getElem hi]
   exact .str _ (at_ i hi).2
def qJ:Pat:=p1 (.lst .str) fun l=>⟨some (l.length *16<=140737488355328),none,.lst .str l none,[]⟩
theorem qK {f:Nat} (L:Lays2.n16 P ρ) (hf:ρ.f 16=f) (he:aU P f):aO P f qJ:=by
 subst hf
 exact gx he fun l _ ho=>qI L l (ho _ rfl)
end Go.AL
end
section
namespace Go.Proofs
open Go.Shelf
def Tryz.lays2_16_ren:Go.Shelf.Ren:=⟨fun | 16=>71 | n=>n,fun | 24=>24 | 9=>9 | 4=>4 | n=>n,fun | n=>n⟩
theorem Tryz.lays2_16:Go.Proofs.Lays2.n16 Tryz.prog Tryz.lays2_16_ren:={
 mixed:=by kernel_rfl
 f16:=Xt Tryz.func71
 t4:=Tryz.underlying4
 a4:=Tryz.isAgg4
 z4:=Tryz.sizeOf4
 v4:=Tryz.zeroValue4
 t9:=Tryz.underlying9
 a9:=Tryz.isAgg9
 z9:=Tryz.sizeOf9
 v9:=Tryz.zeroValue9
 t24:=Tryz.underlying24
 a24:=Tryz.isAgg24
 z24:=Tryz.sizeOf24
 v24:=Tryz.zeroValue24
 i9:=by kernel_rfl}
end Go.Proofs
end
section
namespace Go.AL.Seat
open Go Go.AL Go.Proofs Go.Shelf Go.Pd
variable [Tabs]
theorem uA:aO Tryz.prog 71 qJ:=qK Tryz.lays2_16 rfl (aU.mk' Tryz.func71 (by kernel_rfl))
end Go.AL.Seat
end
noncomputable section
namespace Go.Pd
open Go Go.AL
def ltU (a b:Nam):Bool:=decide (a.pkg < b.pkg) || (decide (a.pkg=b.pkg) && decide (a.name < b.name))
def xi (l:List Nam):Prop:=l.Pairwise fun a b=>ltU a b=true
theorem gq (a:Nam):ltU a a=false:=by
 unfold ltU;simp [List.lt_irrefl]
theorem kc {a b c:Nam} (h:ltU a b=true) (k:ltU b c=true):ltU a c=true:=by
 unfold ltU at *
 simp only [Bool.or_eq_true,Bool.and_eq_true,decide_eq_true_eq] at *
 rcases h with h | ⟨h1,h2⟩ <;> rcases k with k | ⟨k1,k2⟩
 ·exact .inl (List.lt_trans h k)
 ·exact .inl (k1 ▸ h)
 ·exact .inl (h1 ▸ k)
 ·exact .inr ⟨h1.trans k1,List.lt_trans h2 k2⟩
theorem ju (a b:Nam):ltU a b=true∨a=b∨ltU b a=true:=by
 unfold ltU
 simp only [Bool.or_eq_true,Bool.and_eq_true,decide_eq_true_eq]
 rcases List.le_total a.pkg b.pkg with h | h
 all_goals
  by_cases e:a.pkg=b.pkg
  ·rcases List.le_total a.name b.name with k | k <;> by_cases f:a.name=b.name
   ·right;left;cases a;cases b;simp_all
   ·left;right;exact ⟨e,Decidable.byContradiction fun q=>f (List.le_antisymm k (List.not_lt.1 q))⟩
   ·right;left;cases a;cases b;simp_all
   ·right;right;right;exact ⟨e.symm,Decidable.byContradiction fun q=>f (List.le_antisymm (List.not_lt.1 q) k)⟩
 ·left;left;exact Decidable.byContradiction fun q=>e (List.le_antisymm h (List.not_lt.1 q))
 ·right;right;left;exact Decidable.byContradiction fun q=>e (List.le_antisymm (List.not_lt.1 q) h)
theorem tv:∀{a b:List Nam},xi a→xi b→(∀v,v∈a↔v∈b)→a=b
 | [],[],_,_,_=>rfl
 | [],y ::_,_,_,h=>nomatch (h y).2 (List.mem_cons_self ..)
 | x ::_,[],_,_,h=>nomatch (h x).1 (List.mem_cons_self ..)
 | x ::r,y ::s,ha,hb,h=>by
  have a1:=List.pairwise_cons.1 ha
  have b1:=List.pairwise_cons.1 hb
  have e:x=y:=by
   rcases List.mem_cons.1 ((h x).1 (List.mem_cons_self ..)) with q | q
   ·exact q
   ·rcases List.mem_cons.1 ((h y).2 (List.mem_cons_self ..)) with p | p
    ·exact p.symm
    ·have:=kc (a1.1 y p) (b1.1 x q)
     rw [gq] at this;cases this
  subst e
  rw [tv a1.2 b1.2 fun v=>?_]
  have n1:x∉r:=fun q=>by have:=a1.1 x q;rw [gq] at this;cases this
  have n2:x∉s:=fun q=>by have:=b1.1 x q;rw [gq] at this;cases this
  refine ⟨fun q=>?_,fun q=>?_⟩
  ·rcases List.mem_cons.1 ((h v).1 (List.mem_cons_of_mem _ q)) with e | p
   ·subst e;exact absurd q n1
   ·exact p
  ·rcases List.mem_cons.1 ((h v).2 (List.mem_cons_of_mem _ q)) with e | p
   ·subst e;exact absurd q n2
   ·exact p
def leU (a b:Nam):Bool:=!ltU b a
def fa (l:List Nam):List Nam:=l.mergeSort leU
theorem uB {l:List Nam} (h:l.Nodup):xi (fa l):=by
 have h1:(fa l).Pairwise fun a b=>leU a b=true:=List.pairwise_mergeSort (fun a b c p q=>by
  unfold leU at *
  rw [Bool.not_eq_true'] at *
  rcases Bool.eq_false_or_eq_true (ltU c a) with k | k
  ·rcases ju a b with t | t | t
   ·rw [kc k t] at q;cases q
   ·subst t;rw [k] at q;cases q
   ·rw [t] at p;cases p
  ·exact k) (fun a b=>by
  unfold leU
  rcases ju a b with t | t | t
  ·have:ltU b a=false:=by
    rcases Bool.eq_false_or_eq_true (ltU b a) with k | k
    ·have:=kc t k;rw [gq] at this;cases this
    ·exact k
   rw [this];rfl
  ·subst t;rw [gq];rfl
  ·have:ltU a b=false:=by
    rcases Bool.eq_false_or_eq_true (ltU a b) with k | k
    ·have:=kc t k;rw [gq] at this;cases this
    ·exact k
   rw [this];cases ltU b a <;> rfl) l
 have h2:(fa l).Nodup:=(List.mergeSort_perm l leU).nodup_iff.2 h
 refine List.Pairwise.imp (fun {a b} q=>?_) (h1.and h2)
 obtain ⟨q1,q2⟩:=q
 rcases ju a b with t | t | t
 ·exact t
 ·exact absurd t q2
 ·unfold leU at q1;rw [t] at q1;cases q1
end Go.Pd
end
section
namespace Go.Pd
open Go.AL
def p0 (A:Ans):Pat
 | [],[]=>some A
 | _,_=>none
theorem yC [Tabs] {P:Program} {f:Nat} {A:Ans} (he:aU P f) (h:b8 P f [] [] A):aO P f (p0 A):=by
 intro args S A' hA _ _
 unfold p0 at hA
 split at hA
 ·simp only [Xs] at hA
  subst hA
  exact ⟨he,h⟩
 ·cases hA
end Go.Pd
end
section
namespace Go.Pd
open Go.AL
def eqC:List Change→List Change→Bool
 | [],[]=>true
 | a ::r,b ::s=>(decide (a.kind=b.kind) && (decide (a.name=b.name) && true)) && eqC r s
 | _,_=>false
theorem tw:∀{a b:List Change},a.length≠b.length→eqC a b=false
 | [],[],h=>absurd rfl h
 | [],_ ::_,_=>rfl
 | _ ::_,[],_=>rfl
 | a ::r,b ::s,h=>by
  simp only [eqC]
  rw [tw (fun e=>h (by simp [e]))]
  simp
theorem qL:∀a:List Change,eqC a a=true
 | []=>rfl
 | a ::r=>by simp [eqC,qL r]
end Go.Pd
end
noncomputable section
namespace Go.Pd
open Go Go.AL
def gr:List Nam→Nam→Int→Int
 | [],_,_=>-1
 | a ::r,v,i=>if a=v then i else gr r v (i+1)
theorem qM:∀(a:List Nam) (v:Nam) (i:Int),0<=i→(0<=gr a v i↔v∈a)
 | [],v,i,_=>by simp [gr]
 | x ::r,v,i,hi=>by
  simp only [gr,List.mem_cons]
  by_cases e:x=v
  ·rw [if_pos e];exact ⟨fun _=>.inl e.symm,fun _=>hi⟩
  ·rw [if_neg e,qM r v (i+1) (by omega)]
   exact ⟨.inr,fun h=>h.elim (fun q=>absurd q.symm e) id⟩
def isU:List Nam→Str→Str→Bool
 | [],_,_=>false
 | x ::r,g,q=>(decide (x.pkg=g) && decide (x.name=q)) || isU r g q
theorem tx (x y:Nam):(decide (x.pkg=y.pkg) && (decide (x.name=y.name) && true))=decide (x=y):=by
 cases x;cases y
 rw [Bool.eq_iff_iff]
 simp
theorem tz:∀(u:List Nam) (v:Nam),isU u v.pkg v.name=decide (v∈u)
 | [],_=>rfl
 | x ::r,v=>by
  have e:=tx x v
  rw [Bool.and_true] at e
  rw [isU,tz r v,e,Bool.eq_iff_iff,Bool.or_eq_true,decide_eq_true_iff,decide_eq_true_iff,decide_eq_true_iff,List.mem_cons]
  exact or_congr eq_comm Iff.rfl
def af (g:Str) (us:List Nam):List AL.Change→List AL.Change
 | []=>[]
 | c ::r=>if (decide (c.kind=2) || (decide (c.kind=3) || decide (c.kind=4))) && isU us g c.name then c ::af g us r else af g us r
theorem oe (g:Str) (us:List Nam):∀a b:List AL.Change,af g us (a++b)=af g us a++af g us b
 | [],_=>rfl
 | c ::r,b=>by
  rw [List.cons_append,af,af,oe g us r b]
  split <;> rfl
theorem kd (g:Str) (us:List Nam):∀a:List AL.Change,(af g us a).length<=a.length
 | []=>Nat.le_refl _
 | c ::r=>by
  have:=kd g us r
  rw [af]
  split <;> simp only [List.length_cons] <;> omega
theorem qN (g:Str) (us:List Nam) (l:List AL.Change) (k:Nat) (d:AL.Change) (h:k < l.length) :
  af g us (l.take (k+1))=if (decide ((l.getD k d).kind=2) || (decide ((l.getD k d).kind=3) || decide ((l.getD k d).kind=4))) && isU us g (l.getD k d).name then af g us (l.take k)++[l.getD k d] else af g us (l.take k):=by
 rw [o7 l k d h,oe,af]
 split
 ·rfl
 ·rw [af,List.append_nil]
end Go.Pd
end
section
open Go Go.AL Go.Pd
namespace Go.AL.Seat
theorem wc (c:Int)  :
  if decide ((97:Int)<=c)=true then True/\decide (c<=(122:Int))=bE c/\True else True/\false=bE c/\True:=by
 unfold bE;simp only [hE];split <;> simp [*]
theorem we (c:Int)  :
  if decide ((65:Int)<=c)=true then True/\decide (c<=(90:Int))=bJ c/\True else True/\false=bJ c/\True:=by
 unfold bJ;simp only [hE];split <;> simp [*]
theorem wg (c:Int)  :
  if decide ((48:Int)<=c)=true then True/\decide (c<=(57:Int))=hU c/\True else True/\false=hU c/\True:=by
 unfold hU;simp only [hE];split <;> simp [*]
theorem xj (c:Int)  :
  if bE c=true then True/\true=dA c/\True else if bJ c=true then True/\true=dA c/\True else if hU c=true then True/\true=dA c/\True else True/\decide (c=(95:Int))=dA c/\True:=by
 unfold dA;cases bE c <;> cases bJ c <;> cases hU c <;> simp
theorem uC (s:Str) (hs:Wf .str s) :
  if decide (s=[])=true then True/\false=bh bE s/\True else if decide ((24:Int) < (↑(List.length s):Int))=true then True/\false=bh bE s/\True else ((0:Int)<=(0:Int)/\(0:Int) < (↑(List.length s):Int))/\if (!bE (↑(UInt8.toNat (List.getD s (Int.toNat (0:Int)) (0:UInt8))):Int))=true then True/\false=bh bE s/\True else (∃(x:Nat),(x<=List.length s/\bh bE s=List.all (List.drop x s) fun (c:UInt8) ↦dA (bI c))/\(0:Int)=(↑x:Int)/\s=s/\false=false/\(↑(List.length s):Int)=(↑(List.length s):Int)/\True)/\∀(x:Nat),(x<=List.length s/\bh bE s=List.all (List.drop x s) fun (c:UInt8) ↦dA (bI c))→if decide ((↑x:Int) < (↑(List.length s):Int))=true then ((0:Int)<=(↑x:Int)/\(↑x:Int) < (↑(List.length s):Int))/\if (!dA (↑(UInt8.toNat (List.getD s (Int.toNat (↑x:Int)) (0:UInt8))):Int))=true then True/\false=bh bE s/\True else inR IntKind.i64 ((↑x:Int)+(1:Int))/\∃(y:Nat),(y<=List.length s/\bh bE s=List.all (List.drop y s) fun (c:UInt8) ↦dA (bI c))/\List.length s - y < List.length s - x/\(↑x:Int)+(1:Int)=(↑y:Int)/\s=s/\false=false/\(↑(List.length s):Int)=(↑(List.length s):Int)/\True else True/\true=bh bE s/\True:=by
 have hlen:=hs.str
 have eb:∀b:UInt8,(b.toNat:Int)=bI b:=fun _=>rfl
 simp only [hE,Int.toNat_natCast,Int.toNat_zero,true_and,and_true,eb,bh]
 generalize bE (bI (s.getD 0 0))=f0
 by_cases h0:s=[]
 ·simp [h0]
 have hpos:0 < s.length:=List.length_pos_iff.2 h0
 by_cases h1:s.length<=24
 ·rw [if_neg h0,if_neg (by omega)]
  refine ⟨by omega,?_⟩
  cases f0 with
  | false=>simp
  | true=>
   simp only [Bool.not_true,Bool.false_eq_true,if_false,h0,h1,decide_false,decide_true,Bool.not_false,Bool.true_and]
   refine ⟨⟨0,⟨by omega,rfl⟩,rfl⟩,?_⟩
   rintro k ⟨h3,h4⟩
   split
   ·have hk:k < s.length:=by omega
    rw [eM s k 0 hk,List.all_cons] at h4
    generalize dA (bI (s.getD k 0))=r at h4 ⊢
    refine ⟨by omega,?_⟩
    cases r with
    | false=>simpa using h4.symm
    | true=>
     simp only [Bool.not_true,Bool.false_eq_true,if_false]
     exact ⟨eG hk hlen,k+1,⟨by omega,by simpa using h4⟩,by omega,by omega⟩
   ·have hk:k=s.length:=by omega
    subst hk
    simpa using h4.symm
 ·rw [if_neg h0,if_pos (by omega)]
  simp [h1]
theorem uD (s:Str) (hs:Wf .str s) :
  if decide (s=[])=true then True/\false=bh bJ s/\True else if decide ((24:Int) < (↑(List.length s):Int))=true then True/\false=bh bJ s/\True else ((0:Int)<=(0:Int)/\(0:Int) < (↑(List.length s):Int))/\if (!bJ (↑(UInt8.toNat (List.getD s (Int.toNat (0:Int)) (0:UInt8))):Int))=true then True/\false=bh bJ s/\True else (∃(x:Nat),(x<=List.length s/\bh bJ s=List.all (List.drop x s) fun (c:UInt8) ↦dA (bI c))/\(0:Int)=(↑x:Int)/\s=s/\false=false/\(↑(List.length s):Int)=(↑(List.length s):Int)/\True)/\∀(x:Nat),(x<=List.length s/\bh bJ s=List.all (List.drop x s) fun (c:UInt8) ↦dA (bI c))→if decide ((↑x:Int) < (↑(List.length s):Int))=true then ((0:Int)<=(↑x:Int)/\(↑x:Int) < (↑(List.length s):Int))/\if (!dA (↑(UInt8.toNat (List.getD s (Int.toNat (↑x:Int)) (0:UInt8))):Int))=true then True/\false=bh bJ s/\True else inR IntKind.i64 ((↑x:Int)+(1:Int))/\∃(y:Nat),(y<=List.length s/\bh bJ s=List.all (List.drop y s) fun (c:UInt8) ↦dA (bI c))/\List.length s - y < List.length s - x/\(↑x:Int)+(1:Int)=(↑y:Int)/\s=s/\false=false/\(↑(List.length s):Int)=(↑(List.length s):Int)/\True else True/\true=bh bJ s/\True:=by
 have hlen:=hs.str
 have eb:∀b:UInt8,(b.toNat:Int)=bI b:=fun _=>rfl
 simp only [hE,Int.toNat_natCast,Int.toNat_zero,true_and,and_true,eb,bh]
 generalize bJ (bI (s.getD 0 0))=f0
 by_cases h0:s=[]
 ·simp [h0]
 have hpos:0 < s.length:=List.length_pos_iff.2 h0
 by_cases h1:s.length<=24
 ·rw [if_neg h0,if_neg (by omega)]
  refine ⟨by omega,?_⟩
  cases f0 with
  | false=>simp
  | true=>
   simp only [Bool.not_true,Bool.false_eq_true,if_false,h0,h1,decide_false,decide_true,Bool.not_false,Bool.true_and]
   refine ⟨⟨0,⟨by omega,rfl⟩,rfl⟩,?_⟩
   rintro k ⟨h3,h4⟩
   split
   ·have hk:k < s.length:=by omega
    rw [eM s k 0 hk,List.all_cons] at h4
    generalize dA (bI (s.getD k 0))=r at h4 ⊢
    refine ⟨by omega,?_⟩
    cases r with
    | false=>simpa using h4.symm
    | true=>
     simp only [Bool.not_true,Bool.false_eq_true,if_false]
     exact ⟨eG hk hlen,k+1,⟨by omega,by simpa using h4⟩,by omega,by omega⟩
   ·have hk:k=s.length:=by omega
    subst hk
    simpa using h4.symm
 ·rw [if_neg h0,if_pos (by omega)]
  simp [h1]
theorem xk (s:Str)  :
  if decide (s=[(109:UInt8),(111:UInt8),(100:UInt8),(117:UInt8),(108:UInt8),(101:UInt8)])=true then True/\true=bY s/\True else if decide (s=[(105:UInt8),(109:UInt8),(112:UInt8),(111:UInt8),(114:UInt8),(116:UInt8)])=true then True/\true=bY s/\True else if decide (s=[(112:UInt8),(105:UInt8),(110:UInt8)])=true then True/\true=bY s/\True else if decide (s=[(114:UInt8),(97:UInt8),(110:UInt8),(103:UInt8),(101:UInt8)])=true then True/\true=bY s/\True else if decide (s=[(116:UInt8),(121:UInt8),(112:UInt8),(101:UInt8)])=true then True/\true=bY s/\True else if decide (s=[(111:UInt8),(112:UInt8),(97:UInt8),(113:UInt8),(117:UInt8),(101:UInt8)])=true then True/\true=bY s/\True else if decide (s=[(108:UInt8),(101:UInt8),(116:UInt8)])=true then True/\true=bY s/\True else if decide (s=[(105:UInt8),(110:UInt8)])=true then True/\true=bY s/\True else if decide (s=[(101:UInt8),(120:UInt8),(112:UInt8),(111:UInt8),(114:UInt8),(116:UInt8)])=true then True/\true=bY s/\True else if decide (s=[(102:UInt8),(117:UInt8),(110:UInt8)])=true then True/\true=bY s/\True else if decide (s=[(105:UInt8),(102:UInt8)])=true then True/\true=bY s/\True else if decide (s=[(116:UInt8),(104:UInt8),(101:UInt8),(110:UInt8)])=true then True/\true=bY s/\True else if decide (s=[(101:UInt8),(108:UInt8),(115:UInt8),(101:UInt8)])=true then True/\true=bY s/\True else if decide (s=[(99:UInt8),(97:UInt8),(115:UInt8),(101:UInt8)])=true then True/\true=bY s/\True else if decide (s=[(111:UInt8),(102:UInt8)])=true then True/\true=bY s/\True else if decide (s=[(97:UInt8),(115:UInt8)])=true then True/\true=bY s/\True else if decide (s=[(110:UInt8),(101:UInt8),(119:UInt8)])=true then True/\true=bY s/\True else if decide (s=[(114:UInt8),(97:UInt8),(119:UInt8)])=true then True/\true=bY s/\True else if decide (s=[(116:UInt8),(114:UInt8),(117:UInt8),(101:UInt8)])=true then True/\true=bY s/\True else if decide (s=[(102:UInt8),(97:UInt8),(108:UInt8),(115:UInt8),(101:UInt8)])=true then True/\true=bY s/\True else True/\false=bY s/\True:=by
 refine ax (fun h=>?_) (fun h0=>?_)
 ·rw [Xo h];exact ⟨trivial,rfl,trivial⟩
 refine ax (fun h=>?_) (fun h1=>?_)
 ·rw [Xo h];exact ⟨trivial,rfl,trivial⟩
 refine ax (fun h=>?_) (fun h2=>?_)
 ·rw [Xo h];exact ⟨trivial,rfl,trivial⟩
 refine ax (fun h=>?_) (fun h3=>?_)
 ·rw [Xo h];exact ⟨trivial,rfl,trivial⟩
 refine ax (fun h=>?_) (fun h4=>?_)
 ·rw [Xo h];exact ⟨trivial,rfl,trivial⟩
 refine ax (fun h=>?_) (fun h5=>?_)
 ·rw [Xo h];exact ⟨trivial,rfl,trivial⟩
 refine ax (fun h=>?_) (fun h6=>?_)
 ·rw [Xo h];exact ⟨trivial,rfl,trivial⟩
 refine ax (fun h=>?_) (fun h7=>?_)
 ·rw [Xo h];exact ⟨trivial,rfl,trivial⟩
 refine ax (fun h=>?_) (fun h8=>?_)
 ·rw [Xo h];exact ⟨trivial,rfl,trivial⟩
 refine ax (fun h=>?_) (fun h9=>?_)
 ·rw [Xo h];exact ⟨trivial,rfl,trivial⟩
 refine ax (fun h=>?_) (fun h10=>?_)
 ·rw [Xo h];exact ⟨trivial,rfl,trivial⟩
 refine ax (fun h=>?_) (fun h11=>?_)
 ·rw [Xo h];exact ⟨trivial,rfl,trivial⟩
 refine ax (fun h=>?_) (fun h12=>?_)
 ·rw [Xo h];exact ⟨trivial,rfl,trivial⟩
 refine ax (fun h=>?_) (fun h13=>?_)
 ·rw [Xo h];exact ⟨trivial,rfl,trivial⟩
 refine ax (fun h=>?_) (fun h14=>?_)
 ·rw [Xo h];exact ⟨trivial,rfl,trivial⟩
 refine ax (fun h=>?_) (fun h15=>?_)
 ·rw [Xo h];exact ⟨trivial,rfl,trivial⟩
 refine ax (fun h=>?_) (fun h16=>?_)
 ·rw [Xo h];exact ⟨trivial,rfl,trivial⟩
 refine ax (fun h=>?_) (fun h17=>?_)
 ·rw [Xo h];exact ⟨trivial,rfl,trivial⟩
 refine ax (fun h=>?_) (fun h18=>?_)
 ·rw [Xo h];exact ⟨trivial,rfl,trivial⟩
 refine ax (fun h=>?_) (fun h19=>?_)
 ·rw [Xo h];exact ⟨trivial,rfl,trivial⟩
 refine ⟨trivial,?_,trivial⟩
 symm
 refine Xf fun hm=>?_
 unfold xx at hm
 rcases List.mem_cons.1 hm with e | hm
 ·exact h0 (Xd e)
 rcases List.mem_cons.1 hm with e | hm
 ·exact h1 (Xd e)
 rcases List.mem_cons.1 hm with e | hm
 ·exact h2 (Xd e)
 rcases List.mem_cons.1 hm with e | hm
 ·exact h3 (Xd e)
 rcases List.mem_cons.1 hm with e | hm
 ·exact h4 (Xd e)
 rcases List.mem_cons.1 hm with e | hm
 ·exact h5 (Xd e)
 rcases List.mem_cons.1 hm with e | hm
 ·exact h6 (Xd e)
 rcases List.mem_cons.1 hm with e | hm
 ·exact h7 (Xd e)
 rcases List.mem_cons.1 hm with e | hm
 ·exact h8 (Xd e)
 rcases List.mem_cons.1 hm with e | hm
 ·exact h9 (Xd e)
 rcases List.mem_cons.1 hm with e | hm
 ·exact h10 (Xd e)
 rcases List.mem_cons.1 hm with e | hm
 ·exact h11 (Xd e)
 rcases List.mem_cons.1 hm with e | hm
 ·exact h12 (Xd e)
 rcases List.mem_cons.1 hm with e | hm
 ·exact h13 (Xd e)
 rcases List.mem_cons.1 hm with e | hm
 ·exact h14 (Xd e)
 rcases List.mem_cons.1 hm with e | hm
 ·exact h15 (Xd e)
 rcases List.mem_cons.1 hm with e | hm
 ·exact h16 (Xd e)
 rcases List.mem_cons.1 hm with e | hm
 ·exact h17 (Xd e)
 rcases List.mem_cons.1 hm with e | hm
 ·exact h18 (Xd e)
 rcases List.mem_cons.1 hm with e | hm
 ·exact h19 (Xd e)
 exact absurd hm List.not_mem_nil
theorem xl (s:Str)  :
  if bh bE s=true then True/\(!bY s)=qt s/\True else True/\false=qt s/\True:=by
 unfold qt;cases bh bE s <;> simp
theorem wh (s:Str)  :
  True/\bh bJ s=po s/\True:=by
 simp [po]
theorem uE (a:List Str)  :
  True/\a=a/\True:=by
 trivial
theorem wi (a b:List Change) (ha:Wf (.lst (.st .change)) a) (hb:Wf (.lst (.st .change)) b) :
  if (!decide ((↑(List.length a):Int)=(↑(List.length b):Int)))=true then True/\false=eqC a b/\True else (∃(x:Nat),(x<=List.length a/\List.length a=List.length b/\eqC a b=eqC (List.drop x a) (List.drop x b))/\(0:Int)=(↑x:Int)/\a=a/\b=b/\false=false/\True)/\∀(x:Nat),x<=List.length a/\List.length a=List.length b/\eqC a b=eqC (List.drop x a) (List.drop x b)→if decide ((↑x:Int) < (↑(List.length a):Int))=true then ((0:Int)<=(↑x:Int)/\(↑x:Int) < (↑(List.length a):Int))/\((0:Int)<=(↑x:Int)/\(↑x:Int) < (↑(List.length b):Int))/\if (!(decide ((List.getD a (Int.toNat (↑x:Int)) (dfl (Ty.st SN.change))).kind=(List.getD b (Int.toNat (↑x:Int)) (dfl (Ty.st SN.change))).kind) && (decide ((List.getD a (Int.toNat (↑x:Int)) (dfl (Ty.st SN.change))).name=(List.getD b (Int.toNat (↑x:Int)) (dfl (Ty.st SN.change))).name) && true)))=true then True/\false=eqC a b/\True else inR IntKind.i64 ((↑x:Int)+(1:Int))/\∃(y:Nat),(y<=List.length a/\List.length a=List.length b/\eqC a b=eqC (List.drop y a) (List.drop y b))/\List.length a - y < List.length a - x/\(↑x:Int)+(1:Int)=(↑y:Int)/\a=a/\b=b/\false=false/\True else True/\true=eqC a b/\True:=by
 have ln:=ha.len
 simp only [Int.toNat_natCast,eq_self,true_and,and_true]
 refine ax (fun h=>?_) (fun h=>?_)
 ·have:a.length≠b.length:=by intro e;rw [e] at h;simp at h
  rw [tw this]
 have hl:a.length=b.length:=by simp at h;omega
 refine ⟨⟨0,⟨Nat.zero_le _,hl,by simp⟩,rfl⟩,?_⟩
 rintro k ⟨h1,_,h3⟩
 refine ax (fun h=>?_) (fun h=>?_)
 ·replace h:=Xo h
  have hk:k < a.length:=by omega
  have hk':k < b.length:=by omega
  rw [eM a k (dfl (.st .change)) hk,eM b k (dfl (.st .change)) hk'] at h3
  simp only [eqC] at h3
  refine ⟨by omega,by omega,ax (fun c=>?_) (fun c=>?_)⟩
  ·rw [Bool.not_eq_true'] at c
   rw [h3,c];rfl
  ·rw [Bool.not_eq_true',Bool.not_eq_false] at c
   rw [c,Bool.true_and] at h3
   exact ⟨eG hk ln,k+1,⟨by omega,hl,h3⟩,by omega,by omega⟩
 ·replace h:¬((k:Int) < (a.length:Int)):=fun e=>h (Xd e)
  have e:k=a.length:=by omega
  subst e
  rw [h3,List.drop_length,hl,List.drop_length];rfl
theorem uF (a:List Nam) (v:Nam) (ha:Wf (.lst (.st .nm)) a) :
  (∃(x:Nat),(x<=List.length a/\gr a v (0:Int)=gr (List.drop x a) v (↑x:Int))/\(0:Int)=(↑x:Int)/\a=a/\v=v/\(↑(List.length a):Int)=(↑(List.length a):Int)/\v=v/\True)/\∀(x:Nat),x<=List.length a/\gr a v (0:Int)=gr (List.drop x a) v (↑x:Int)→if decide ((↑x:Int) < (↑(List.length a):Int))=true then ((0:Int)<=(↑x:Int)/\(↑x:Int) < (↑(List.length a):Int))/\if (decide (v.pkg=(List.getD a (Int.toNat (↑x:Int)) (dfl (Ty.st SN.nm))).pkg) && (decide (v.name=(List.getD a (Int.toNat (↑x:Int)) (dfl (Ty.st SN.nm))).name) && true))=true then True/\(↑x:Int)=gr a v (0:Int)/\True else inR IntKind.i64 ((↑x:Int)+(1:Int))/\∃(y:Nat),(y<=List.length a/\gr a v (0:Int)=gr (List.drop y a) v (↑y:Int))/\List.length a - y < List.length a - x/\(↑x:Int)+(1:Int)=(↑y:Int)/\a=a/\v=v/\(↑(List.length a):Int)=(↑(List.length a):Int)/\v=v/\True else True/\(-1:Int)=gr a v (0:Int)/\True:=by
 have la:=ha.len
 simp only [Int.toNat_natCast,eq_self,true_and,and_true]
 refine ⟨⟨0,⟨by omega,by simp⟩,by simp⟩,?_⟩
 rintro k ⟨h1,h3⟩
 refine ax (fun h=>?_) (fun h=>?_)
 ·replace h:=Xo h
  have hk:k < a.length:=by omega
  rw [eM a k (dfl (.st .nm)) hk] at h3
  refine ⟨by omega,?_⟩
  rw [tx]
  by_cases e:a.getD k (dfl (.st .nm))=v
  ·rw [if_pos (Xd e.symm),h3,gr,if_pos e]
  ·rw [if_neg (fun q=>e (Xo q).symm)]
   exact ⟨eG hk la,k+1,⟨by omega,by rw [h3,gr,if_neg e];rfl⟩,by omega,by omega⟩
 ·replace h:¬((k:Int) < (a.length:Int)):=fun e=>h (Xd e)
  have e:k=a.length:=by omega
  subst e;rw [h3];simp [gr]
theorem pz (a:List Nam) (v:Nam)  :
  True/\decide ((0:Int)<=gr a v (0:Int))=isU a v.pkg v.name/\True:=by
 simp only [eq_self,true_and,and_true]
 rw [tz,Bool.eq_iff_iff];simp [qM a v 0 (by omega)]
theorem xm (g:Str) (c:List AL.Change) (u:List Nam) (hc:Wf (.lst (.st .change)) c) (ho:c.length<=500) :
  (∃(x:Nat),x<=List.length c/\af g u (List.take x c)=[]/\(0:Int)=(↑x:Int)/\g=g/\c=c/\u=u/\c=c/\(↑(List.length c):Int)=(↑(List.length c):Int)/\List.length (af g u (List.take x c))=(0:Nat)/\True)/\∀(x:Nat),x<=List.length c→if decide ((↑x:Int) < (↑(List.length c):Int))=true then ((0:Int)<=(↑x:Int)/\(↑x:Int) < (↑(List.length c):Int))/\if decide ((List.getD c (Int.toNat (↑x:Int)) (dfl (Ty.st SN.change))).kind=(2:Int))=true then if isU u g (List.getD c (Int.toNat (↑x:Int)) (dfl (Ty.st SN.change))).name=true then (List.length (af g u (List.take x c))=List.length (af g u (List.take x c))/\(List.length (af g u (List.take x c))+List.length [List.getD c (Int.toNat (↑x:Int)) (dfl (Ty.st SN.change))]) *(24:Nat)<=(140737488355328:Nat))/\inR IntKind.i64 ((↑x:Int)+(1:Int))/\∃(y:Nat),y<=List.length c/\List.length c - y < List.length c - x/\af g u (List.take x c)++[List.getD c (Int.toNat (↑x:Int)) (dfl (Ty.st SN.change))]=af g u (List.take y c)/\(↑x:Int)+(1:Int)=(↑y:Int)/\g=g/\c=c/\u=u/\c=c/\(↑(List.length c):Int)=(↑(List.length c):Int)/\List.length (af g u (List.take x c)++[List.getD c (Int.toNat (↑x:Int)) (dfl (Ty.st SN.change))])=List.length (af g u (List.take y c))/\True else inR IntKind.i64 ((↑x:Int)+(1:Int))/\∃(y:Nat),y<=List.length c/\List.length c - y < List.length c - x/\af g u (List.take x c)=af g u (List.take y c)/\(↑x:Int)+(1:Int)=(↑y:Int)/\g=g/\c=c/\u=u/\c=c/\(↑(List.length c):Int)=(↑(List.length c):Int)/\List.length (af g u (List.take x c))=List.length (af g u (List.take y c))/\True else if decide ((List.getD c (Int.toNat (↑x:Int)) (dfl (Ty.st SN.change))).kind=(3:Int))=true then if isU u g (List.getD c (Int.toNat (↑x:Int)) (dfl (Ty.st SN.change))).name=true then (List.length (af g u (List.take x c))=List.length (af g u (List.take x c))/\(List.length (af g u (List.take x c))+List.length [List.getD c (Int.toNat (↑x:Int)) (dfl (Ty.st SN.change))]) *(24:Nat)<=(140737488355328:Nat))/\inR IntKind.i64 ((↑x:Int)+(1:Int))/\∃(y:Nat),y<=List.length c/\List.length c - y < List.length c - x/\af g u (List.take x c)++[List.getD c (Int.toNat (↑x:Int)) (dfl (Ty.st SN.change))]=af g u (List.take y c)/\(↑x:Int)+(1:Int)=(↑y:Int)/\g=g/\c=c/\u=u/\c=c/\(↑(List.length c):Int)=(↑(List.length c):Int)/\List.length (af g u (List.take x c)++[List.getD c (Int.toNat (↑x:Int)) (dfl (Ty.st SN.change))])=List.length (af g u (List.take y c))/\True else inR IntKind.i64 ((↑x:Int)+(1:Int))/\∃(y:Nat),y<=List.length c/\List.length c - y < List.length c - x/\af g u (List.take x c)=af g u (List.take y c)/\(↑x:Int)+(1:Int)=(↑y:Int)/\g=g/\c=c/\u=u/\c=c/\(↑(List.length c):Int)=(↑(List.length c):Int)/\List.length (af g u (List.take x c))=List.length (af g u (List.take y c))/\True else if decide ((List.getD c (Int.toNat (↑x:Int)) (dfl (Ty.st SN.change))).kind=(4:Int))=true then if isU u g (List.getD c (Int.toNat (↑x:Int)) (dfl (Ty.st SN.change))).name=true then (List.length (af g u (List.take x c))=List.length (af g u (List.take x c))/\(List.length (af g u (List.take x c))+List.length [List.getD c (Int.toNat (↑x:Int)) (dfl (Ty.st SN.change))]) *(24:Nat)<=(140737488355328:Nat))/\inR IntKind.i64 ((↑x:Int)+(1:Int))/\∃(y:Nat),y<=List.length c/\List.length c - y < List.length c - x/\af g u (List.take x c)++[List.getD c (Int.toNat (↑x:Int)) (dfl (Ty.st SN.change))]=af g u (List.take y c)/\(↑x:Int)+(1:Int)=(↑y:Int)/\g=g/\c=c/\u=u/\c=c/\(↑(List.length c):Int)=(↑(List.length c):Int)
  /\List.length (af g u (List.take x c)++[List.getD c (Int.toNat (↑x:Int)) (dfl (Ty.st SN.change))])=List.length (af g u (List.take y c))/\True else inR IntKind.i64 ((↑x:Int)+(1:Int))/\∃(y:Nat),y<=List.length c/\List.length c - y < List.length c - x/\af g u (List.take x c)=af g u (List.take y c)/\(↑x:Int)+(1:Int)=(↑y:Int)/\g=g/\c=c/\u=u/\c=c/\(↑(List.length c):Int)=(↑(List.length c):Int)/\List.length (af g u (List.take x c))=List.length (af g u (List.take y c))/\True else inR IntKind.i64 ((↑x:Int)+(1:Int))/\∃(y:Nat),y<=List.length c/\List.length c - y < List.length c - x/\af g u (List.take x c)=af g u (List.take y c)/\(↑x:Int)+(1:Int)=(↑y:Int)/\g=g/\c=c/\u=u/\c=c/\(↑(List.length c):Int)=(↑(List.length c):Int)/\List.length (af g u (List.take x c))=List.length (af g u (List.take y c))/\True else True/\af g u (List.take x c)=af g u c/\True:=by
 have lc:=hc.len
 simp only [Int.toNat_natCast,eq_self,true_and,and_true]
 refine ⟨⟨0,Nat.zero_le _,rfl,rfl,rfl⟩,?_⟩
 intro k h1
 refine ax (fun h=>?_) (fun h=>?_)
 ·replace h:=Xo h
  have hk:k < c.length:=by omega
  have hl:=kd g u (c.take k)
  rw [List.length_take] at hl
  have ht:=qN g u c k (dfl (.st .change)) hk
  obtain ⟨x,hx⟩:∃x,c.getD k (dfl (.st .change))=x:=⟨_,rfl⟩
  simp only [hx] at ht ⊢
  have no:((decide (x.kind=2) || (decide (x.kind=3) || decide (x.kind=4))) && isU u g x.name)=false→inR .i64 ((k:Int)+1)/\∃y,y<=c.length/\c.length - y < c.length - k/\af g u (c.take k)=af g u (c.take y)/\(k:Int)+1=(y:Int)/\(af g u (c.take k)).length=(af g u (c.take y)).length:=fun e=>by
   rw [e] at ht
   exact ⟨eG hk lc,k+1,by omega,by omega,ht.symm,by omega,by rw [ht];rfl⟩
  have yes:((decide (x.kind=2) || (decide (x.kind=3) || decide (x.kind=4))) && isU u g x.name)=true→((af g u (c.take k)).length+[x].length) *24<=140737488355328/\inR .i64 ((k:Int)+1)/\∃y,y<=c.length/\c.length - y < c.length - k/\af g u (c.take k)++[x]=af g u (c.take y)/\(k:Int)+1=(y:Int)/\(af g u (c.take k)++[x]).length=(af g u (c.take y)).length:=fun e=>by
   rw [e] at ht
   exact ⟨by rw [List.length_singleton];omega,eG hk lc,k+1,by omega,by omega,ht.symm,by omega,by rw [ht];rfl⟩
  refine ⟨by omega,?_⟩
  cases k2:decide (x.kind=2) <;> cases k3:decide (x.kind=3) <;> cases k4:decide (x.kind=4) <;> cases ku:isU u g x.name <;>
   (rw [k2,k3,k4,ku] at no yes
    simp only [if_true,if_false,Bool.false_eq_true]
    repeat' (first | exact no rfl | exact yes rfl | refine ⟨by omega,?_⟩))
 ·replace h:¬((k:Int) < (c.length:Int)):=fun e=>h (Xd e)
  have e:k=c.length:=by omega
  rw [e,List.take_length]
theorem so (u:List Nam) (g q:Str) (hu:Wf (.lst (.st .nm)) u) :
  (∃(x:Nat),(x<=List.length u/\isU u g q=isU (List.drop x u) g q)/\(0:Int)=(↑x:Int)/\u=u/\g=g/\q=q/\True)/\∀(x:Nat),x<=List.length u/\isU u g q=isU (List.drop x u) g q→if decide ((↑x:Int) < (↑(List.length u):Int))=true then ((0:Int)<=(↑x:Int)/\(↑x:Int) < (↑(List.length u):Int))/\if decide ((List.getD u (Int.toNat (↑x:Int)) (dfl (Ty.st SN.nm))).pkg=g)=true then ((0:Int)<=(↑x:Int)/\(↑x:Int) < (↑(List.length u):Int))/\if decide ((List.getD u (Int.toNat (↑x:Int)) (dfl (Ty.st SN.nm))).name=q)=true then True/\true=isU u g q/\True else inR IntKind.i64 ((↑x:Int)+(1:Int))/\∃(y:Nat),(y<=List.length u/\isU u g q=isU (List.drop y u) g q)/\List.length u - y < List.length u - x/\(↑x:Int)+(1:Int)=(↑y:Int)/\u=u/\g=g/\q=q/\True else inR IntKind.i64 ((↑x:Int)+(1:Int))/\∃(y:Nat),(y<=List.length u/\isU u g q=isU (List.drop y u) g q)/\List.length u - y < List.length u - x/\(↑x:Int)+(1:Int)=(↑y:Int)/\u=u/\g=g/\q=q/\True else True/\false=isU u g q/\True:=by
 have lu:=hu.len
 simp only [Int.toNat_natCast,eq_self,true_and,and_true]
 refine ⟨⟨0,⟨Nat.zero_le _,rfl⟩,rfl⟩,?_⟩
 rintro k ⟨h1,h3⟩
 refine ax (fun h=>?_) (fun h=>?_)
 ·replace h:=Xo h
  have hk:k < u.length:=by omega
  rw [eM u k (dfl (.st .nm)) hk,isU] at h3
  have go:isU u g q=isU (u.drop (k+1)) g q→inR .i64 ((k:Int)+1)/\∃y,(y<=u.length/\isU u g q=isU (u.drop y) g q)/\u.length - y < u.length - k/\(k:Int)+1=(y:Int):=fun e=>⟨eG hk lu,k+1,⟨by omega,e⟩,by omega,by omega⟩
  refine ⟨by omega,ax (fun e1=>⟨by omega,ax (fun e2=>?_) (fun e2=>?_)⟩) (fun e1=>?_)⟩
  ·rw [h3,e1,e2];rfl
  ·exact go (by rw [h3,Bool.eq_false_iff.2 e2,Bool.and_false,Bool.false_or])
  ·exact go (by rw [h3,Bool.eq_false_iff.2 e1,Bool.false_and,Bool.false_or])
 ·replace h:¬((k:Int) < (u.length:Int)):=fun e=>h (Xd e)
  have e:k=u.length:=by omega
  subst e;rw [h3,List.drop_length,isU]
theorem sq (g:Str) (c:List AL.Change) (u:List Nam) (hc:Wf (.lst (.st .change)) c) (ho:c.length<=500) :
  (∃(x:Nat),x<=List.length c/\af g u (List.take x c)=[]/\(0:Int)=(↑x:Int)/\g=g/\c=c/\u=u/\List.length (af g u (List.take x c))=(0:Nat)/\True)/\∀(x:Nat),x<=List.length c→if decide ((↑x:Int) < (↑(List.length c):Int))=true then ((0:Int)<=(↑x:Int)/\(↑x:Int) < (↑(List.length c):Int))/\if decide ((List.getD c (Int.toNat (↑x:Int)) (dfl (Ty.st SN.change))).kind=(2:Int))=true then ((0:Int)<=(↑x:Int)/\(↑x:Int) < (↑(List.length c):Int))/\if isU u g (List.getD c (Int.toNat (↑x:Int)) (dfl (Ty.st SN.change))).name=true then ((0:Int)<=(↑x:Int)/\(↑x:Int) < (↑(List.length c):Int))/\(List.length (af g u (List.take x c))=List.length (af g u (List.take x c))/\(List.length (af g u (List.take x c))+List.length [List.getD c (Int.toNat (↑x:Int)) (dfl (Ty.st SN.change))]) *(24:Nat)<=(140737488355328:Nat))/\inR IntKind.i64 ((↑x:Int)+(1:Int))/\∃(y:Nat),y<=List.length c/\List.length c - y < List.length c - x/\af g u (List.take x c)++[List.getD c (Int.toNat (↑x:Int)) (dfl (Ty.st SN.change))]=af g u (List.take y c)/\(↑x:Int)+(1:Int)=(↑y:Int)/\g=g/\c=c/\u=u/\List.length (af g u (List.take x c)++[List.getD c (Int.toNat (↑x:Int)) (dfl (Ty.st SN.change))])=List.length (af g u (List.take y c))/\True else inR IntKind.i64 ((↑x:Int)+(1:Int))/\∃(y:Nat),y<=List.length c/\List.length c - y < List.length c - x/\af g u (List.take x c)=af g u (List.take y c)/\(↑x:Int)+(1:Int)=(↑y:Int)/\g=g/\c=c/\u=u/\List.length (af g u (List.take x c))=List.length (af g u (List.take y c))/\True else if decide ((List.getD c (Int.toNat (↑x:Int)) (dfl (Ty.st SN.change))).kind=(3:Int))=true then ((0:Int)<=(↑x:Int)/\(↑x:Int) < (↑(List.length c):Int))/\if isU u g (List.getD c (Int.toNat (↑x:Int)) (dfl (Ty.st SN.change))).name=true then ((0:Int)<=(↑x:Int)/\(↑x:Int) < (↑(List.length c):Int))/\(List.length (af g u (List.take x c))=List.length (af g u (List.take x c))/\(List.length (af g u (List.take x c))+List.length [List.getD c (Int.toNat (↑x:Int)) (dfl (Ty.st SN.change))]) *(24:Nat)<=(140737488355328:Nat))/\inR IntKind.i64 ((↑x:Int)+(1:Int))/\∃(y:Nat),y<=List.length c/\List.length c - y < List.length c - x/\af g u (List.take x c)++[List.getD c (Int.toNat (↑x:Int)) (dfl (Ty.st SN.change))]=af g u (List.take y c)/\(↑x:Int)+(1:Int)=(↑y:Int)/\g=g/\c=c/\u=u/\List.length (af g u (List.take x c)++[List.getD c (Int.toNat (↑x:Int)) (dfl (Ty.st SN.change))])=List.length (af g u (List.take y c))/\True else inR IntKind.i64 ((↑x:Int)+(1:Int))/\∃(y:Nat),y<=List.length c/\List.length c - y < List.length c - x/\af g u (List.take x c)=af g u (List.take y c)/\(↑x:Int)+(1:Int)=(↑y:Int)/\g=g/\c=c/\u=u/\List.length (af g u (List.take x c))=List.length (af g u (List.take y c))/\True else if decide ((List.getD c (Int.toNat (↑x:Int)) (dfl (Ty.st SN.change))).kind=(4:Int))=true then ((0:Int)<=(↑x:Int)/\(↑x:Int) < (↑(List.length c):Int))/\if isU u g (List.getD c (Int.toNat (↑x:Int)) (dfl (Ty.st SN.change))).name=true then ((0:Int)<=(↑x:Int)/\(↑x:Int) < (↑(List.length c):Int))/\(List.length (af g u (List.take x c))=List.length (af g u (List.take x c))/\(List.length (af g u (List.take x c))+List.length [List.getD c (Int.toNat (↑x:Int)) (dfl (Ty.st SN.change))]) *(24:Nat)<=(140737488355328:Nat))/\inR IntKind.i64 ((↑x:Int)+(1:Int))/\∃(y:Nat),y<=List.length c/\List.length c - y < List.length c - x/\af g u (List.take x c)++[List.getD c (Int.toNat (↑x:Int)) (dfl (Ty.st SN.change))]=af g u (List.take y c)/\(↑x:Int)+(1:Int)=(↑y:Int)/\g=g/\c=c/\u=u
  /\List.length (af g u (List.take x c)++[List.getD c (Int.toNat (↑x:Int)) (dfl (Ty.st SN.change))])=List.length (af g u (List.take y c))/\True else inR IntKind.i64 ((↑x:Int)+(1:Int))/\∃(y:Nat),y<=List.length c/\List.length c - y < List.length c - x/\af g u (List.take x c)=af g u (List.take y c)/\(↑x:Int)+(1:Int)=(↑y:Int)/\g=g/\c=c/\u=u/\List.length (af g u (List.take x c))=List.length (af g u (List.take y c))/\True else inR IntKind.i64 ((↑x:Int)+(1:Int))/\∃(y:Nat),y<=List.length c/\List.length c - y < List.length c - x/\af g u (List.take x c)=af g u (List.take y c)/\(↑x:Int)+(1:Int)=(↑y:Int)/\g=g/\c=c/\u=u/\List.length (af g u (List.take x c))=List.length (af g u (List.take y c))/\True else True/\af g u (List.take x c)=af g u c/\True:=by
 have lc:=hc.len
 simp only [Int.toNat_natCast,eq_self,true_and,and_true]
 refine ⟨⟨0,Nat.zero_le _,rfl,rfl,rfl⟩,?_⟩
 intro k h1
 refine ax (fun h=>?_) (fun h=>?_)
 ·replace h:=Xo h
  have hk:k < c.length:=by omega
  have hl:=kd g u (c.take k)
  rw [List.length_take] at hl
  have ht:=qN g u c k (dfl (.st .change)) hk
  obtain ⟨x,hx⟩:∃x,c.getD k (dfl (.st .change))=x:=⟨_,rfl⟩
  simp only [hx] at ht ⊢
  have no:((decide (x.kind=2) || (decide (x.kind=3) || decide (x.kind=4))) && isU u g x.name)=false→inR .i64 ((k:Int)+1)/\∃y,y<=c.length/\c.length - y < c.length - k/\af g u (c.take k)=af g u (c.take y)/\(k:Int)+1=(y:Int)/\(af g u (c.take k)).length=(af g u (c.take y)).length:=fun e=>by
   rw [e] at ht
   exact ⟨eG hk lc,k+1,by omega,by omega,ht.symm,by omega,by rw [ht];rfl⟩
  have yes:((decide (x.kind=2) || (decide (x.kind=3) || decide (x.kind=4))) && isU u g x.name)=true→((af g u (c.take k)).length+[x].length) *24<=140737488355328/\inR .i64 ((k:Int)+1)/\∃y,y<=c.length/\c.length - y < c.length - k/\af g u (c.take k)++[x]=af g u (c.take y)/\(k:Int)+1=(y:Int)/\(af g u (c.take k)++[x]).length=(af g u (c.take y)).length:=fun e=>by
   rw [e] at ht
   exact ⟨by rw [List.length_singleton];omega,eG hk lc,k+1,by omega,by omega,ht.symm,by omega,by rw [ht];rfl⟩
  refine ⟨by omega,?_⟩
  cases k2:decide (x.kind=2) <;> cases k3:decide (x.kind=3) <;> cases k4:decide (x.kind=4) <;> cases ku:isU u g x.name <;>
   (rw [k2,k3,k4,ku] at no yes
    simp only [if_true,if_false,Bool.false_eq_true]
    repeat' (first | exact no rfl | exact yes rfl | refine ⟨by omega,?_⟩))
 ·replace h:¬((k:Int) < (c.length:Int)):=fun e=>h (Xd e)
  have e:k=c.length:=by omega
  rw [e,List.take_length]
theorem kS (H:Str→List Nam→List AL.Change→List AL.Change) (S:List AL.Change→List AL.Change→Bool) (g:Str) (c:List AL.Change) (u:List Nam) (h1:∀l,S l l=true) :
  if decide ((500:Int) < (↑(List.length c):Int))=true then True/\true=true/\True else if decide ((200:Int) < (↑(List.length u):Int))=true then True/\true=true/\True else List.length c<=(500:Nat)/\List.length c<=(500:Nat)/\if S (H g u c) (H g u c)=true then True/\true=true/\True else True/\false=true/\True:=by
 refine ax (fun _=>⟨trivial,rfl,trivial⟩) (fun k=>ax (fun _=>⟨trivial,rfl,trivial⟩) (fun _=>?_))
 have k:¬(500:Int) < (c.length:Int):=fun z=>k (Xd z)
 exact ⟨by omega,by omega,ax (fun _=>⟨trivial,rfl,trivial⟩) (fun z=>absurd (h1 _) z)⟩
theorem uG (l:List Str) (ho:l.length *16<=140737488355328) :
  List.length l *(16:Nat)<=(140737488355328:Nat)/\List.length (List.mergeSort l fun (x y:Str) ↦decide (x<=y))=List.length (List.mergeSort l fun (x y:Str) ↦decide (x<=y))/\True/\decide ((↑(List.length (Lib.compact (List.mergeSort l fun (x y:Str) ↦decide (x<=y)))):Int)=(↑(List.length l):Int))=decide (List.Nodup l)/\True:=by
 have hc:=mU l
 unfold dD at hc
 refine ⟨ho,rfl,trivial,?_,trivial⟩
 rw [decide_eq_decide,←hc]
 omega
end Go.AL.Seat
end
section
open Go Go.AL Go.Proofs Go.Shelf Go.Pd
namespace Go.AL.Seat
variable [Tabs]
def nn:Nat→Bool:=fun _=>false
def cf (k:Nat→Bool) (l:Nat→List (Option Nat)) (p r m:Nat→Bool) (s:Nat→List AV→List (Nat × SObj)→Option Ans):Cfg:=⟨tbl,s,k,l,p,r,m⟩
def a0:An:=⟨[],[],[]⟩
theorem g1 (k:Nat→Bool) (l:Nat→List (Option Nat)) (p r m:Nat→Bool) {s:Nat→List AV→List (Nat × SObj)→Option Ans} (hS:b7 Tryz.prog s) (a:An) {f:Nat} {fn:Func} (hf:Tryz.prog.funcs[f]?=some fn)
  {args:List AV} {S:List (Nat × SObj)} {A:Ans} {Q:Prop} (q:Q) (h:fwp (cf k l p r m s) a fn args S A=Q:=by kernel_rfl):b8 Tryz.prog f args S A:=vC (C:=cf k l p r m s) mixed xz hS hf q h
theorem g0 {s:Nat→List AV→List (Nat × SObj)→Option Ans} (hS:b7 Tryz.prog s) (a:An) {f:Nat} {fn:Func} (hf:Tryz.prog.funcs[f]?=some fn)
  {args:List AV} {S:List (Nat × SObj)} {A:Ans} {Q:Prop} (q:Q) (h:fwp (cf nn (fun _=>[]) nn nn nn s) a fn args S A=Q:=by kernel_rfl):b8 Tryz.prog f args S A:=vC (C:=cf nn (fun _=>[]) nn nn nn s) mixed xz hS hf q h
theorem sc {f:Nat} {g:Pat} {l:List (Nat × Pat)} (h:aO Tryz.prog f g) (hl:b7 Tryz.prog (eE l)):b7 Tryz.prog (eE ((f,g) ::l)):=s4 h hl
theorem sn:b7 Tryz.prog (eE []):=ud
theorem ee {f:Nat} {fn:Func} (h:Tryz.prog.funcs[f]?=some fn) (e:(fn.body.isNone || (fn.name == "runtime.NumGoroutine"))=false:=by kernel_rfl):aU Tryz.prog f:=aU.mk' h e
variable [SeatLaid]
theorem ke:aO Tryz.prog 85 (p1 (.int .u8) fun c=>.ret (.bool (bE c))):=
 gx (ee Tryz.func85) fun c _ _=>g0 sn a0 Tryz.func85 (wc c)
theorem kf:aO Tryz.prog 94 (p1 (.int .u8) fun c=>.ret (.bool (bJ c))):=
 gx (ee Tryz.func94) fun c _ _=>g0 sn a0 Tryz.func94 (we c)
theorem uH:aO Tryz.prog 117 (p1 (.int .u8) fun c=>.ret (.bool (hU c))):=
 gx (ee Tryz.func117) fun c _ _=>g0 sn a0 Tryz.func117 (wg c)
theorem qO:aO Tryz.prog 116 (p1 (.int .u8) fun c=>.ret (.bool (dA c))):=
 gx (ee Tryz.func116) fun c _ _=>g0 (sc ke (sc kf (sc uH sn))) a0 Tryz.func116 (xj c)
theorem su:aO Tryz.prog 84 (pf .str 85 fun s=>.ret (.bool (bh bE s))):=
 xu (ee Tryz.func84) fun s hs _=>g0 (sc ke (sc kf (sc qO sn))) ⟨[(4,fun S0=>⟨Nat,fun k=>k<=s.length/\bh bE s=(s.drop k).all fun c=>dA (bI c),fun k=>[(22,.int .i64 k)],fun _=>[],fun k=>s.length - k⟩)],[],[]⟩ Tryz.func84 (uC s hs)
theorem sw:aO Tryz.prog 84 (pf .str 94 fun s=>.ret (.bool (bh bJ s))):=
 xu (ee Tryz.func84) fun s hs _=>g0 (sc ke (sc kf (sc qO sn))) ⟨[(4,fun S0=>⟨Nat,fun k=>k<=s.length/\bh bJ s=(s.drop k).all fun c=>dA (bI c),fun k=>[(22,.int .i64 k)],fun _=>[],fun k=>s.length - k⟩)],[],[]⟩ Tryz.func84 (uD s hs)
theorem wj:aO Tryz.prog 86 (p1 .str fun s=>.ret (.bool (bY s))):=
 gx (ee Tryz.func86) fun s _ _=>g0 sn a0 Tryz.func86 (xk s)
theorem wk:aO Tryz.prog 50 (p1 .str fun s=>.ret (.bool (qt s))):=
 gx (ee Tryz.func50) fun s _ _=>g0 (sc su (sc wj sn)) a0 Tryz.func50 (xl s)
theorem uI:aO Tryz.prog 55 (p1 .str fun s=>.ret (.bool (po s))):=
 gx (ee Tryz.func55) fun s _ _=>g0 (sc sw sn) a0 Tryz.func55 (wh s)
theorem sx:aO Tryz.prog 96 (p1 (.lst .str) fun a=>⟨none,none,.fn 145 [.ptr 1 0],[(1,.box (.lst .str a none))]⟩):=
 gx (ee Tryz.func96) fun a _ _=>g0 sn a0 Tryz.func96 (uE a)
theorem uJ:aO Tryz.prog 18 (p2 (.lst (.st .change)) (.lst (.st .change)) fun a b=>.ret (.bool (eqC a b))):=
 kH (ee Tryz.func18) fun a b ha hb _=>g0 sn ⟨[(4,fun S0=>⟨Nat,fun k=>k<=a.length/\a.length=b.length/\eqC a b=eqC (a.drop k) (b.drop k),fun k=>[(5,.int .i64 k)],fun _=>[],fun k=>a.length - k⟩)],[],[]⟩ Tryz.func18 (wi a b ha hb)
theorem sy:aO Tryz.prog 70 (p2 (.lst (.st .nm)) (.st .nm) fun a v=>.ret (.int .i64 (gr a v 0))):=
 kH (ee Tryz.func70) fun a v ha _ _=>g0 sn ⟨[(2,fun S0=>⟨Nat,fun k=>k<=a.length/\gr a v 0=gr (a.drop k) v k,fun k=>[(8,.int .i64 k)],fun _=>[],fun k=>a.length - k⟩)],[],[]⟩ Tryz.func70 (uF a v ha)
theorem nH:aO Tryz.prog 37 (p2 (.lst (.st .nm)) (.st .nm) fun a v=>.ret (.bool (isU a v.pkg v.name))):=
 kH (ee Tryz.func37) fun a v _ _ _=>g0 (sc sy sn) a0 Tryz.func37 (pz a v)
theorem wm:aO Tryz.prog 19 (p3 .str (.lst (.st .change)) (.lst (.st .nm)) fun g c u=>⟨some (c.length<=500),none,.lst (.st .change) (af g u c) none,[]⟩):=
 vB (ee Tryz.func19) fun g c u _ hc _ ho=>g0 (sc nH sn) ⟨[(3,fun S0=>⟨Nat,fun k=>k<=c.length,fun k=>[(7,.lst (.st .change) (af g u (c.take k)) (some 701)),(13,.int .i64 k)],fun k=>[(701,.tail (.st .change) (af g u (c.take k)).length)],fun k=>c.length - k⟩)],[],[]⟩ Tryz.func19 (xm g c u hc (ho _ rfl))
theorem qP:aO Tryz.prog 39 (p3 (.lst (.st .nm)) .str .str fun u g q=>.ret (.bool (isU u g q))):=
 vB (ee Tryz.func39) fun u g q hu _ _ _=>g0 sn ⟨[(2,fun S0=>⟨Nat,fun k=>k<=u.length/\isU u g q=isU (u.drop k) g q,fun k=>[(7,.int .i64 k)],fun _=>[],fun k=>u.length - k⟩)],[],[]⟩ Tryz.func39 (so u g q hu)
theorem qQ:aO Tryz.prog 20 (p3 .str (.lst (.st .change)) (.lst (.st .nm)) fun g c u=>⟨some (c.length<=500),none,.lst (.st .change) (af g u c) none,[]⟩):=
 vB (ee Tryz.func20) fun g c u _ hc _ ho=>g0 (sc qP sn) ⟨[(3,fun S0=>⟨Nat,fun k=>k<=c.length,fun k=>[(7,.lst (.st .change) (af g u (c.take k)) (some 701)),(8,.int .i64 k)],fun k=>[(701,.tail (.st .change) (af g u (c.take k)).length)],fun k=>c.length - k⟩)],[],[]⟩ Tryz.func20 (sq g c u hc (ho _ rfl))
theorem iZ (H:Str→List Nam→List AL.Change→List AL.Change) (S:List AL.Change→List AL.Change→Bool) (g:Str) (c:List AL.Change) (u:List Nam) (h1:∀l,S l l=true) (hA:aO Tryz.prog 19 (p3 .str (.lst (.st .change)) (.lst (.st .nm)) fun g c u=>⟨some (c.length<=500),none,.lst (.st .change) (H g u c) none,[]⟩)) (hB:aO Tryz.prog 20 (p3 .str (.lst (.st .change)) (.lst (.st .nm)) fun g c u=>⟨some (c.length<=500),none,.lst (.st .change) (H g u c) none,[]⟩)) (hS:aO Tryz.prog 18 (p2 (.lst (.st .change)) (.lst (.st .change)) fun a b=>.ret (.bool (S a b)))) (hW:aO Tryz.prog 7 (p0 (.ret (.bool true)))):b8 Tryz.prog 5 [.str g,.lst (.st .change) c none,.lst (.st .nm) u none] [] (.ret (.bool true)):=
 g0 (sc (hW) (sc (hA) (sc (hB) (sc (hS) sn)))) a0 Tryz.func5 (kS H S g c u h1)
theorem sA:aO Tryz.prog 56 (p1 (.lst .str) fun l=>⟨some (l.length *16<=140737488355328),none,.bool (decide l.Nodup),[]⟩):=
 gx (ee Tryz.func56) fun l _ ho=>g0 (sc sx (sc (sa) (sc (qC) sn))) a0 Tryz.func56 (uG l (ho _ rfl))
end Go.AL.Seat
end
noncomputable section
namespace Go.AL.Seat
open Go Go.AL Go.Proofs Go.Shelf Go.Pd
variable [Tabs]
def yb (t:Str):Bool:=!t.isEmpty && decide (t.length<=15) && t.all fun c=>decide (48<=c.toNat) && decide (c.toNat<=57)
theorem xn {t:Str} (h:yb t=true):o8 t:=by
 unfold yb at h
 simp only [Bool.and_eq_true,Bool.not_eq_true',decide_eq_true_eq,List.all_eq_true] at h
 exact ⟨fun e=>(by rw [e] at h;exact absurd h.1.1 (by decide)),h.1.2,h.2⟩
def ng:List (Nat × Pat):=
 [(165,p1 .str fun s=>.ret (.tup [.int .i32 ((gz s).1:Int),.int .i64 ((gz s).2:Int)])),
  (175,p2 .str (.int .u8) fun a c=>.ret (.int .i64 (vK a c))),
  (119,q2 .str .str (fun _ b=>decide (b=mV)) fun a _=>.str (mW a)),
  (173,q2 .str .str (fun a b=>decide (b=[45]) && decide (a.length < 4294967281)) fun a _=>.tup [.str (fE a),.str (iY a),.bool (k7 a)]),
  (87,q2 .str .str (fun a b=>decide (b=[46]) && decide (a.length < 4294967281)) fun a _=>.lst .str (splitB 46 a) none),
  (177,q2 .str .str (fun _ b=>decide (b.length=1)) fun a b=>.bool (decide (b.getD 0 0∈a))),
  (174,q1 .str yb fun t=>.tup [.int .i64 (iG t),.nilif]),
  (50,p1 .str fun s=>.ret (.bool (qt s))),(55,p1 .str fun s=>.ret (.bool (po s)))]
theorem nh [SeatLaid]:b7 Tryz.prog (eE ng):=
 sc n9 (sc nG (sc (tq vR fun _ _ h=>Xo h)
  (sc (tq wY fun _ _ h=>by rw [Bool.and_eq_true] at h;exact ⟨Xo h.1,Xo h.2⟩)
  (sc (tq uo fun _ _ h=>by rw [Bool.and_eq_true] at h;exact ⟨Xo h.1,Xo h.2⟩)
  (sc (tq pr fun _ _ h=>Xo h) (sc (wb vQ fun _ h=>xn h)
  (sc wk (sc uI sn))))))))
end Go.AL.Seat
end
noncomputable section
namespace Go.AL.Seat
open Go Go.AL Go.Proofs
variable [Tabs]
def aj:List (Nat × TR):=[(3,r2),(9,r9),(56,⟨.strct false [(0,3),(1,9),(2,9),(3,3),(4,24),(5,24),(6,51),(7,54),(8,3)],9,152,[.int .i64 0,.str [],.str [],.int .i64 0,.nils,.nils,.nils,.nils,.int .i64 0],some (.st .term)⟩),(53,⟨.strct false [(0,3),(1,9),(2,9),(3,24),(4,51)],5,88,[.int .i64 0,.str [],.str [],.nils,.nils],some (.st .shape)⟩),(109,⟨.strct true [(0,3),(1,9),(2,3)],3,32,[.int .i64 0,.str [],.int .i64 0],some (.st .token)⟩),(24,⟨.slice 9,1,24,[.nils],some (.lst .str)⟩),(188,⟨.strct false [(0,186)],4,48,[.nils,.int .i64 0,.int .i64 0,.int .i64 0],some (.st .par)⟩),(183,⟨.ptr 188,1,8,[.nilp],none⟩),(5,r5),(257,uz),(61,⟨.strct true [(0,3),(1,3),(2,3),(3,9)],4,40,[.int .i64 0,.int .i64 0,.int .i64 0,.str []],some (.st .version)⟩),(69,⟨.strct true [(0,67),(1,3)],2,16,[.int .i64 0,.int .i64 0],some (.st .fault)⟩),(106,xf),(51,⟨.slice 53,1,24,[.nils],some (.lst (.st .shape))⟩),(4,⟨.bool,1,1,[.bool false],some .bool⟩),(132,xh),(54,⟨.slice 56,1,24,[.nils],some (.lst (.st .term))⟩),(130,xg),(67,r2),(186,⟨.strct false [(0,99),(1,3),(2,69)],4,48,[.nils,.int .i64 0,.int .i64 0,.int .i64 0],some (.st .par)⟩),(99,⟨.slice 109,1,24,[.nils],some (.lst (.st .token))⟩),(26,⟨.strct false [(0,9),(1,22),(2,23),(3,24),(4,3)],5,96,[.str [],.nils,.nils,.nils,.int .i64 0],some (.st .modu)⟩),(121,⟨.slice 3,1,24,[.nils],some (.lst (.int .i64))⟩),(128,⟨.ptr 132,1,8,[.nilp],none⟩),(104,uv),(58,⟨.strct false [(0,3),(1,9),(2,53),(7,56),(16,3)],17,272,[.int .i64 0,.str [],.int .i64 0,.str [],.str [],.nils,.nils,.int .i64 0,.str [],.str [],.int .i64 0,.nils,.nils,.nils,.nils,.int .i64 0,.int .i64 0],some (.st .decl)⟩),(62,⟨.slice 66,1,24,[.nils],some (.lst (.st .bound))⟩),(64,⟨.strct false [(0,9),(1,61),(5,62),(6,3)],7,88,[.str [],.int .i64 0,.int .i64 0,.int .i64 0,.str [],.nils,.int .i64 0],some (.st .imp)⟩),(1,r1),(66,⟨.strct true [(0,3),(1,61)],5,48,[.int .i64 0,.int .i64 0,.int .i64 0,.int .i64 0,.str []],some (.st .bound)⟩),(22,⟨.slice 64,1,24,[.nils],some (.lst (.st .imp))⟩),(229,⟨.slice 5,1,24,[.nils],some (.lst (.int .u8))⟩),(182,⟨.map 9 3,1,8,[.nilm],none⟩),(107,r1),(23,⟨.slice 58,1,24,[.nils],some (.lst (.st .decl))⟩),(224,⟨.arr 3 3,3,24,[.int .i64 0,.int .i64 0,.int .i64 0],none⟩),(21,r21),(240,uw),(199,r1),(152,r1),(113,r1),(20,r20),(239,uw),(256,uz),(185,uv),(187,⟨.strct false [(0,186)],4,48,[.nils,.int .i64 0,.int .i64 0,.int .i64 0],none⟩),(65,⟨.strct true [(0,3),(1,61)],5,48,[.int .i64 0,.int .i64 0,.int .i64 0,.int .i64 0,.str []],none⟩),(52,⟨.strct false [(0,3),(1,9),(2,9),(3,24),(4,51)],5,88,[.int .i64 0,.str [],.str [],.nils,.nils],none⟩),(55,⟨.strct false [(0,3),(1,9),(2,9),(3,3),(4,24),(5,24),(6,51),(7,54),(8,3)],9,152,[.int .i64 0,.str [],.str [],.int .i64 0,.nils,.nils,.nils,.nils,.int .i64 0],none⟩),(57,⟨.strct false [(0,3),(1,9),(2,53),(7,56),(16,3)],17,272,[.int .i64 0,.str [],.int .i64 0,.str [],.str [],.nils,.nils,.int .i64 0,.str [],.str [],.int .i64 0,.nils,.nils,.nils,.nils,.int .i64 0,.int .i64 0],none⟩),(60,⟨.strct true [(0,3),(1,3),(2,3),(3,9)],4,40,[.int .i64 0,.int .i64 0,.int .i64 0,.str []],none⟩),(63,⟨.strct false [(0,9),(1,61),(5,62),(6,3)],7,88,[.str [],.int .i64 0,.int .i64 0,.int .i64 0,.str [],.nils,.int .i64 0],none⟩),(131,xh),(129,xg),(108,⟨.strct true [(0,3),(1,9),(2,3)],3,32,[.int .i64 0,.str [],.int .i64 0],none⟩),(105,xf),(103,uv),(68,⟨.strct true [(0,67),(1,3)],2,16,[.int .i64 0,.int .i64 0],none⟩),(25,⟨.strct false [(0,9),(1,22),(2,23),(3,24),(4,3)],5,96,[.str [],.nils,.nils,.nils,.int .i64 0],none⟩)]
theorem qR:aD Tryz.prog aj:=.cons tk (.cons tk (.cons tk (.cons tk (.cons tk (.cons tk (.cons tk (.cons tk (.cons tk (.cons tk (.cons tk (.cons tk (.cons tk (.cons tk (.cons tk (.cons tk (.cons tk (.cons tk (.cons tk (.cons tk (.cons tk (.cons tk (.cons tk (.cons tk (.cons tk (.cons tk (.cons tk (.cons tk (.cons tk (.cons tk (.cons tk (.cons tk (.cons tk (.cons tk (.cons tk (.cons tk (.cons tk (.cons tk (.cons tk (.cons tk (.cons tk (.cons tk (.cons tk (.cons tk (.cons tk (.cons tk (.cons tk (.cons tk (.cons tk (.cons tk (.cons tk (.cons tk (.cons tk (.cons tk (.cons tk (.cons tk (.cons tk (.cons tk (.cons tk (.nil)))))))))))))))))))))))))))))))))))))))))))))))))))))))))))
end Go.AL.Seat
end
noncomputable section
namespace Go.AL.Seat
open Go Go.AL Go.Proofs
set_option maxRecDepth 1000000
variable [Tabs]
def wo (f:Nat):List (Option Nat):=if Nat.beq f 72 || Nat.beq f 73 then [some 2] else if Nat.beq f 42 || (Nat.beq f 43 || (Nat.beq f 47 || (Nat.beq f 48 || (Nat.beq f 49 || Nat.beq f 77)))) then [some 4] else []
def wq (f:Nat):Bool:=false
def ni:List (Nat × FB):=(23,ah aj Tryz.f23 288511851128455421 [] (fun _=>false) (fun _=>false) (fun _=>false) false) ::(41,ah aj Tryz.f41 77975715369647181664879229 [] (fun _=>false) (fun _=>false) (fun _=>false) false) ::(42,ah aj Tryz.f42 259 [] (fun _=>false) (fun _=>false) (fun _=>false) false) ::(43,ah aj Tryz.f43 65587 [] (fun _=>false) (fun _=>false) (fun _=>false) false) ::(44,ah aj Tryz.f44 19380592045697041145266237 [] (fun _=>false) (fun _=>false) (fun _=>false) false) ::(45,ah aj Tryz.f45 38685626517024445242019965 [] (fun _=>false) (fun _=>false) (fun _=>false) false) ::(46,ah aj Tryz.f46 1180591655902890688517 [] (fun _=>false) (fun _=>false) (fun _=>false) false) ::(47,ah aj Tryz.f47 5 [] (fun _=>false) (fun _=>false) (fun _=>false) false) ::(48,ah aj Tryz.f48 263 [] (fun _=>false) (fun _=>false) (fun _=>false) false) ::(49,ah aj Tryz.f49 5 [] (fun _=>false) (fun _=>false) (fun _=>false) false) ::(72,ah aj Tryz.f72 65555 [] (fun _=>false) (fun _=>false) (fun _=>false) false) ::(73,ah aj Tryz.f73 4294967347 [] (fun _=>false) (fun _=>false) (fun _=>false) false) ::(74,ah aj Tryz.f74 5 [] (fun _=>false) (fun _=>false) (fun _=>false) false) ::(75,ah aj Tryz.f75 8388935 [] (fun _=>false) (fun _=>false) (fun _=>false) false) ::(76,ah aj Tryz.f76 87112288527988523651034566703108870643455 [] (fun _=>false) (fun _=>false) (fun d=>Nat.beq d 21) false) ::(77,ah aj Tryz.f77 67108915 [] (fun _=>false) (fun _=>false) (fun _=>false) false) ::(78,ah aj Tryz.f78 19 [] (fun _=>false) (fun _=>false) (fun _=>false) false) ::(79,ah aj Tryz.f79 8388807 [] (fun _=>false) (fun _=>false) (fun _=>false) false) ::(80,ah aj Tryz.f80 13 [] (fun _=>false) (fun _=>false) (fun _=>false) false) ::(81,ah aj Tryz.f81 2361185498182472704253 [] (fun _=>false) (fun _=>false) (fun _=>false) false) ::(53,ah aj Tryz.f53 659706875863 [] (fun _=>false) (fun _=>false) (fun _=>false) false) ::(82,ah aj Tryz.f82 9016029707634675 [] (fun _=>false) (fun _=>false) (fun _=>false) false) ::(83,ah aj Tryz.f83 134250995 [] (fun _=>false) (fun _=>false) (fun _=>false) false) ::(113,ah aj Tryz.f113 549890048253 [] (fun _=>false) (fun _=>false) (fun _=>false) false) ::(114,ah aj Tryz.f114 71 [] (fun _=>false) (fun _=>false) (fun _=>false) false) ::(115,ah aj Tryz.f115 79 [] (fun _=>false) (fun _=>false) (fun _=>false) false) ::(85,ah aj Tryz.f85 5 [] (fun _=>false) (fun _=>false) (fun _=>false) false) ::(94,ah aj Tryz.f94 5 [] (fun _=>false) (fun _=>false) (fun _=>false) false) ::(116,ah aj Tryz.f116 5 [] (fun _=>false) (fun _=>false) (fun _=>false) false) ::(86,ah aj Tryz.f86 29 [] (fun _=>false) (fun _=>false) (fun _=>false) false) ::(117,ah aj Tryz.f117 5 [] (fun _=>false) (fun _=>false) (fun _=>false) false) ::(118,ah aj Tryz.f118 5 [] (fun _=>false) (fun _=>false) (fun _=>false) false) ::(120,ah aj Tryz.f120 151115799509488183025661 [] (fun _=>false) (fun _=>false) (fun _=>false) false) ::(121,ah aj Tryz.f121 618970019647202533975261693 [] (fun _=>false) (fun _=>false) (fun _=>false) false) ::(122,ah aj Tryz.f122 29 [] (fun _=>false) (fun _=>false) (fun _=>false) false) ::(123,ah aj Tryz.f123 19 [] (fun _=>false) (fun _=>false) (fun _=>false) false) ::(124,ah aj Tryz.f124 66483 [] (fun _=>false) (fun _=>false) (fun _=>false) false) ::(125,ah aj Tryz.f125 4195343 [] (fun _=>false) (fun _=>false) (fun _=>false) false) ::(90,ah aj Tryz.f90 36909250894291276799 [] (fun _=>false) (fun _=>false) (fun d=>Nat.beq d 17 || Nat.beq d 22 || Nat.beq d 27 || Nat.beq d 29 || Nat.beq d 43 || Nat.beq d 46 || Nat.beq d 63) false) ::(126,ah aj Tryz.f126 33816627 [] (fun _=>false) (fun _=>false) (fun _=>false) false) ::(127,ah aj Tryz.f127 5 [] (fun _=>false) (fun _=>false) (fun _=>false) false) ::(128,ah aj Tryz.f128 268439557 [] (fun _=>false) (fun _=>false) (fun _=>false) false) ::(129,ah aj Tryz.f129 81129648086015544455969055506495 [] (fun _=>false) (fun _=>false) (fun _=>false) false) ::(93,ah aj Tryz.f93 74783 [] (fun _=>false) (fun _=>false) (fun _=>false) false) ::(130,ah aj Tryz.f130 263 [] (fun _=>false) (fun _=>false) (fun _=>false) false) ::(131,ah aj Tryz.f131 2228285 [] (fun _=>false) (fun _=>false) (fun _=>false) false) ::(133,ah aj Tryz.f133 5 [] (fun _=>false) (fun _=>false) (fun _=>false) false) ::(51,ah aj Tryz.f51 9316337836119 [] (fun _=>false) (fun _=>false) (fun _=>false) false) ::(176,ah aj Tryz.f176 5 [] (fun _=>false) (fun _=>false) (fun _=>false) false) ::(178,ah aj Tryz.f178 66483 [] (fun _=>false) (fun _=>false) (fun _=>false) false) ::(134,ah aj Tryz.f134 604275 [] (fun _=>false) (fun _=>false) (fun _=>false) false) ::(30,ah aj Tryz.f30 17389 [] (fun _=>false) (fun _=>false) (fun _=>false) false) ::(135,ah aj Tryz.f135 2623603 [] (fun _=>false) (fun _=>false) (fun _=>false) false) ::(179,ah aj Tryz.f179 3 [] (fun d=>Nat.beq d 8) (fun _=>false) (fun _=>false) false) ::(180,ah aj Tryz.f180 7 [] (fun d=>Nat.beq d 15) (fun _=>false) (fun _=>false) false) ::(182,ah aj Tryz.f182 275 [] (fun _=>false) (fun _=>false) (fun _=>false) false) ::(181,ah aj Tryz.f181 131 [] (fun _=>false) (fun _=>false) (fun _=>false) false) ::(184,ah aj Tryz.f184 7 [] (fun _=>false) (fun _=>false) (fun _=>false) false) ::(183,ah aj Tryz.f183 271375 [] (fun _=>false) (fun _=>false) (fun _=>false) false) ::(186,ah aj Tryz.f186 32819 [] (fun _=>false) (fun _=>false) (fun _=>false) false) ::(187,ah aj Tryz.f187 15 [] (fun _=>false) (fun _=>false) (fun _=>false) false) ::(188,ah aj Tryz.f188 17180524607 [] (fun _=>false) (fun _=>false) (fun _=>false) false) ::(141,ah aj Tryz.f141 2223863 [] (fun _=>false) (fun _=>false) (fun _=>false) false) ::(142,ah aj Tryz.f142 7 [] (fun _=>false) (fun _=>false) (fun _=>false) false) ::(189,ah aj Tryz.f189 324677087359430077278579446644799 [] (fun d=>Nat.beq d 129) (fun _=>false) (fun _=>false) false) ::(91,ah aj Tryz.f91 299063 [] (fun _=>false) (fun _=>false) (fun _=>false) false) ::(88,ah aj Tryz.f88 18014398524686365 [] (fun _=>false) (fun _=>false) (fun _=>false) false) ::(193,ah aj Tryz.f193 5 [] (fun _=>false) (fun _=>false) (fun _=>false) false) ::(194,ah aj Tryz.f194 19 [] (fun _=>false) (fun _=>false) (fun _=>false) false) ::(224,ah aj Tryz.f224 51 [] (fun _=>false) (fun _=>false) (fun _=>false) false) ::(185,ah aj Tryz.f185 65587 [] (fun _=>false) (fun _=>false) (fun _=>false) false) ::(225,ah aj Tryz.f225 23945973599159813139139346461134680183357916012085311 [] (fun _=>false) (fun _=>false) (fun _=>false) false) ::(226,ah aj Tryz.f226 3 [] (fun d=>Nat.beq d 8) (fun _=>false) (fun _=>false) false) ::(202,ah aj Tryz.f202 3537148372723500476506894142080440715070649430595550180525943565456506895 [] (fun _=>false) (fun _=>false) (fun _=>false) false) ::(203,ah aj Tryz.f203 27 [] (fun _=>false) (fun _=>false) (fun _=>false) false) ::(227,ah aj Tryz.f227 7 [] (fun d=>Nat.beq d 21) (fun _=>false) (fun _=>false) false) ::(229,ah aj Tryz.f229 149971 [] (fun _=>false) (fun _=>false) (fun _=>false) false) ::(230,ah aj Tryz.f230 3 [] (fun d=>Nat.beq d 8) (fun _=>false) (fun _=>false) false) ::(136,ah aj Tryz.f136 31 [] (fun _=>false) (fun _=>false) (fun _=>false) false) ::(137,ah aj Tryz.f137 2159703 [] (fun _=>false) (fun _=>false) (fun _=>false) false) ::(138,ah aj Tryz.f138 10141204803006463002229839257615 [] (fun _=>false) (fun _=>false) (fun _=>false) false) ::(268,ah aj Tryz.f268 3 [] (fun d=>Nat.beq d 23) (fun _=>false) (fun _=>false) false) ::(269,ah aj Tryz.f269 13 [] (fun _=>false) (fun _=>false) (fun _=>false) false) ::(236,ah aj Tryz.f236 7 [] (fun _=>false) (fun _=>false) (fun _=>false) false) ::(237,ah aj Tryz.f237 27 [] (fun _=>false) (fun _=>false) (fun _=>false) false) ::(238,ah aj Tryz.f238 7 [] (fun _=>false) (fun _=>false) (fun _=>false) false) ::(239,ah aj Tryz.f239 2098133 [] (fun _=>false) (fun _=>false) (fun _=>false) false) ::(240,ah aj Tryz.f240 13 [] (fun _=>false) (fun _=>false) (fun _=>false) false) ::(241,ah aj Tryz.f241 27 [] (fun _=>false) (fun _=>false) (fun _=>false) false) ::(243,ah aj Tryz.f243 15 [] (fun _=>false) (fun _=>false) (fun _=>false) false) ::(242,ah aj Tryz.f242 19 [] (fun _=>false) (fun _=>false) (fun _=>false) false) ::(228,ah aj Tryz.f228 5 [] (fun _=>false) (fun _=>false) (fun _=>false) false) ::(196,ah aj Tryz.f196 33071 [] (fun _=>false) (fun _=>false) (fun _=>false) false) ::(198,ah aj Tryz.f198 17 [] (fun _=>false) (fun _=>false) (fun _=>false) false) ::(197,ah aj Tryz.f197 246479 [] (fun _=>false) (fun _=>false) (fun _=>false) false) ::(199,ah aj Tryz.f199 4444215 [] (fun _=>false) (fun _=>false) (fun _=>false) false) ::(200,ah aj Tryz.f200 5 [] (fun _=>false) (fun _=>false) (fun _=>false) false) ::(274,ah aj Tryz.f274 15 [] (fun _=>false) (fun _=>false) (fun _=>false) false) ::(139,ah aj Tryz.f139 19 [] (fun _=>false) (fun _=>false) (fun _=>false) false) ::(275,ah aj Tryz.f275 7 [] (fun _=>false) (fun _=>false) (fun _=>false) false) ::(96,ah aj Tryz.f96 7 [] (fun _=>false) (fun _=>false) (fun _=>false) false) ::(278,ah aj Tryz.f278 11 [] (fun _=>false) (fun _=>false) (fun _=>false) false) ::(277,ah aj Tryz.f277 19 [] (fun _=>false) (fun _=>false) (fun _=>false) false) ::(279,ah aj Tryz.f279 66483 [] (fun _=>false) (fun _=>false) (fun _=>false) false) ::(201,ah aj Tryz.f201 66483 [] (fun _=>false) (fun _=>false) (fun _=>false) false) ::(145,ah aj Tryz.f145 16883 [] (fun _=>false) (fun _=>false) (fun _=>false) false) ::(292,ah aj Tryz.f292 66483 [] (fun _=>false) (fun _=>false) (fun _=>false) false) ::[]
theorem kN:aa Tryz.prog ni:=aa.cons Tryz.func23 (by kernel_rfl) (aa.cons Tryz.func41 (by kernel_rfl) (aa.cons Tryz.func42 (by kernel_rfl) (aa.cons Tryz.func43 (by kernel_rfl) (aa.cons Tryz.func44 (by kernel_rfl) (aa.cons Tryz.func45 (by kernel_rfl) (aa.cons Tryz.func46 (by kernel_rfl) (aa.cons Tryz.func47 (by kernel_rfl) (aa.cons Tryz.func48 (by kernel_rfl) (aa.cons Tryz.func49 (by kernel_rfl) (aa.cons Tryz.func72 (by kernel_rfl) (aa.cons Tryz.func73 (by kernel_rfl) (aa.cons Tryz.func74 (by kernel_rfl) (aa.cons Tryz.func75 (by kernel_rfl) (aa.cons Tryz.func76 (by kernel_rfl) (aa.cons Tryz.func77 (by kernel_rfl) (aa.cons Tryz.func78 (by kernel_rfl) (aa.cons Tryz.func79 (by kernel_rfl) (aa.cons Tryz.func80 (by kernel_rfl) (aa.cons Tryz.func81 (by kernel_rfl) (aa.cons Tryz.func53 (by kernel_rfl) (aa.cons Tryz.func82 (by kernel_rfl) (aa.cons Tryz.func83 (by kernel_rfl) (aa.cons Tryz.func113 (by kernel_rfl) (aa.cons Tryz.func114 (by kernel_rfl) (aa.cons Tryz.func115 (by kernel_rfl) (aa.cons Tryz.func85 (by kernel_rfl) (aa.cons Tryz.func94 (by kernel_rfl) (aa.cons Tryz.func116 (by kernel_rfl) (aa.cons Tryz.func86 (by kernel_rfl) (aa.cons Tryz.func117 (by kernel_rfl) (aa.cons Tryz.func118 (by kernel_rfl) (aa.cons Tryz.func120 (by kernel_rfl) (aa.cons Tryz.func121 (by kernel_rfl) (aa.cons Tryz.func122 (by kernel_rfl) (aa.cons Tryz.func123 (by kernel_rfl) (aa.cons Tryz.func124 (by kernel_rfl) (aa.cons Tryz.func125 (by kernel_rfl) (aa.cons Tryz.func90 (by kernel_rfl) (aa.cons Tryz.func126 (by kernel_rfl) (aa.cons Tryz.func127 (by kernel_rfl) (aa.cons Tryz.func128 (by kernel_rfl) (aa.cons Tryz.func129 (by kernel_rfl) (aa.cons Tryz.func93 (by kernel_rfl) (aa.cons Tryz.func130 (by kernel_rfl) (aa.cons Tryz.func131 (by kernel_rfl) (aa.cons Tryz.func133 (by kernel_rfl) (aa.cons Tryz.func51 (by kernel_rfl) (aa.cons Tryz.func176 (by kernel_rfl) (aa.cons Tryz.func178 (by kernel_rfl) (aa.cons Tryz.func134 (by kernel_rfl) (aa.cons Tryz.func30 (by kernel_rfl) (aa.cons Tryz.func135 (by kernel_rfl) (aa.cons Tryz.func179 (by kernel_rfl) (aa.cons Tryz.func180 (by kernel_rfl) (aa.cons Tryz.func182 (by kernel_rfl) (aa.cons Tryz.func181 (by kernel_rfl) (aa.cons Tryz.func184 (by kernel_rfl) (aa.cons Tryz.func183 (by kernel_rfl) (aa.cons Tryz.func186 (by kernel_rfl) (aa.cons Tryz.func187 (by kernel_rfl) (aa.cons Tryz.func188 (by kernel_rfl) (aa.cons Tryz.func141 (by kernel_rfl) (aa.cons Tryz.func142 (by kernel_rfl) (aa.cons Tryz.func189 (by kernel_rfl) (aa.cons Tryz.func91 (by kernel_rfl) (aa.cons Tryz.func88 (by kernel_rfl) (aa.cons Tryz.func193 (by kernel_rfl) (aa.cons Tryz.func194 (by kernel_rfl) (aa.cons Tryz.func224 (by kernel_rfl) (aa.cons Tryz.func185 (by kernel_rfl) (aa.cons Tryz.func225 (by kernel_rfl) (aa.cons Tryz.func226 (by kernel_rfl) (aa.cons Tryz.func202 (by kernel_rfl) (aa.cons Tryz.func203 (by kernel_rfl) (aa.cons Tryz.func227 (by kernel_rfl) (aa.cons Tryz.func229 (by kernel_rfl) (aa.cons Tryz.func230 (by kernel_rfl) (aa.cons Tryz.func136 (by kernel_rfl) (aa.cons Tryz.func137 (by kernel_rfl) (aa.cons Tryz.func138 (by kernel_rfl) (aa.cons Tryz.func268 (by kernel_rfl) (aa.cons Tryz.func269 (by kernel_rfl) (aa.cons Tryz.func236 (by kernel_rfl) (aa.cons Tryz.func237 (by kernel_rfl) (aa.cons Tryz.func238 (by kernel_rfl) (aa.cons Tryz.func239 (by kernel_rfl) (aa.cons Tryz.func240 (by kernel_rfl) (aa.cons Tryz.func241 (by kernel_rfl) (aa.cons Tryz.func243 (by kernel_rfl) (aa.cons Tryz.func242 (by kernel_rfl) (aa.cons Tryz.func228 (by kernel_rfl) (aa.cons Tryz.func196 (by kernel_rfl) (aa.cons Tryz.func198 (by kernel_rfl) (aa.cons Tryz.func197 (by kernel_rfl) (aa.cons Tryz.func199 (by kernel_rfl) (aa.cons Tryz.func200 (by kernel_rfl) (aa.cons Tryz.func274 (by kernel_rfl) (aa.cons Tryz.func139 (by kernel_rfl) (aa.cons Tryz.func275 (by kernel_rfl) (aa.cons Tryz.func96 (by kernel_rfl) (aa.cons Tryz.func278 (by kernel_rfl) (aa.cons Tryz.func277 (by kernel_rfl) (aa.cons Tryz.func279 (by kernel_rfl) (aa.cons Tryz.func201 (by kernel_rfl) (aa.cons Tryz.func145 (by kernel_rfl) (aa.cons Tryz.func292 (by kernel_rfl) (aa.nil)))))))))))))))))))))))))))))))))))))))))))))))))))))))))))))))))))))))))))))))))))))))))))))))))))))))))))
end Go.AL.Seat
end
noncomputable section
namespace Go.AL.Seat
open Go Go.AL Go.Proofs Go.Pd
set_option maxRecDepth 1000000
def awS:Str:=[109,111,100,117,108,101,32,112,32,105,109,112,111,114,116,32,113,32,112,105,110,32,49,46,48,46,48,32,114,97,110,103,101,32,42,32,105,109,112,111,114,116,32,122,32,112,105,110,32,49,46,48,46,48,32,114,97,110,103,101,32,42,32,108,101,116,32,102,32,61,32,113,47,103,40,49,41,32,101,120,112,111,114,116,32,40,102,41]
def awL:AV:=(.tup [(.lst (.st .token) [⟨5,[109,111,100,117,108,101],0⟩,⟨1,[112],7⟩,⟨5,[105,109,112,111,114,116],9⟩,⟨1,[113],16⟩,⟨5,[112,105,110],18⟩,⟨7,[49,46,48,46,48],22⟩,⟨5,[114,97,110,103,101],28⟩,⟨6,[42],34⟩,⟨5,[105,109,112,111,114,116],36⟩,⟨1,[122],43⟩,⟨5,[112,105,110],45⟩,⟨7,[49,46,48,46,48],49⟩,⟨5,[114,97,110,103,101],55⟩,⟨6,[42],61⟩,⟨5,[108,101,116],63⟩,⟨1,[102],67⟩,⟨6,[61],69⟩,⟨1,[113],71⟩,⟨6,[47],72⟩,⟨1,[103],73⟩,⟨6,[40],74⟩,⟨3,[49],75⟩,⟨6,[41],76⟩,⟨5,[101,120,112,111,114,116],78⟩,⟨6,[40],85⟩,⟨1,[102],86⟩,⟨6,[41],87⟩,⟨0,[],88⟩] none),(.agg [(.int .i64 0),(.int .i64 0)])])
variable [Tabs] [SeatLaid]
theorem yD:b8 Tryz.prog 41 [.str awS] [] (.ret awL):=ka (n:=100) mixed qR nh kN (by kernel_rfl:sl aj ni wq wo 5000 (eE ng) 100 41 [.str awS] []=some ⟨none,none,awL,[]⟩)
def wu:List (Nat × Pat):=(41,tt [.str awS] awL) ::ng
theorem uK:b7 Tryz.prog (eE wu):=sc (tu (ee Tryz.func41) yD) nh
end Go.AL.Seat
end
noncomputable section
namespace Go.AL.Seat
open Go Go.AL Go.Proofs Go.Pd
set_option maxRecDepth 1000000
def awV:AV:=(.tup [(.agg [(.str [112]),(.lst (.st .imp) [⟨[113],⟨1,0,0,[]⟩,[],9⟩,⟨[122],⟨1,0,0,[]⟩,[],36⟩] none),(.lst (.st .decl) [⟨3,[102],⟨0,[],[],[],[]⟩,⟨7,[],[],0,[],[],[],[⟨5,[113],[103],0,[],[],[],[],71⟩,⟨1,[],[],1,[],[],[],[],75⟩],71⟩,63⟩] none),(.lst .str [[102]] none),(.int .i64 78)]),(.agg [(.int .i64 0),(.int .i64 0)])])
variable [Tabs] [SeatLaid]
theorem yE:b8 Tryz.prog 23 [.str awS] [] (.ret awV):=ka (n:=100) mixed qR uK kN (by kernel_rfl:sl aj ni wq wo 5000 (eE wu) 100 23 [.str awS] []=some ⟨none,none,awV,[]⟩)
end Go.AL.Seat
end
noncomputable section
namespace Go.AL.Seat
open Go Go.AL Go.Proofs
variable [Tabs]
def aA:List (Nat × TR):=[(3,r2),(9,r9),(53,⟨.strct false [(0,3),(1,9),(2,9),(3,24),(4,51)],5,88,[.int .i64 0,.str [],.str [],.nils,.nils],some (.st .shape)⟩),(24,⟨.slice 9,1,24,[.nils],some (.lst .str)⟩),(56,⟨.strct false [(0,3),(1,9),(2,9),(3,3),(4,24),(5,24),(6,51),(7,54),(8,3)],9,152,[.int .i64 0,.str [],.str [],.int .i64 0,.nils,.nils,.nils,.nils,.int .i64 0],some (.st .term)⟩),(257,uz),(51,⟨.slice 53,1,24,[.nils],some (.lst (.st .shape))⟩),(4,⟨.bool,1,1,[.bool false],some .bool⟩),(61,⟨.strct true [(0,3),(1,3),(2,3),(3,9)],4,40,[.int .i64 0,.int .i64 0,.int .i64 0,.str []],some (.st .version)⟩),(77,⟨.strct true [(0,9),(1,9)],2,32,[.str [],.str []],some (.st .nm)⟩),(58,⟨.strct false [(0,3),(1,9),(2,53),(7,56),(16,3)],17,272,[.int .i64 0,.str [],.int .i64 0,.str [],.str [],.nils,.nils,.int .i64 0,.str [],.str [],.int .i64 0,.nils,.nils,.nils,.nils,.int .i64 0,.int .i64 0],some (.st .decl)⟩),(5,r5),(26,⟨.strct false [(0,9),(1,22),(2,23),(3,24),(4,3)],5,96,[.str [],.nils,.nils,.nils,.int .i64 0],some (.st .modu)⟩),(67,r2),(38,⟨.strct false [(0,9),(1,36)],2,40,[.str [],.nils],some (.st .dep)⟩),(64,⟨.strct false [(0,9),(1,61),(5,62),(6,3)],7,88,[.str [],.int .i64 0,.int .i64 0,.int .i64 0,.str [],.nils,.int .i64 0],some (.st .imp)⟩),(36,⟨.slice 73,1,24,[.nils],some (.lst (.st .item))⟩),(54,⟨.slice 56,1,24,[.nils],some (.lst (.st .term))⟩),(75,⟨.strct true [(0,3),(1,9)],2,24,[.int .i64 0,.str []],some (.st .change)⟩),(73,⟨.strct false [(0,3),(1,9),(2,53)],7,112,[.int .i64 0,.str [],.int .i64 0,.str [],.str [],.nils,.nils],some (.st .item)⟩),(66,⟨.strct true [(0,3),(1,61)],5,48,[.int .i64 0,.int .i64 0,.int .i64 0,.int .i64 0,.str []],some (.st .bound)⟩),(31,⟨.slice 77,1,24,[.nils],some (.lst (.st .nm))⟩),(80,r79),(22,⟨.slice 64,1,24,[.nils],some (.lst (.st .imp))⟩),(62,⟨.slice 66,1,24,[.nils],some (.lst (.st .bound))⟩),(121,⟨.slice 3,1,24,[.nils],some (.lst (.int .i64))⟩),(45,⟨.slice 75,1,24,[.nils],some (.lst (.st .change))⟩),(23,⟨.slice 58,1,24,[.nils],some (.lst (.st .decl))⟩),(69,⟨.strct true [(0,67),(1,3)],2,16,[.int .i64 0,.int .i64 0],some (.st .fault)⟩),(240,uw),(229,⟨.slice 5,1,24,[.nils],some (.lst (.int .u8))⟩),(20,r20),(199,r1),(152,r1),(113,r1),(256,uz),(239,uw),(65,⟨.strct true [(0,3),(1,61)],5,48,[.int .i64 0,.int .i64 0,.int .i64 0,.int .i64 0,.str []],none⟩),(60,⟨.strct true [(0,3),(1,3),(2,3),(3,9)],4,40,[.int .i64 0,.int .i64 0,.int .i64 0,.str []],none⟩),(63,⟨.strct false [(0,9),(1,61),(5,62),(6,3)],7,88,[.str [],.int .i64 0,.int .i64 0,.int .i64 0,.str [],.nils,.int .i64 0],none⟩),(55,⟨.strct false [(0,3),(1,9),(2,9),(3,3),(4,24),(5,24),(6,51),(7,54),(8,3)],9,152,[.int .i64 0,.str [],.str [],.int .i64 0,.nils,.nils,.nils,.nils,.int .i64 0],none⟩),(57,⟨.strct false [(0,3),(1,9),(2,53),(7,56),(16,3)],17,272,[.int .i64 0,.str [],.int .i64 0,.str [],.str [],.nils,.nils,.int .i64 0,.str [],.str [],.int .i64 0,.nils,.nils,.nils,.nils,.int .i64 0,.int .i64 0],none⟩),(79,r79),(76,⟨.strct true [(0,9),(1,9)],2,32,[.str [],.str []],none⟩),(74,⟨.strct true [(0,3),(1,9)],2,24,[.int .i64 0,.str []],none⟩),(37,⟨.strct false [(0,9),(1,36)],2,40,[.str [],.nils],none⟩),(52,⟨.strct false [(0,3),(1,9),(2,9),(3,24),(4,51)],5,88,[.int .i64 0,.str [],.str [],.nils,.nils],none⟩),(72,⟨.strct false [(0,3),(1,9),(2,53)],7,112,[.int .i64 0,.str [],.int .i64 0,.str [],.str [],.nils,.nils],none⟩),(68,⟨.strct true [(0,67),(1,3)],2,16,[.int .i64 0,.int .i64 0],none⟩),(25,⟨.strct false [(0,9),(1,22),(2,23),(3,24),(4,3)],5,96,[.str [],.nils,.nils,.nils,.int .i64 0],none⟩)]
theorem wv:aD Tryz.prog aA:=.cons tk (.cons tk (.cons tk (.cons tk (.cons tk (.cons tk (.cons tk (.cons tk (.cons tk (.cons tk (.cons tk (.cons tk (.cons tk (.cons tk (.cons tk (.cons tk (.cons tk (.cons tk (.cons tk (.cons tk (.cons tk (.cons tk (.cons tk (.cons tk (.cons tk (.cons tk (.cons tk (.cons tk (.cons tk (.cons tk (.cons tk (.cons tk (.cons tk (.cons tk (.cons tk (.cons tk (.cons tk (.cons tk (.cons tk (.cons tk (.cons tk (.cons tk (.cons tk (.cons tk (.cons tk (.cons tk (.cons tk (.cons tk (.cons tk (.cons tk (.nil))))))))))))))))))))))))))))))))))))))))))))))))))
end Go.AL.Seat
end
noncomputable section
namespace Go.AL.Seat
open Go Go.AL Go.Proofs
set_option maxRecDepth 1000000
variable [Tabs]
def ye (f:Nat):List (Option Nat):=if Nat.beq f 72 || Nat.beq f 73 then [some 2] else if Nat.beq f 42 || (Nat.beq f 43 || (Nat.beq f 47 || (Nat.beq f 48 || (Nat.beq f 49 || Nat.beq f 77)))) then [some 4] else []
def yf (f:Nat):Bool:=false
def qS:List (Nat × FB):=(7,ah aA Tryz.f7 63 [] (fun _=>false) (fun _=>false) (fun _=>false) false) ::(9,ah aA Tryz.f9 31023 [] (fun _=>false) (fun _=>false) (fun _=>false) false) ::(15,ah aA Tryz.f15 16838839 [] (fun _=>false) (fun _=>false) (fun _=>false) false) ::(19,ah aA Tryz.f19 274877939399 [] (fun _=>false) (fun _=>false) (fun _=>false) false) ::(8,ah aA Tryz.f8 33571891 [] (fun _=>false) (fun _=>false) (fun _=>false) false) ::(12,ah aA Tryz.f12 4319327 [] (fun _=>false) (fun _=>false) (fun _=>false) false) ::(11,ah aA Tryz.f11 33571891 [] (fun _=>false) (fun _=>false) (fun _=>false) false) ::(24,ah aA Tryz.f24 340292770534375364823452943443732465007 [] (fun _=>false) (fun _=>false) (fun _=>false) false) ::(25,ah aA Tryz.f25 503324715 [] (fun _=>false) (fun _=>false) (fun _=>false) false) ::(26,ah aA Tryz.f26 4125181903019 [] (fun _=>false) (fun _=>false) (fun _=>false) false) ::(28,ah aA Tryz.f28 7 [] (fun _=>false) (fun _=>false) (fun _=>false) false) ::(29,ah aA Tryz.f29 31 [] (fun _=>false) (fun _=>false) (fun d=>Nat.beq d 9 || Nat.beq d 14 || Nat.beq d 16) false) ::(37,ah aA Tryz.f37 27 [] (fun _=>false) (fun _=>false) (fun _=>false) false) ::(38,ah aA Tryz.f38 30767 [] (fun _=>false) (fun _=>false) (fun _=>false) false) ::(36,ah aA Tryz.f36 15 [] (fun _=>false) (fun _=>false) (fun _=>false) false) ::(35,ah aA Tryz.f35 19 [] (fun _=>false) (fun _=>false) (fun _=>false) false) ::(51,ah aA Tryz.f51 9316337836119 [] (fun _=>false) (fun _=>false) (fun _=>false) false) ::(52,ah aA Tryz.f52 8392597 [] (fun _=>false) (fun _=>false) (fun _=>false) false) ::(53,ah aA Tryz.f53 659706875863 [] (fun _=>false) (fun _=>false) (fun _=>false) false) ::(54,ah aA Tryz.f54 633826206808479411720232632383 [] (fun _=>false) (fun _=>false) (fun _=>false) false) ::(56,ah aA Tryz.f56 13 [] (fun _=>false) (fun _=>false) (fun _=>false) false) ::(59,ah aA Tryz.f59 8363 [] (fun _=>false) (fun _=>false) (fun _=>false) false) ::(31,ah aA Tryz.f31 604275 [] (fun _=>false) (fun _=>false) (fun _=>false) false) ::(30,ah aA Tryz.f30 17389 [] (fun _=>false) (fun _=>false) (fun _=>false) false) ::(70,ah aA Tryz.f70 66491 [] (fun _=>false) (fun _=>false) (fun _=>false) false) ::(69,ah aA Tryz.f69 66483 [] (fun _=>false) (fun _=>false) (fun _=>false) false) ::(88,ah aA Tryz.f88 18014398524686365 [] (fun _=>false) (fun _=>false) (fun _=>false) false) ::(89,ah aA Tryz.f89 5469 [] (fun _=>false) (fun _=>false) (fun _=>false) false) ::(90,ah aA Tryz.f90 36909250894291276799 [] (fun _=>false) (fun _=>false) (fun d=>Nat.beq d 17 || Nat.beq d 22 || Nat.beq d 27 || Nat.beq d 29 || Nat.beq d 43 || Nat.beq d 46 || Nat.beq d 63) false) ::(91,ah aA Tryz.f91 299063 [] (fun _=>false) (fun _=>false) (fun _=>false) false) ::(92,ah aA Tryz.f92 7 [] (fun _=>false) (fun _=>false) (fun _=>false) false) ::(93,ah aA Tryz.f93 74783 [] (fun _=>false) (fun _=>false) (fun _=>false) false) ::(96,ah aA Tryz.f96 7 [] (fun _=>false) (fun _=>false) (fun _=>false) false) ::(60,ah aA Tryz.f60 5 [] (fun _=>false) (fun _=>false) (fun _=>false) false) ::(133,ah aA Tryz.f133 5 [] (fun _=>false) (fun _=>false) (fun _=>false) false) ::(134,ah aA Tryz.f134 604275 [] (fun _=>false) (fun _=>false) (fun _=>false) false) ::(135,ah aA Tryz.f135 2623603 [] (fun _=>false) (fun _=>false) (fun _=>false) false) ::(136,ah aA Tryz.f136 31 [] (fun _=>false) (fun _=>false) (fun _=>false) false) ::(137,ah aA Tryz.f137 2159703 [] (fun _=>false) (fun _=>false) (fun _=>false) false) ::(138,ah aA Tryz.f138 10141204803006463002229839257615 [] (fun _=>false) (fun _=>false) (fun _=>false) false) ::(139,ah aA Tryz.f139 19 [] (fun _=>false) (fun _=>false) (fun _=>false) false) ::(140,ah aA Tryz.f140 7 [] (fun _=>false) (fun _=>false) (fun _=>false) false) ::(141,ah aA Tryz.f141 2223863 [] (fun _=>false) (fun _=>false) (fun _=>false) false) ::(142,ah aA Tryz.f142 7 [] (fun _=>false) (fun _=>false) (fun _=>false) false) ::(145,ah aA Tryz.f145 16883 [] (fun _=>false) (fun _=>false) (fun _=>false) false) ::(193,ah aA Tryz.f193 5 [] (fun _=>false) (fun _=>false) (fun _=>false) false) ::(194,ah aA Tryz.f194 19 [] (fun _=>false) (fun _=>false) (fun _=>false) false) ::(196,ah aA Tryz.f196 33071 [] (fun _=>false) (fun _=>false) (fun _=>false) false) ::(198,ah aA Tryz.f198 17 [] (fun _=>false) (fun _=>false) (fun _=>false) false) ::(197,ah aA Tryz.f197 246479 [] (fun _=>false) (fun _=>false) (fun _=>false) false) ::(199,ah aA Tryz.f199 4444215 [] (fun _=>false) (fun _=>false) (fun _=>false) false) ::(200,ah aA Tryz.f200 5 [] (fun _=>false) (fun _=>false) (fun _=>false) false) ::(201,ah aA Tryz.f201 66483 [] (fun _=>false) (fun _=>false) (fun _=>false) false) ::(202,ah aA Tryz.f202 3537148372723500476506894142080440715070649430595550180525943565456506895 [] (fun _=>false) (fun _=>false) (fun _=>false) false) ::(203,ah aA Tryz.f203 27 [] (fun _=>false) (fun _=>false) (fun _=>false) false) ::(236,ah aA Tryz.f236 7 [] (fun _=>false) (fun _=>false) (fun _=>false) false) ::(237,ah aA Tryz.f237 27 [] (fun _=>false) (fun _=>false) (fun _=>false) false) ::(238,ah aA Tryz.f238 7 [] (fun _=>false) (fun _=>false) (fun _=>false) false) ::(239,ah aA Tryz.f239 2098133 [] (fun _=>false) (fun _=>false) (fun _=>false) false) ::(240,ah aA Tryz.f240 13 [] (fun _=>false) (fun _=>false) (fun _=>false) false) ::(241,ah aA Tryz.f241 27 [] (fun _=>false) (fun _=>false) (fun _=>false) false) ::(243,ah aA Tryz.f243 15 [] (fun _=>false) (fun _=>false) (fun _=>false) false) ::(242,ah aA Tryz.f242 19 [] (fun _=>false) (fun _=>false) (fun _=>false) false) ::(274,ah aA Tryz.f274 15 [] (fun _=>false) (fun _=>false) (fun _=>false) false) ::(275,ah aA Tryz.f275 7 [] (fun _=>false) (fun _=>false) (fun _=>false) false) ::(278,ah aA Tryz.f278 11 [] (fun _=>false) (fun _=>false) (fun _=>false) false) ::(277,ah aA Tryz.f277 19 [] (fun _=>false) (fun _=>false) (fun _=>false) false) ::(279,ah aA Tryz.f279 66483 [] (fun _=>false) (fun _=>false) (fun _=>false) false) ::(292,ah aA Tryz.f292 66483 [] (fun _=>false) (fun _=>false) (fun _=>false) false) ::[]
theorem qU:aa Tryz.prog qS:=aa.cons Tryz.func7 (by kernel_rfl) (aa.cons Tryz.func9 (by kernel_rfl) (aa.cons Tryz.func15 (by kernel_rfl) (aa.cons Tryz.func19 (by kernel_rfl) (aa.cons Tryz.func8 (by kernel_rfl) (aa.cons Tryz.func12 (by kernel_rfl) (aa.cons Tryz.func11 (by kernel_rfl) (aa.cons Tryz.func24 (by kernel_rfl) (aa.cons Tryz.func25 (by kernel_rfl) (aa.cons Tryz.func26 (by kernel_rfl) (aa.cons Tryz.func28 (by kernel_rfl) (aa.cons Tryz.func29 (by kernel_rfl) (aa.cons Tryz.func37 (by kernel_rfl) (aa.cons Tryz.func38 (by kernel_rfl) (aa.cons Tryz.func36 (by kernel_rfl) (aa.cons Tryz.func35 (by kernel_rfl) (aa.cons Tryz.func51 (by kernel_rfl) (aa.cons Tryz.func52 (by kernel_rfl) (aa.cons Tryz.func53 (by kernel_rfl) (aa.cons Tryz.func54 (by kernel_rfl) (aa.cons Tryz.func56 (by kernel_rfl) (aa.cons Tryz.func59 (by kernel_rfl) (aa.cons Tryz.func31 (by kernel_rfl) (aa.cons Tryz.func30 (by kernel_rfl) (aa.cons Tryz.func70 (by kernel_rfl) (aa.cons Tryz.func69 (by kernel_rfl) (aa.cons Tryz.func88 (by kernel_rfl) (aa.cons Tryz.func89 (by kernel_rfl) (aa.cons Tryz.func90 (by kernel_rfl) (aa.cons Tryz.func91 (by kernel_rfl) (aa.cons Tryz.func92 (by kernel_rfl) (aa.cons Tryz.func93 (by kernel_rfl) (aa.cons Tryz.func96 (by kernel_rfl) (aa.cons Tryz.func60 (by kernel_rfl) (aa.cons Tryz.func133 (by kernel_rfl) (aa.cons Tryz.func134 (by kernel_rfl) (aa.cons Tryz.func135 (by kernel_rfl) (aa.cons Tryz.func136 (by kernel_rfl) (aa.cons Tryz.func137 (by kernel_rfl) (aa.cons Tryz.func138 (by kernel_rfl) (aa.cons Tryz.func139 (by kernel_rfl) (aa.cons Tryz.func140 (by kernel_rfl) (aa.cons Tryz.func141 (by kernel_rfl) (aa.cons Tryz.func142 (by kernel_rfl) (aa.cons Tryz.func145 (by kernel_rfl) (aa.cons Tryz.func193 (by kernel_rfl) (aa.cons Tryz.func194 (by kernel_rfl) (aa.cons Tryz.func196 (by kernel_rfl) (aa.cons Tryz.func198 (by kernel_rfl) (aa.cons Tryz.func197 (by kernel_rfl) (aa.cons Tryz.func199 (by kernel_rfl) (aa.cons Tryz.func200 (by kernel_rfl) (aa.cons Tryz.func201 (by kernel_rfl) (aa.cons Tryz.func202 (by kernel_rfl) (aa.cons Tryz.func203 (by kernel_rfl) (aa.cons Tryz.func236 (by kernel_rfl) (aa.cons Tryz.func237 (by kernel_rfl) (aa.cons Tryz.func238 (by kernel_rfl) (aa.cons Tryz.func239 (by kernel_rfl) (aa.cons Tryz.func240 (by kernel_rfl) (aa.cons Tryz.func241 (by kernel_rfl) (aa.cons Tryz.func243 (by kernel_rfl) (aa.cons Tryz.func242 (by kernel_rfl) (aa.cons Tryz.func274 (by kernel_rfl) (aa.cons Tryz.func275 (by kernel_rfl) (aa.cons Tryz.func278 (by kernel_rfl) (aa.cons Tryz.func277 (by kernel_rfl) (aa.cons Tryz.func279 (by kernel_rfl) (aa.cons Tryz.func292 (by kernel_rfl) (aa.nil)))))))))))))))))))))))))))))))))))))))))))))))))))))))))))))))))))))
end Go.AL.Seat
end
section
namespace Go.Proofs
open Go.Shelf
def Tryz.sortf_ren:Go.Shelf.Ren:=⟨fun | 6=>58 | 15=>100 | 14=>99 | 28=>154 | 29=>155 | 20=>146 | 21=>147 | 22=>148 | 23=>149 | 24=>150 | 25=>151 | 26=>152 | 27=>153 | 46=>206 | 47=>207 | 48=>208 | 49=>209 | 50=>210 | 57=>253 | n=>n,fun | 22=>31 | 24=>77 | 25=>89 | 3=>3 | 39=>161 | 0=>0 | 53=>210 | 55=>212 | 4=>4 | 46=>203 | 45=>202 | 50=>207 | 5=>5 | 9=>9 | 66=>247 | 70=>251 | 76=>265 | 77=>197 | n=>n,fun | n=>n⟩
theorem Tryz.sortf:Go.Proofs.SlLaysF0.n6 Tryz.prog Tryz.sortf_ren:={
 mixed:=by kernel_rfl
 f6:=⟨Tryz.f58.name,by decide,Xt Tryz.func58⟩
 f14:=⟨Tryz.f99.name,by decide,Xt Tryz.func99⟩
 f15:=Xt Tryz.func100
 f20:=⟨Tryz.f146.name,by decide,Xt Tryz.func146⟩
 f21:=⟨Tryz.f147.name,by decide,Xt Tryz.func147⟩
 f22:=⟨Tryz.f148.name,by decide,Xt Tryz.func148⟩
 f23:=⟨Tryz.f149.name,by decide,Xt Tryz.func149⟩
 f24:=⟨Tryz.f150.name,by decide,Xt Tryz.func150⟩
 f25:=⟨Tryz.f151.name,by decide,Xt Tryz.func151⟩
 f26:=⟨Tryz.f152.name,by decide,Xt Tryz.func152⟩
 f27:=⟨Tryz.f153.name,by decide,Xt Tryz.func153⟩
 f28:=Xt Tryz.func154
 f29:=Xt Tryz.func155
 f46:=⟨Tryz.f206.name,by decide,Xt Tryz.func206⟩
 f47:=Xt Tryz.func207
 f48:=Xt Tryz.func208
 f49:=⟨Tryz.f209.name,by decide,Xt Tryz.func209⟩
 f50:=⟨Tryz.f210.name,by decide,Xt Tryz.func210⟩
 f57:=⟨Tryz.f253.name,by decide,Xt Tryz.func253⟩
 t0:=Tryz.underlying0
 a0:=Tryz.isAgg0
 z0:=Tryz.sizeOf0
 v0:=Tryz.zeroValue0
 t3:=Tryz.underlying3
 a3:=Tryz.isAgg3
 z3:=Tryz.sizeOf3
 v3:=Tryz.zeroValue3
 t4:=Tryz.underlying4
 a4:=Tryz.isAgg4
 z4:=Tryz.sizeOf4
 v4:=Tryz.zeroValue4
 t5:=Tryz.underlying5
 a5:=Tryz.isAgg5
 z5:=Tryz.sizeOf5
 v5:=Tryz.zeroValue5
 t9:=Tryz.underlying9
 a9:=Tryz.isAgg9
 z9:=Tryz.sizeOf9
 v9:=Tryz.zeroValue9
 t22:=Tryz.underlying31
 a22:=Tryz.isAgg31
 z22:=Tryz.sizeOf31
 v22:=Tryz.zeroValue31
 t25:=Tryz.underlying89
 a25:=Tryz.isAgg89
 z25:=Tryz.sizeOf89
 v25:=Tryz.zeroValue89
 t39:=Tryz.underlying161
 a39:=Tryz.isAgg161
 z39:=Tryz.sizeOf161
 v39:=Tryz.zeroValue161
 t45:=Tryz.underlying202
 a45:=Tryz.isAgg202
 z45:=Tryz.sizeOf202
 v45:=Tryz.zeroValue202
 t46:=Tryz.underlying203
 a46:=Tryz.isAgg203
 z46:=Tryz.sizeOf203
 v46:=Tryz.zeroValue203
 t50:=Tryz.underlying207
 a50:=Tryz.isAgg207
 z50:=Tryz.sizeOf207
 v50:=Tryz.zeroValue207
 t53:=Tryz.underlying210
 a53:=Tryz.isAgg210
 z53:=Tryz.sizeOf210
 v53:=Tryz.zeroValue210
 t55:=Tryz.underlying212
 a55:=Tryz.isAgg212
 z55:=Tryz.sizeOf212
 v55:=Tryz.zeroValue212
 t66:=Tryz.underlying247
 a66:=Tryz.isAgg247
 z66:=Tryz.sizeOf247
 v66:=Tryz.zeroValue247
 t70:=Tryz.underlying251
 a70:=Tryz.isAgg251
 z70:=Tryz.sizeOf251
 v70:=Tryz.zeroValue251
 t76:=Tryz.underlying265
 a76:=Tryz.isAgg265
 z76:=Tryz.sizeOf265
 v76:=Tryz.zeroValue265
 t77:=Tryz.underlying197
 a77:=Tryz.isAgg197
 z77:=Tryz.sizeOf197
 v77:=Tryz.zeroValue197}
end Go.Proofs
end
section
namespace Go.Proofs
open Go.RowKit Go.Shelf Go.AL Go.Sort Go.Pd Go.Lib
set_option maxHeartbeats 4000000
theorem Tryz.isNaN60 (x:ByteArray) (w:World):Calls Tryz.prog 60 #[.string x] w fun e w'=>e=.returned (.bool false)/\w'=w:=by
 go_enter Tryz.func60,Tryz.ntmps60
 go_wp2
 go_ret
 exact ⟨by simp,rfl⟩
theorem jv (t:TypeId) (a b:ByteArray):binOp .gtr t (.string a) (.string b)=pure (.bool !(Op.bytesLess a.toList b.toList || a.toList ==b.toList)):=by simp [binOp,Op.stringOp]
attribute [local go_sem] jv
theorem fv:∀a b:List UInt8,compareBytes a b=if Op.bytesLess a b=true then -1 else if (!(Op.bytesLess a b || a ==b))=true then 1 else 0
 | [],[]=>by simp [compareBytes,Op.bytesLess]
 | [],_ ::_=>by simp [compareBytes,Op.bytesLess]
 | _ ::_,[]=>by simp [compareBytes,Op.bytesLess]
 | a ::r,b ::s=>by
  simp only [compareBytes,Op.bytesLess]
  by_cases h1:a < b
  ·simp [h1]
  ·by_cases h2:b < a
   ·have:a≠b:=fun e=>by subst e;exact h1 h2
    simp [h1,h2,this]
   ·have:a=b:=UInt8.le_antisymm (UInt8.not_lt.1 h2) (UInt8.not_lt.1 h1)
    subst this
    simp only [h1,if_false,fv r s]
    simp
theorem Tryz.cmp31 (x y:ByteArray) (w:World):Calls Tryz.prog 31 #[.string x,.string y] w fun e w'=>e=.returned (.int .i64 (compareBytes x.data.toList y.data.toList))/\w'=w:=by
 have e0:=fv x.toList y.toList
 rw [Lib.toList_data,Lib.toList_data] at e0
 go_enter Tryz.func31,Tryz.ntmps31
 go_wp2_with (go_at_call 60;refine (Tryz.isNaN60 _ _).mono ?_;rintro e w' ⟨rfl,rfl⟩)
 all_goals (go_ret;refine ⟨?_,rfl⟩;simp_all [Lib.toList_data])
theorem Tryz.or30 (b o:Nat) (x y r:Int) (w:World) (hr:(if x=0 then y else x)=r) (h0:w.cell? ⟨b,o,none⟩=some (.int .i64 x)) (h1:w.cell? ⟨b,o+1,none⟩=some (.int .i64 y)) :
  Calls Tryz.prog 30 #[.slice (some ⟨b,o,none⟩) 2 2] w fun e w'=>e=.returned (.int .i64 r)/\w'=w:=by
 subst hr
 go_enter Tryz.func30,Tryz.ntmps30
 go_wp2
 go_rounds 3
 all_goals (go_ret;simp_all)
theorem yF (w:World) (A B C:Obj):(((w.alloc A).alloc B).alloc C).drew=grow (w.drewN 1) #[A,B,C]:=by
 rw [alloc_eq_grow,alloc_eq_grow,alloc_eq_grow,grow_grow,grow_grow];rfl
theorem Tryz.cmp29 (a1 a2 b1 b2:ByteArray) (r:Int) (hr0:(if compareBytes a1.data.toList b1.data.toList=0 then compareBytes a2.data.toList b2.data.toList else compareBytes a1.data.toList b1.data.toList)=r) (w:World) :
  Calls Tryz.prog 29 #[.agg #[.string a1,.string a2],.agg #[.string b1,.string b2]] w fun e w'=>e=.returned (.int .i64 r)/\∃q os',w'=grow (w.drewN q) os':=by
 go_enter Tryz.func29,Tryz.ntmps29
 go_wp2
 obtain ⟨W,hW⟩:∃W,(w.alloc (.cells #[.string a1,.string a2] 77)).alloc (.cells #[.string b1,.string b2] 77)=W:=⟨_,rfl⟩
 have h1:W.cell? ⟨w.heap.size,0,none⟩=some (.string a1):=by rw [←hW];simp [go_sem]
 have h2:W.cell? ⟨w.heap.size,1,none⟩=some (.string a2):=by rw [←hW];simp [go_sem]
 have h3:W.cell? ⟨w.heap.size+1,0,none⟩=some (.string b1):=by rw [←hW];simp [go_sem]
 have h4:W.cell? ⟨w.heap.size+1,1,none⟩=some (.string b2):=by rw [←hW];simp [go_sem]
 rw [hW]
 obtain ⟨u,hu⟩:∃u,compareBytes a1.data.toList b1.data.toList=u:=⟨_,rfl⟩
 obtain ⟨v,hv⟩:=(⟨_,rfl⟩:∃v,compareBytes a2.data.toList b2.data.toList=v)
 have hr:(if u=0 then v else u)=r:=by rw [←hu,←hv];exact hr0
 clear hr0
 go_region_held3 (fun w'=>w'.cell? ⟨w.heap.size,0,none⟩=some (.string a1)/\w'.cell? ⟨w.heap.size,1,none⟩=some (.string a2)/\w'.cell? ⟨w.heap.size+1,0,none⟩=some (.string b1)/\w'.cell? ⟨w.heap.size+1,1,none⟩=some (.string b2)) (go_keep)
  (first | (go_at_call 31;refine (Tryz.cmp31 _ _ _).mono ?_;rintro e w' ⟨rfl,rfl⟩) | (go_at_call 30;refine (Tryz.or30 W.heap.size 0 u v r _ hr (by show (W.alloc _).cell? ⟨W.heap.size,0,none⟩=_;simp [go_sem]) (by show (W.alloc _).cell? ⟨W.heap.size,0+1,none⟩=_;simp [go_sem])).mono ?_;rintro e w' ⟨rfl,rfl⟩))
 go_wp2
 go_ret
 subst hW
 exact ⟨rfl,1,_,yF _ _ _ _⟩
def cfU (x y:Nam):Int:=if compareBytes x.pkg y.pkg=0 then compareBytes x.name y.name else compareBytes x.pkg y.pkg
def iJ (x:Nam):List Value:=[.string ⟨x.pkg.toArray⟩,.string ⟨x.name.toArray⟩]
theorem Tryz.cmpLays (blk off size:Nat) (w:World):CmpLays Tryz.prog 29 #[] iJ 2 cfU blk off size w:=fun m os dk _ x y=>
 Tryz.cmp29 ⟨x.pkg.toArray⟩ ⟨x.name.toArray⟩ ⟨y.pkg.toArray⟩ ⟨y.name.toArray⟩ _ rfl _
theorem fw:∀{a b:List UInt8},compareBytes a b=0→a=b
 | [],[],_=>rfl
 | [],_ ::_,h=>by simp [compareBytes] at h
 | _ ::_,[],h=>by simp [compareBytes] at h
 | a ::r,b ::s,h=>by
  simp only [compareBytes] at h
  by_cases h1:a < b
  ·simp [h1] at h
  ·by_cases h2:b < a
   ·simp [h1,h2] at h
   ·have:a=b:=UInt8.le_antisymm (UInt8.not_lt.1 h2) (UInt8.not_lt.1 h1)
    subst this
    simp only [h1,if_false] at h
    rw [fw h]
theorem jw (a:List UInt8):compareBytes a a=0:=by
 induction a with
 | nil=>rfl
 | cons x r ih=>simp [compareBytes,UInt8.lt_irrefl,ih]
variable [Tabs]
theorem jx (x y:Nam):ltOf cfU x y=ltU x y:=by
 unfold ltOf cfU ltU
 by_cases h:compareBytes x.pkg y.pkg=0
 ·have e:=fw h
  rw [if_pos h,eA,e]
  simp [List.lt_irrefl]
 ·have e:x.pkg≠y.pkg:=fun q=>h (by rw [q];exact jw _)
  rw [if_neg h,eA]
  simp [e]
theorem swoU:SWO (ltOf cfU):=by
 refine ⟨fun x=>by rw [jx,gq],fun x y z h k=>?_,fun x y z h k=>?_⟩
 ·rw [jx] at *;exact kc h k
 ·rw [jx] at *
  rcases Bool.eq_false_or_eq_true (ltU x z) with q | q
  ·rcases ju x y with t | t | t
   ·rw [t] at h;cases h
   ·subst t;rw [q] at k;cases k
   ·rw [kc t q] at k;cases k
  ·exact q
end Go.Proofs
end
section
namespace Go.Proofs
open Go.RowKit Go.Shelf Go.AL Go.Maps Go.ChangeMaps
variable [Tabs]
attribute [local go_sem] Oper.semAt_some
set_option maxHeartbeats 4000000
def kg (x:Nam):Value:=.agg #[.string ⟨x.pkg.toArray⟩,.string ⟨x.name.toArray⟩]
structure KeysU (es:Array MapEntry) (clock:Nat) (ks:List Nam):Prop where
 size:es.size=ks.length
 key:∀(i:Nat) (e:MapEntry) (k:Nam),es[i]?=some e→ks[i]?=some k→e.key=kg k
 idx:∀(i:Nat) (e:MapEntry),es[i]?=some e→e.born=i
 top:clock=es.size
theorem KeysU.old {es:Array MapEntry} {clock:Nat} {ks:List Nam} (h:KeysU es clock ks):∀x∈es.toList,x.born < clock:=fun x hx=>by
 obtain ⟨i,hi,rfl⟩:=List.getElem_of_mem hx
 have hi':i < es.size:=by simpa using hi
 have:=h.idx i es[i] (Array.getElem?_eq_getElem hi')
 rw [Array.getElem_toList,this,h.top];exact hi'
theorem KeysU.nodup {es:Array MapEntry} {clock:Nat} {ks:List Nam} (h:KeysU es clock ks):(es.toList.map (·.born)).Nodup:=by
 rw [List.nodup_iff_pairwise_ne,List.pairwise_map,List.pairwise_iff_getElem]
 intro i j hi hj hij e
 have hi':i < es.size:=by simpa using hi
 have hj':j < es.size:=by simpa using hj
 have a:=h.idx i es[i] (Array.getElem?_eq_getElem hi')
 have b:=h.idx j es[j] (Array.getElem?_eq_getElem hj')
 simp only [Array.getElem_toList] at e
 omega
def fx (ks:List Nam) (i:Nat):Nam:=ks.getD i default
def xA (bm r:Nat) (w:World):Nat:=
 match w.heap[bm]?,w.heap[r]? with
 | some (.map es _),some (.mapIter _ _ seen _)=>(leftOf es seen).size
 | _,_=>0
theorem KeysU.done {es:Array MapEntry} {clock:Nat} {ks:List Nam} (h:KeysU es clock ks) {seen:Array Nat} (hn:seen.toList.Nodup) (hb:∀i∈seen.toList,i < ks.length) (h0:(leftOf es seen).size=0) :
  (seen.toList.map (fx ks)).Perm ks:=by
 have all:∀i,i < ks.length→i∈seen.toList:=fun i hi=>by
  have hi':i < es.size:=by rw [h.size];exact hi
  rcases Bool.eq_false_or_eq_true (seen.contains i) with q | q
  ·simpa using q
  ·have hm:es[i]∈(leftOf es seen).toList:=by
    unfold leftOf
    simp only [Array.toList_filter,List.mem_filter]
    refine ⟨by simp,?_⟩
    rw [h.idx i es[i] (Array.getElem?_eq_getElem hi'),q];rfl
   rw [←Array.length_toList] at h0
   rw [List.length_eq_zero_iff.1 h0] at hm
   cases hm
 have hp:seen.toList.Perm (List.range ks.length):=
  (List.perm_ext_iff_of_nodup hn List.nodup_range).2 fun i=>⟨fun q=>List.mem_range.2 (hb i q),fun q=>all i (List.mem_range.1 q)⟩
 have e:(List.range ks.length).map (fx ks)=ks:=by
  apply List.ext_getElem
  ·simp
  ·intro i h1 h2
   simp [fx,List.getD_eq_getElem?_getD,List.getElem?_eq_getElem h2]
 have:=hp.map (fx ks)
 rw [e] at this
 exact this
structure StepU (bm r clock:Nat) (es:Array MapEntry) (seen:Array Nat) (w:World) (e:MapEntry) (w2:World):Prop where
 mem:e∈(leftOf es seen).toList
 it:w2.heap[r]?=some (.mapIter (some bm) clock (seen.push e.born) clock)
 grown:w.grownBy w2 (some r)
structure DoneU (es:Array MapEntry) (seen:Array Nat):Prop where
 none:(leftOf es seen).size=0
theorem lenU:∀(n:Nat) (l:List Nat),l.Nodup→(∀i∈l,i < n)→l.length<=n
 | 0,l,_,h=>by
  cases l with
  | nil=>exact Nat.le_refl _
  | cons a r=>have:=h a (by simp);omega
 | n+1,l,hn,h=>by
  have h1:=lenU n (l.erase n) (hn.erase n) (fun i hi=>by
   rw [hn.erase_eq_filter,List.mem_filter] at hi
   have:=h i hi.1
   have h2:i≠n:=by simpa using hi.2
   omega)
  by_cases hm:n∈l
  ·rw [List.length_erase_of_mem hm] at h1;omega
  ·rw [List.erase_of_not_mem hm] at h1;omega
section
variable {F:Fence} {n:Nat} {P:Program} {ops:Array Oper} {Q:Exit→Act→World→Prop} {o:Oper} {rest:List Oper} {a:Act} (w:World)
theorem ki (hg:o.guard=none) (m:Operand) (t:TypeId) (hop:o.op=Op.range t m) (k e:TypeId) (ht:P.underlying t=some (.map k e)) (b:Nat) (es:Array MapEntry) (clock:Nat)
  (hm:a.eval m=.map (some b)) (hb:w.heap[b]?=some (.map es clock))
  (hK:wpListIn F n P ops Q rest (a.put o.dst (.pointer (some ⟨w.heap.size,0,none⟩))) (w.alloc (.mapIter (some b) clock #[] clock))) :
  wpListIn F n P ops Q (o ::rest) a w:=by
 refine wpListIn_plain hg fun K' hK'=>?_
 have hrun:=run_range_map (P:=P) w t k e b es clock ht hb
 unfold Oper.wpIn
 refine ⟨?_,?_⟩
 ·simp [Oper.about,hop]
 ·rw [Oper.semAt_plain F _ _ (by rw [hop];intro c hc';cases hc')]
  simp [execOp,hop,hm,hrun,Result.andThen]
  exact hK' _ _ hK
theorem kT (hg:o.guard=none) (it:Operand) (hop:o.op=Op.next it false) (r bm clock c0:Nat) (seen:Array Nat) (es:Array MapEntry)
  (hit:a.eval it=.pointer (some ⟨r,0,none⟩)) (hr:w.heap[r]?=some (.mapIter (some bm) clock seen c0)) (hb:w.heap[bm]?=some (.map es clock)) (hold:∀x∈es.toList,x.born < clock) (hsc:clock<=c0)
  (hDone:DoneU es seen→wpListIn F n P ops Q rest (a.put o.dst (.tuple #[.bool false])) w)
  (hMore:∀(e:MapEntry) (w2:World),StepU bm r clock es seen w e w2→wpListIn F n P ops Q rest (a.put o.dst (.tuple #[.bool true,e.key,e.val])) w2) :
  wpListIn F n P ops Q (o ::rest) a w:=by
 refine wpListIn_plain hg fun K' hK'=>?_
 unfold Oper.wpIn
 refine ⟨by simp [Oper.about,hop],?_⟩
 rw [Oper.semAt_plain F _ _ (by rw [hop];intro c hc';cases hc')]
 rcases run_next_at (P:=P) w o.type r bm clock c0 seen es clock hr hb hold hsc with ⟨h0,hrun⟩ | ⟨e,he,w1,hw1,hrun⟩
 ·simp [execOp,hop,hit,hrun,Result.andThen]
  exact hK' _ _ (hDone ⟨h0⟩)
 ·simp [execOp,hop,hit,hrun,Result.andThen]
  have hrl:r < w.heap.size:=by
   rcases Nat.lt_or_ge r w.heap.size with h | h
   ·exact h
   ·rw [Array.getElem?_eq_none h] at hr;cases hr
  have hh:w1.heap=w.heap:=by rcases hw1 with rfl | rfl <;> rfl
  refine hK' _ _ (hMore e _ ⟨he,?_,?_⟩)
  ·show (w1.heap.setIfInBounds r _)[r]?=_
   rw [hh];simp [hrl]
  ·refine ⟨?_,?_,?_,?_,fun k hk hne=>?_⟩
   ·rcases hw1 with rfl | rfl <;> rfl
   ·rcases hw1 with rfl | rfl <;> rfl
   ·rcases hw1 with rfl | rfl <;> rfl
   ·show _<=(w1.heap.setIfInBounds r _).size
    rw [hh];simp
   ·show (w1.heap.setIfInBounds r _)[k]?=_
    rw [hh,Array.getElem?_setIfInBounds_ne (fun e=>hne (by rw [e]))]
end
theorem Tryz.ukeys1 (F:Fence) (n:Nat) (h59:F.fn 59) (hro:F.round=none) (hn:1<=n) (l Bm off bm:Nat) (es:Array MapEntry) (clock:Nat) (ks:List Nam) (hK:KeysU es clock ks) (J:List Nam→World→Prop)
  (hY:∀pre x W,J pre W→pre.length < ks.length→YieldAt F (n - 1) Tryz.prog l #[kg x] W fun e W'=>e=.returned (.bool true)/\J (pre++[x]) W'/\KeepsWalks W W')
  (W:World) (hJ:AbidesFrom W.heap.size J) (hm:W.cell? ⟨Bm,off,none⟩=some (.map (some bm))) (hb:W.heap[bm]?=some (.map es clock)) (h0:J [] W) :
  CallsIn F n Tryz.prog 59 #[.func (.yield l) #[] #[],.pointer (some ⟨Bm,off,none⟩)] W fun e W'=>(∃v,e=.returned v)/\∃ss:List Nam,ss.Perm ks/\J ss W':=by
 have hbm:bm < W.heap.size:=by
  rcases Nat.lt_or_ge bm W.heap.size with h | h
  ·exact h
  ·rw [Array.getElem?_eq_none h] at hb;cases hb
 refine callsIn_of_wp Tryz.func59 rfl h59 ?_ hro
 simp only [Tryz.ntmps59,List.size_toArray,List.length_cons,List.length_nil,Nat.reduceAdd,Nat.reduceSub,Array.replicate_succ,Array.replicate_zero,List.push_toArray,List.append_toArray,List.nil_append,List.cons_append]
 gi_wp2_with (first
  | (gi_at_range;refine ki _ rfl _ 80 rfl 77 3 Tryz.underlying80 bm es clock rfl hb ?_)
  | gi_in)
 go_frame
 gi_loopw [3] (fun _ wr=>∃(seen:Array Nat) (c0:Nat),wr.heap[W.heap.size]?=some (.mapIter (some bm) clock seen c0)/\clock<=c0/\wr.heap[bm]?=some (.map es clock)/\seen.toList.Nodup/\(∀i∈seen.toList,i < ks.length)/\J (seen.toList.map (fx ks)) wr)
  (fun _ wr=>xA bm W.heap.size wr)
 case atStart=>
  refine ⟨#[],clock,heap_alloc_new _ _,Nat.le_refl _,(heap_alloc_old _ _ hbm).trans hb,List.nodup_nil,by simp,hJ [] W _ none h0 (World.grownBy_alloc W _ none) (fun r e=>by cases e)⟩
 case round=>
  obtain ⟨seen,c0,hit,hc0,hbw,hnd,hlt,hJs⟩:=hrel
  gi_wp2_with (first
   | (gi_at_next;refine kT _ rfl _ rfl W.heap.size bm clock c0 seen es rfl hit hbw hK.old hc0 ?_ ?_)
   | gi_in)
  ·
   intro hl0
   gi_wp2
   go_end0
   exact ⟨⟨_,rfl⟩,_,hK.done hnd hlt hl0.none,hJs⟩
  ·
   intro e w2 hs
   have hes:e∈es.toList:=by
    have:=hs.mem
    unfold leftOf at this
    simp only [Array.toList_filter,List.mem_filter] at this
    exact this.1
   have hns:e.born∉seen.toList:=by
    have:=hs.mem
    unfold leftOf at this
    simp only [Array.toList_filter,List.mem_filter] at this
    simpa using this.2
   obtain ⟨i,hi,hei⟩:=List.getElem_of_mem hes
   have hi':i < es.size:=by simpa using hi
   have hei':es[i]?=some e:=by rw [←hei];simp [hi']
   have hbi:e.born=i:=hK.idx i e hei'
   have hik:i < ks.length:=by rw [←hK.size];exact hi'
   have hpk:ks[i]?=some (fx ks i):=by simp [fx,List.getD_eq_getElem?_getD,List.getElem?_eq_getElem hik]
   have hkey:e.key=kg (fx ks i):=hK.key i e _ hei' hpk
   have hm2:w2.heap[bm]?=some (.map es clock):=by
    rw [hs.grown.block bm ?_ ?_];exact hbw
    ·rcases Nat.lt_or_ge bm wr.heap.size with h | h
     ·exact h
     ·rw [Array.getElem?_eq_none h] at hbw;cases hbw
    ·intro e;cases e;omega
   have hen:=run_entry_at (P:=Tryz.prog) w2 W.heap.size bm clock seen es clock e hs.it hm2 hes hK.nodup
   have hlen:(seen.toList.map (fx ks)).length < ks.length:=by
    have:=lenU ks.length (i ::seen.toList) (List.nodup_cons.2 ⟨by rw [←hbi];exact hns,hnd⟩) (fun j hj=>by
     rcases List.mem_cons.1 hj with rfl | hj
     ·exact hik
     ·exact hlt j hj)
    rw [List.length_map]
    rw [List.length_cons] at this
    exact this
   have hJ2:J (seen.toList.map (fx ks)) w2:=hJ _ wr w2 (some W.heap.size) hJs hs.grown (fun r e=>by cases e;exact ⟨Nat.le_refl _,_,hit,rfl⟩)
   have hJ3:J (seen.toList.map (fx ks)) (w2.alloc (.cells #[.string ⟨(fx ks i).pkg.toArray⟩,.string ⟨(fx ks i).name.toArray⟩] 77)):=hJ _ w2 _ none hJ2 (World.grownBy_alloc w2 _ none) (fun r e=>by cases e)
   obtain ⟨fn,tmps,assign,body,hy,hR⟩:=hY _ (fx ks i) _ hJ3 hlen
   have hi2:=hs.it
   have hmem:=hs.mem
   clear hs hJ2 hJ3
   rw [hkey] at hen ⊢
   unfold kg at hen hy ⊢
   gi_wp2
   refine hR.mono ?_
   rintro e' W3 ⟨rfl,hJ4,hk3⟩
   gi_wp2
   have q1:W3.heap[W.heap.size]?=some (.mapIter (some bm) clock (seen.push e.born) clock):=hk3.same _ _ ((heap_alloc_old _ _ (Array.getElem?_eq_some_iff.1 hi2).1).trans hi2) rfl
   have q2:W3.heap[bm]?=some (.map es clock):=hk3.same _ _ ((heap_alloc_old _ _ (Array.getElem?_eq_some_iff.1 hm2).1).trans hm2) rfl
   go_roundw
   case rel=>
    refine ⟨_,clock,q1,Nat.le_refl _,q2,?_,?_,?_⟩
    ·rw [Array.toList_push]
     exact List.nodup_append.2 ⟨hnd,by simp,fun a ha b hb e=>by simp at hb;subst hb;exact hns (e ▸ ha)⟩
    ·intro j hj
     rw [Array.toList_push,List.mem_append,List.mem_singleton] at hj
     rcases hj with hj | rfl
     ·exact hlt j hj
     ·omega
    ·rw [Array.toList_push,List.map_append,List.map_singleton,hbi];exact hJ4
   case measure=>
    unfold xA
    rw [q1,q2,hit,hbw]
    exact nZ hmem
theorem Tryz.ukeys (F:Fence) (n:Nat) (h59:F.fn 59) (hro:F.round=none) (hn:1<=n) (Bm off bm:Nat) (es:Array MapEntry) (clock:Nat) (ks:List Nam) (hK:KeysU es clock ks) (w:World) (hm:w.cell? ⟨Bm,off,none⟩=some (.map (some bm))) (hb:w.heap[bm]?=some (.map es clock)) :
  SeqGives F n Tryz.prog 59 #[.pointer (some ⟨Bm,off,none⟩)] kg (fun ss=>ss.Perm ks) ks.length w:=fun l J W hW hJ hY h0=>by
 have hbm:bm < w.heap.size:=by
  rcases Nat.lt_or_ge bm w.heap.size with h | h
  ·exact h
  ·rw [Array.getElem?_eq_none h] at hb;cases hb
 exact Tryz.ukeys1 F n h59 hro hn l Bm off bm es clock ks hK J hY W hJ ((hW.cell (p:=⟨Bm,off,none⟩) (aB hm)).trans hm) ((hW.block bm hbm).trans hb) h0
end Go.Proofs
end
section
namespace Go.Proofs
open Go.RowKit Go.Shelf Go.AL Go.Maps
variable [Tabs]
attribute [local go_sem] Oper.semAt_some
set_option maxHeartbeats 4000000
def gu (x:Nam):List Value:=[.string ⟨x.pkg.toArray⟩,.string ⟨x.name.toArray⟩]
def fy (ss:List Nam):List Value:=ss.flatMap gu
theorem uL (ss:List Nam) (x:Nam):fy (ss++[x])=fy ss++gu x:=by simp [fy]
theorem pA (w:World) (x y:Value) (t:TypeId):∀j u,[x,y][j]?=some u→(w.alloc (.cells #[x,y] t)).cell? ((⟨w.heap.size,0,none⟩:Addr).add j)=some u:=by
 intro j u hj
 have hn:(w.alloc (.cells #[x,y] t)).heap[w.heap.size]?=some (.cells #[x,y] t (0,0)):=World.alloc_heap_new w _
 match j,hj with
 | 0,hj=>cases hj;show (w.alloc _).cell? ⟨w.heap.size,0,none⟩=_;rw [ad hn];rfl
 | 1,hj=>cases hj;show (w.alloc _).cell? ⟨w.heap.size,1,none⟩=_;rw [ad hn];rfl
 | j+2,hj=>simp at hj
theorem Tryz.infoU:(Tryz.prog.info? 77).map (fun i=>(i.zero,i.size,i.bytes))=some (some (.agg #[.string ⟨#[]⟩,.string ⟨#[]⟩]),2,32):=by kernel_rfl
def kj:Code:=(Code.region 2 #[{dst:=some 5,op:=Op.alloc 77,type:=0,pos:= "iter.go:51",after:=#[],guard:=none},{dst:=none,op:=Op.store 77 (Operand.tmp 5) (Operand.tmp 7),type:=0,pos:= "iter.go:51",after:=#[{on:=0,ground:=Ground.data},{on:=0,ground:=Ground.phase}],guard:=none}] false)
def pB:Code:=(Code.block 1 (Code.region 3 #[{dst:=some 8,op:=Op.load 31 (Operand.tmp 2),type:=31,pos:= "iter.go:52",after:=#[],guard:=none},{dst:=some 9,op:=Op.load 77 (Operand.tmp 5),type:=77,pos:= "iter.go:52",after:=#[],guard:=none},{dst:=some 10,op:=Op.buildSlice 31 1 #[(0,Operand.tmp 9)],type:=31,pos:= "iter.go:52",after:=#[{on:=1,ground:=Ground.data}],guard:=none},{dst:=some 11,op:=Op.call {callee:=Callee.builtin Builtin.append,args:=#[Operand.tmp 8,Operand.tmp 10],argTypes:=#[31,31]},type:=31,pos:= "iter.go:52",after:=#[{on:=0,ground:=Ground.data},{on:=2,ground:=Ground.data}],guard:=none},{dst:=none,op:=Op.store 31 (Operand.tmp 2) (Operand.tmp 11),type:=0,pos:= "iter.go:52",after:=#[{on:=3,ground:=Ground.data},{on:=3,ground:=Ground.chain},{on:=0,ground:=Ground.phase},{on:=1,ground:=Ground.phase},{on:=2,ground:=Ground.phase},{on:=3,ground:=Ground.phase}],guard:=none}] false))
def eD (fn:FuncId) (sv:Value) (Bs D:Nat) (st:LoopState) (pend:Option Code):Loop:=
 {state:=st,pending:=pend,fn,tmps:=#[.slice none 0 0,sv,.pointer (some ⟨Bs,0,none⟩),undef,.slice none 0 0,undef,sv,undef,undef,undef,undef,undef,undef],params:=#[7],assign:=kj,body:=pB,defers:=D}
structure UApAt (w0:World) (fn:FuncId) (sv:Value) (Bs l D:Nat) (ss:List Nam) (W:World):Prop where
 box:∃v,W.heap[Bs]?=some (.cells #[v] 31 (0,0))/\W.ownsRow w0.heap.size 77 2 v ss.length (fy ss)/\(v=.slice none 0 0↔ss=[])
 L:W.heap[l]?=some (.loop (eD fn sv Bs D .ready none))
 K:W.heap[D]?=some (.deferred (some []))
 below:Below w0.heap.size w0 W
theorem sB (w0:World) (fn:FuncId) (sv:Value) (Bs l D B:Nat) (hB:w0.heap.size<=B):AbidesFrom B (UApAt w0 fn sv Bs l D):=fun s W W' row h hg hrow=>by
 have hrow':∀r,row=some r→∃o:Obj,W.heap[r]?=some o/\o.isWalk=true:=fun r e=>(hrow r e).2
 obtain ⟨v,hv,hr,hn⟩:=h.box
 exact ⟨⟨v,(grownBy_keeps hg hrow' hv rfl).trans hv,ownsRow_abides_a hr hg hrow',hn⟩,(grownBy_keeps hg hrow' h.L rfl).trans h.L,(grownBy_keeps hg hrow' h.K rfl).trans h.K,
  h.below.grown hg h.below.size (fun k e=>Nat.le_trans hB (hrow k e).1)⟩
theorem Tryz.uapYield (F:Fence) (m:Nat) (w0:World) (fn:FuncId) (hfn:F.fn fn) (sv:Value) (Bs l D:Nat) (hBl:Bs≠l) (hDl:D≠l) (hDB:D≠Bs) (h0B:w0.heap.size<=Bs) (h0l:w0.heap.size<=l)
  (N:Nat) (hN:N<=maxLen) (hNb:N *32<=140737488355328) (ss:List Nam) (x:Nam) (W:World) (h:UApAt w0 fn sv Bs l D ss W) (hlen:ss.length < N) :
  YieldAt F m Tryz.prog l #[kg x] W fun e W'=>e=.returned (.bool true)/\UApAt w0 fn sv Bs l D (ss++[x]) W'/\KeepsWalks W W':=by
 have hne:(31:Nat)≠77:=by decide
 obtain ⟨i0,hi,hz0,hz1,hz2⟩:=info_parts Tryz.infoU
 refine ⟨fn,#[.slice none 0 0,sv,.pointer (some ⟨Bs,0,none⟩),undef,.slice none 0 0,undef,sv,kg x,undef,undef,undef,undef,undef],kj,pB,by simpa [eD] using run_yield (P:=Tryz.prog) (args:=#[kg x]) h.L rfl,roundIn_of_wpIn hfn ?_⟩
 obtain ⟨Wa,hWa⟩:∃Wa,W.alloc (.cells #[.string ⟨x.pkg.toArray⟩,.string ⟨x.name.toArray⟩] 77)=Wa:=⟨_,rfl⟩
 have hga:W.grownBy Wa none:=by rw [←hWa];exact World.grownBy_alloc _ _ none
 have hka:KeepsWalks W Wa:=by rw [←hWa];exact KeepsWalks.alloc _ _
 have hL:Wa.heap[l]?=some (.loop (eD fn sv Bs D .ready none)):=(hga.block l (Array.getElem?_eq_some_iff.1 h.L).1 (by simp)).trans h.L
 have hK:Wa.heap[D]?=some (.deferred (some [])):=(hga.block D (Array.getElem?_eq_some_iff.1 h.K).1 (by simp)).trans h.K
 have h5:Wa.heap[W.heap.size]?=some (.cells #[.string ⟨x.pkg.toArray⟩,.string ⟨x.name.toArray⟩] 77 (0,0)):=by rw [←hWa];exact World.alloc_heap_new _ _
 have hbw:Below w0.heap.size w0 Wa:=h.below.grown hga h.below.size (fun k e=>by cases e)
 obtain ⟨v,hv0,hrow0,_⟩:=h.box
 have hv:Wa.heap[Bs]?=some (.cells #[v] 31 (0,0)):=(hga.block Bs (Array.getElem?_eq_some_iff.1 hv0).1 (by simp)).trans hv0
 have hrow:Wa.ownsRow w0.heap.size 77 2 v ss.length (fy ss):=hrow0.kept hga (Classical.em _)
 have hlW:l < W.heap.size:=(Array.getElem?_eq_some_iff.1 h.L).1
 have hl:l < Wa.heap.size:=(Array.getElem?_eq_some_iff.1 hL).1
 have hbr:=run_beginRound (P:=Tryz.prog) hL rfl
 obtain ⟨W2,hW2⟩:∃W2,Wa.putObj l (.loop {eD fn sv Bs D .ready none with state:=.busy})=W2:=⟨_,rfl⟩
 rw [hW2] at hbr
 have hg2:Wa.grownBy W2 (some l):=by rw [←hW2];exact grownBy_putObj_a _ _ _
 have hk2:KeepsWalks W W2:=hka.trans (by rw [←hW2];exact KeepsWalks.putObj _ hL rfl)
 have hv2:W2.heap[Bs]?=some (.cells #[v] 31 (0,0)):=by rw [←hW2];exact (World.putObj_heap_other hBl).trans hv
 have hK2:W2.heap[D]?=some (.deferred (some [])):=by rw [←hW2];exact (World.putObj_heap_other hDl).trans hK
 have hL2:W2.heap[l]?=some (.loop {eD fn sv Bs D .ready none with state:=.busy}):=by rw [←hW2];exact World.putObj_heap_same hl
 have hrow2:W2.ownsRow w0.heap.size 77 2 v ss.length (fy ss):=hrow.kept hg2 (ownsRow_ne_a hrow hL (fun cur e=>by first | cases e | exact hne (Obj.cells.inj e).2.1))
 have hb2:Below w0.heap.size w0 W2:=hbw.grown hg2 hbw.size (fun k e=>by cases e;exact h0l)
 have h52:W2.heap[W.heap.size]?=some (.cells #[.string ⟨x.pkg.toArray⟩,.string ⟨x.name.toArray⟩] 77 (0,0)):=by rw [←hW2];exact (World.putObj_heap_other (by omega)).trans h5
 have hc5:W2.cell? ⟨W.heap.size,0,none⟩=some (.string ⟨x.pkg.toArray⟩):=by simp [World.cell?,h52]
 have hc6:W2.cell? ⟨W.heap.size,1,none⟩=some (.string ⟨x.name.toArray⟩):=by simp [World.cell?,h52]
 obtain ⟨hc2,hf2⟩:=cell_of_box_a hv2
 have hBlt:Bs < W2.heap.size:=(Array.getElem?_eq_some_iff.1 hv2).1
 have hl2:l < W2.heap.size:=(Array.getElem?_eq_some_iff.1 hL2).1
 have hDlt:D < W2.heap.size:=(Array.getElem?_eq_some_iff.1 hK2).1
 have ne_of:∀{j:Nat} {o:Obj},W2.heap[j]?=some o→(∀cur,o≠.cells cur 77 (0,0))→some j≠v.ownBlock:=fun hj hno=>by
  rcases ownsRow_ne_a hrow2 hj hno with e | e
  ·rw [e];simp
  ·exact fun e'=>e e'.symm
 clear hW2
 unfold kj kg
 gi_wp2_with gi_round_op_a
 unfold pB
 gi_wp2_with (first
  | (gi_at_builtin;refine wpListIn_append_own _ rfl _ _ 31 rfl w0.heap.size 77 i0 (.agg #[.string ⟨#[]⟩,.string ⟨#[]⟩]) 2 32 Tryz.underlying31 hi hz0 hz1 hz2 rfl (by decide) _ _ _ rfl (hrow2.alloc _) ⟨W2.heap.size,0,none⟩ 1 1 (gu x) rfl rfl (pA _ _ _ _) (by simp [Value.oneCell',gu]) (by omega) (by omega) (by have:=hb2.size;simp;omega) ?_;intro v' w3 hown' hg3 hnil3;have hv3:w3.heap[Bs]?=some (.cells #[v] 31 (0,0)):=(hg3.block Bs (by simp;omega) (ne_of hv2 (fun cur e=>by first | cases e | exact hne (Obj.cells.inj e).2.1))).trans ((Below.heap_alloc _ _ Bs hBlt).trans hv2);obtain ⟨hc3,hf3⟩:=cell_of_box_a hv3;obtain ⟨g',cap',cur',rfl,hbase',hgb',hr1,hr2,hr3,hr4⟩:∃g' cap' cur',v'=.slice (some ⟨g',0,none⟩) (ss.length+1) cap'/\w0.heap.size<=g'/\w3.heap[g']?=some (.cells cur' 77 (0,0))/\ss.length+1<=cap'/\cap'<=maxLen/\cur'.size=cap' *2/\cur'.toList.take ((ss.length+1) *2)=fy ss++gu x:=hown'.2.elim (fun q=>absurd q.2 (by omega)) id;go_frame)
  | gi_round_op_a)
 have hg3':(W2.alloc (.cells #[.string ⟨x.pkg.toArray⟩,.string ⟨x.name.toArray⟩] 77)).grownBy w3 v.ownBlock:=hg3
 have hL3:w3.heap[l]?=some (.loop {eD fn sv Bs D .ready none with state:=.busy}):=(hg3'.block l (by simp;omega) (ne_of hL2 (fun cur e=>by first | cases e | exact hne (Obj.cells.inj e).2.1))).trans ((Below.heap_alloc _ _ l hl2).trans hL2)
 have hK3:w3.heap[D]?=some (.deferred (some [])):=(hg3'.block D (by simp;omega) (ne_of hK2 (fun cur e=>by first | cases e | exact hne (Obj.cells.inj e).2.1))).trans ((Below.heap_alloc _ _ D hDlt).trans hK2)
 obtain ⟨w4,hw4⟩:∃w4,w3.setCell ⟨Bs,0,none⟩ (.slice (some ⟨g',0,none⟩) (ss.length+1) cap')=w4:=⟨_,rfl⟩
 rw [hw4]
 have hg4:w3.grownBy w4 (some Bs):=by rw [←hw4];exact grownBy_setCell0_a _ _ _
 have hv4:w4.heap[Bs]?=some (.cells #[.slice (some ⟨g',0,none⟩) (ss.length+1) cap'] 31 (0,0)):=by rw [←hw4];exact heap_setCell_box_a _ hv3
 have hL4:w4.heap[l]?=some (.loop {eD fn sv Bs D .ready none with state:=.busy}):=(hg4.block l (Array.getElem?_eq_some_iff.1 hL3).1 (fun e=>hBl (by cases e;rfl))).trans hL3
 have hK4:w4.heap[D]?=some (.deferred (some [])):=(hg4.block D (Array.getElem?_eq_some_iff.1 hK3).1 (fun e=>hDB (by cases e;rfl))).trans hK3
 have hrow4:=hown'.kept hg4 (ownsRow_ne_a hown' hv3 (fun cur e=>by first | cases e | exact hne (Obj.cells.inj e).2.1))
 have hl4:l < w4.heap.size:=(Array.getElem?_eq_some_iff.1 hL4).1
 have hb3:Below w0.heap.size w0 w3:=(hb2.alloc hb2.size _).grown hg3' (by have:=hb2.size;simp;omega) (fun k e=>(hrow2.lt k e).1)
 have hb4:Below w0.heap.size w0 w4:=hb3.grown hg4 hb3.size (fun k e=>by cases e;exact h0B)
 have hk4:KeepsWalks W w4:=((hk2.trans (KeepsWalks.alloc _ _)).trans (KeepsWalks.of_grownBy hg3' (ownsRow_not_walk_a (hrow2.alloc _)))).trans (by rw [←hw4];exact KeepsWalks.setCell _ _ _)
 clear hw4
 refine ⟨_,_,run_endRound none hL4,rfl,⟨⟨_,(World.putObj_heap_other hBl).trans hv4,?_,by simp⟩,World.putObj_heap_same hl4,(World.putObj_heap_other hDl).trans hK4,hb4.grown (grownBy_putObj_a _ _ _) hb4.size (fun k e=>by cases e;exact h0l)⟩,hk4.trans (KeepsWalks.putObj _ hL4 rfl)⟩
 have:=hrow4.kept (grownBy_putObj_a w4 l (.loop {{eD fn sv Bs D .ready none with state:=.busy} with state:=if (none:Option Code).isNone then .ready else .done,pending:=none})) (ownsRow_ne_a hrow4 hL4 (fun cur e=>by first | cases e | exact hne (Obj.cells.inj e).2.1))
 simpa [uL] using this
theorem Tryz.uappendSeq (F:Fence) (n:Nat) (h11:F.fn 98) (hro:F.round=none) (hn:2<=n) (g:Nat) (lb:Array Value) (hFg:F.fn g) (eg:∀args w,(callFunc g args).run Tryz.prog w=.ok (.enter g args) w)
  (S:List Nam→Prop) (N:Nat) (hN:N<=maxLen) (hNb:N *32<=140737488355328) (w:World) (hseq:SeqGives F (n - 1) Tryz.prog g lb kg S N w) :
  CallsIn F n Tryz.prog 98 #[.slice none 0 0,.func (.func g) #[] lb] w fun e w'=>∃(v:Value) (ss:List Nam),e=.returned v/\S ss/\w'.ownsRow w.heap.size 77 2 v ss.length (fy ss)/\(v=.slice none 0 0↔ss=[])/\Below w.heap.size w w':=by
 have h1:1<=n:=by omega
 have hne:(31:Nat)≠77:=by decide
 refine callsIn_of_wp_marks Tryz.func98 rfl h11 ?_ hro
 simp only [Tryz.ntmps98,List.size_toArray,List.length_cons,List.length_nil,Nat.reduceAdd,Nat.reduceSub,Array.replicate_succ,Array.replicate_zero,List.push_toArray,List.append_toArray,List.nil_append,List.cons_append]
 gi_wp2
 refine wpIn_rangeFunc ?_
 intro fn hfn
 rw [hro]
 obtain ⟨W0,hW0⟩:∃W0,w.alloc (.cells #[.slice none 0 0] 31)=W0:=⟨_,rfl⟩
 have hs0:W0.heap.size=w.heap.size+1:=by rw [←hW0];simp
 have hv0:W0.heap[w.heap.size]?=some (.cells #[.slice none 0 0] 31 (0,0)):=by rw [←hW0];exact World.alloc_heap_new w _
 have hb0:Below w.heap.size w W0:=by rw [←hW0];exact (Below.refl _ w).alloc (Nat.le_refl _) _
 rw [hW0]
 obtain ⟨W1,hW1⟩:∃W1,(W0.alloc (.deferred (some []))).alloc (.loop (eD fn (.func (.func g) #[] lb) w.heap.size W0.heap.size .ready none))=W1:=⟨_,rfl⟩
 have hold:∀k,k < W0.heap.size→W1.heap[k]?=W0.heap[k]?:=fun k hk=>by
  rw [←hW1];exact (Below.heap_alloc _ _ k (by simp;omega)).trans (Below.heap_alloc _ _ k hk)
 have hb1:Below w.heap.size w W1:=by rw [←hW1];exact (hb0.alloc hb0.size _).alloc (by have:=hb0.size;simp;omega) _
 have hs1:W1.heap.size=W0.heap.size+2:=by rw [←hW1];simp
 have hM:UApAt w fn (.func (.func g) #[] lb) w.heap.size (W0.heap.size+1) W0.heap.size [] W1:=
  ⟨⟨_,(hold w.heap.size (by omega)).trans hv0,⟨rfl,.inl ⟨rfl,rfl⟩⟩,by simp⟩,
   by rw [←hW1];have:=World.alloc_heap_new (W0.alloc (.deferred (some []))) (.loop (eD fn (.func (.func g) #[] lb) w.heap.size W0.heap.size .ready none));rwa [World.size_alloc] at this,
   by rw [←hW1];exact (Below.heap_alloc _ _ _ (by simp)).trans (World.alloc_heap_new W0 _),hb1⟩
 refine ⟨W0.heap.size+1,[{target:=.collected W0.heap.size,args:=#[]}],W1,{target:=.fn (.func g) lb,args:=#[.func (.yield (W0.heap.size+1)) #[] #[]]},W1,g,
  #[.func (.yield (W0.heap.size+1)) #[] #[]]++lb,W1,?_,?_,?_,?_,fun _=>h1,?_⟩
 ·rw [←hW1];exact run_enterLoop_outer _ _ _ _ _
 ·simp [resolve,go_sem]
 ·intro f' hf';simp [Target.leads] at hf';subst hf';exact hFg
 ·simp [invoke,go_sem,eg]
 ·refine (hseq (W0.heap.size+1) (UApAt w fn (.func (.func g) #[] lb) w.heap.size (W0.heap.size+1) W0.heap.size) W1 hb1 (sB _ _ _ _ _ _ _ hb1.size)
   (fun pre x W hJ hl=>Tryz.uapYield F (n - 1 - 1) w fn hfn _ w.heap.size (W0.heap.size+1) W0.heap.size (by omega) (by omega) (by omega) (Nat.le_refl _) (by omega) N hN hNb pre x W hJ hl) hM).mono ?_
  rintro e W2 ⟨⟨v0,rfl⟩,ss,hS,h2⟩
  obtain ⟨v,hv,hrow,hnil⟩:=h2.box
  have hend:=run_endLoop (P:=Tryz.prog) h2.L (by simp [eD])
  obtain ⟨W3,hW3⟩:∃W3,W2.putObj (W0.heap.size+1) (.loop {eD fn (.func (.func g) #[] lb) w.heap.size W0.heap.size .ready none with state:=.exhausted})=W3:=⟨_,rfl⟩
  rw [hW3] at hend
  have hg3:W2.grownBy W3 (some (W0.heap.size+1)):=by rw [←hW3];exact grownBy_putObj_a _ _ _
  have hv3:W3.heap[w.heap.size]?=some (.cells #[v] 31 (0,0)):=by rw [←hW3];exact (World.putObj_heap_other (by omega)).trans hv
  have hK3:W3.heap[W0.heap.size]?=some (.deferred (some [])):=by rw [←hW3];exact (World.putObj_heap_other (by omega)).trans h2.K
  have hrow3:=hrow.kept hg3 (ownsRow_ne_a hrow h2.L (fun cur e=>by first | cases e | exact hne (Obj.cells.inj e).2.1))
  have hb3:Below w.heap.size w W3:=h2.below.grown hg3 h2.below.size (fun k e=>by cases e;omega)
  obtain ⟨hc3,hf3⟩:=cell_of_box_a hv3
  clear hW3
  refine ⟨none,W3,hend,?_⟩
  gi_wp2
  rw [←hs0]
  refine ⟨by simp,.inl ⟨_,_,rfl,run_takeDeferred hK3,?_⟩⟩
  exact ⟨_,results_tmp rfl _ _ _,v,ss,rfl,hS,hrow3.kept (grownBy_putObj_a _ _ _) (ownsRow_ne_a hrow3 hK3 (fun cur e=>by first | cases e | exact hne (Obj.cells.inj e).2.1)),hnil,hb3.grown (grownBy_putObj_a _ _ _) hb3.size (fun k e=>by cases e;omega)⟩
theorem Tryz.ucollect (F:Fence) (n:Nat) (h8:F.fn 57) (h11:F.fn 98) (hro:F.round=none) (hn:3<=n) (g:Nat) (lb:Array Value) (hFg:F.fn g) (eg:∀args w,(callFunc g args).run Tryz.prog w=.ok (.enter g args) w)
  (S:List Nam→Prop) (N:Nat) (hN:N<=maxLen) (hNb:N *32<=140737488355328) (w:World) (hseq:SeqGives F (n - 1 - 1) Tryz.prog g lb kg S N w) :
  CallsIn F n Tryz.prog 57 #[.func (.func g) #[] lb] w fun e w'=>∃(v:Value) (ss:List Nam),e=.returned v/\S ss/\w'.ownsRow w.heap.size 77 2 v ss.length (fy ss)/\(v=.slice none 0 0↔ss=[])/\Below w.heap.size w w':=by
 have h1:1<=n:=by omega
 have e98:∀args w,(callFunc 98 args).run Tryz.prog w=.ok (.enter 98 args) w:=enters_of Tryz.func98 (by kernel_rfl) rfl
 refine callsIn_of_wp Tryz.func57 rfl h8 ?_ hro
 simp only [Tryz.ntmps57,List.size_toArray,List.length_cons,List.length_nil,Nat.reduceAdd,Nat.reduceSub,Array.replicate_succ,Array.replicate_zero,List.push_toArray,List.append_toArray,List.nil_append,List.cons_append]
 gi_wp2_with (gi_at_fn 98;refine (Tryz.uappendSeq F (n - 1) h11 hro (by omega) g lb hFg eg S N hN hNb _ hseq).mono ?_;rintro e w' ⟨v,ss,rfl,hS,hrow,hnil,hb⟩)
 go_ret
 exact ⟨v,ss,rfl,hS,hrow,hnil,hb⟩
end Go.Proofs
end
section
namespace Go.Proofs
open Go.RowKit Go.Shelf Go.AL Go.Maps Go.Sort Go.Pd Go.Lib
variable [Tabs]
attribute [local go_sem] Oper.semAt_some
set_option maxHeartbeats 4000000
theorem og:∀(ss:List Nam) (t:Nat),t < ss.length *2→(fy ss)[t]?=some ((iJ (ss.toArray[t / 2]!))[t % 2]!)
 | [],t,h=>by simp at h
 | x ::r,t,h=>by
  have e:fy (x ::r)=gu x++fy r:=by simp [fy]
  rw [e]
  match t,h with
  | 0,_=>rfl
  | 1,_=>rfl
  | t+2,h=>
   have h':t < r.length *2:=by simp at h;omega
   have ih:=og r t h'
   rw [List.getElem?_append_right (by simp [gu])]
   rw [show t+2 - (gu x).length=t by simp [gu],ih]
   have d:(t+2) / 2=t / 2+1:=by omega
   have m:(t+2) % 2=t % 2:=by omega
   rw [d,m]
   have hl:t / 2 < r.length:=by omega
   simp [hl]
theorem kU {w:World} {g n:Nat} {os:Array Obj} (d:Array Nam):w.grownBy (sortWorldK iJ 2 w g 0 n d os) (some g):=by
 unfold sortWorldK putRowK
 refine ⟨rfl,rfl,rfl,by simp,fun k hk hne=>?_⟩
 rw [heap_grow_old _ _ (by simpa using hk)]
 have:g≠k:=fun e=>hne (by rw [e])
 simp [putRow,mapBlock,Sort.ahead,Array.getElem?_modify,this]
def RowU (w':World) (base:Nat) (v:Value) (l:List Nam):Prop:=
 (v=.slice none 0 0/\l=[])∨∃g cap,v=.slice (some ⟨g,0,none⟩) l.length cap/\base<=g/\l.length<=cap/\cap<=maxLen/\HoldsK iJ 2 w' g 0 l.toArray
theorem uM {ks:List Nam} (hnd:ks.Nodup) {d:Array Nam} (hp:d.toList.Perm ks) (hs:SortedIn (ltOf cfU) 0 d.size d):d.toList=fa ks:=by
 have hn:d.toList.Nodup:=hp.nodup_iff.2 hnd
 refine tv ?_ (uB hnd) fun v=>by rw [hp.mem_iff,fa,List.mem_mergeSort]
 unfold xi
 rw [List.pairwise_iff_getElem]
 intro i j hi hj hij
 have hi':i < d.size:=by simpa using hi
 have hj':j < d.size:=by simpa using hj
 have h:=hs i j (Nat.zero_le _) hij hj'
 rw [jx,getElem!_pos d j hj',getElem!_pos d i hi'] at h
 simp only [Array.getElem_toList]
 rcases ju d[i] d[j] with t | t | t
 ·exact t
 ·rw [List.nodup_iff_pairwise_ne,List.pairwise_iff_getElem] at hn
  exact absurd (by simpa using t) (hn i j hi hj hij)
 ·rw [t] at h;cases h
theorem Tryz.usorted (w:World) (g:Nat) (lb:Array Value) (eg:∀args w,(callFunc g args).run Tryz.prog w=.ok (.enter g args) w) (ks:List Nam) (hN:ks.length *32<=140737488355328) (hnd:ks.Nodup)
  (hseq:SeqGives Fence.wide 2 Tryz.prog g lb kg (fun ss=>ss.Perm ks) ks.length w) :
  Calls Tryz.prog 27 #[.func (.func g) #[] lb,.func (.func 29) #[] #[]] w fun en w'=>∃v,en=.returned v/\RowU w' w.heap.size v (fa ks)/\RowKit.Below w.heap.size w w':=by
 have e57:∀args w,(callFunc 57 args).run Tryz.prog w=.ok (.enter 57 args) w:=enters_of Tryz.func57 (by kernel_rfl) rfl
 have e58:∀args w,(callFunc 58 args).run Tryz.prog w=.ok (.enter 58 args) w:=enters_of Tryz.func58 (by kernel_rfl) rfl
 have e29:∀args w,(callFunc 29 args).run Tryz.prog w=.ok (.enter 29 args) w:=enters_of Tryz.func29 (by kernel_rfl) rfl
 have w57:Fence.wide.fn 57:=trivial
 have w58:Fence.wide.fn 58:=trivial
 refine (callsIn_wide (n:=5)).1 ?_
 refine callsIn_of_wp (n:=5) Tryz.func27 rfl trivial ?_ rfl
 simp only [Tryz.ntmps27,List.size_toArray,List.length_cons,List.length_nil,Nat.reduceAdd,Nat.reduceSub,Array.replicate_succ,Array.replicate_zero,List.push_toArray,List.append_toArray,List.nil_append,List.cons_append]
 gi_wp2_with (gi_at_fn 57;refine (Tryz.ucollect Fence.wide 4 trivial trivial rfl (by omega) g lb trivial eg _ ks.length (by unfold maxLen;omega) hN w hseq).mono ?_;rintro e W ⟨v,ss,rfl,hS,hrow,hnil,hb⟩)
 rcases hrow.2 with ⟨rfl,hz⟩ | ⟨gb,cap,cur,rfl,hbase,hgb,r1,r2,r3,r4⟩
 ·have hss:ss=[]:=List.eq_nil_of_length_eq_zero hz
  subst hss
  have hks:ks=[]:=by have:=hS.length_eq;simp at this;exact List.eq_nil_of_length_eq_zero this.symm
  subst hks
  gi_wp2_with (gi_at_fn 58;refine (callsIn_wide.2 (AnyF.slices_SortFunc_none Tryz.sortf none 0 _ W)).mono ?_;rintro e w' ⟨rfl,rfl⟩)
  go_ret
  exact ⟨_,rfl,.inl ⟨rfl,by simp [fa]⟩,hb⟩
 ·have hH:HoldsK iJ 2 W gb 0 ss.toArray:=by
   intro j hj
   have hj':j < ss.length *2:=by simpa using hj
   refine ⟨?_,by simp [World.frozen?,hgb]⟩
   have h1:cur.toList[j]?=(fy ss)[j]?:=by rw [←r4,List.getElem?_take_of_lt (by omega)]
   rw [og ss j hj'] at h1
   rw [Nat.zero_add,ad hgb,←Array.getElem?_toList,h1,get_flatK _ _ _ _ (by simpa using hj')]
   rfl
  have hgl:gb < W.heap.size:=(Array.getElem?_eq_some_iff.1 hgb).1
  have hsz:ss.toArray.size < 4611686018427387904:=by have:=hS.length_eq;simp;omega
  have cS:=AnyQ.slices_SortFunc Tryz.sortf 2 Tryz.isAgg77 Tryz.sizeOf77 iJ (fun _=>rfl) (by intro x v hv;simp [iJ] at hv;rcases hv with rfl | rfl <;> rfl) cfU swoU 29 #[] gb 0 cap ss.toArray W e29 (Tryz.cmpLays _ _ _ _) hH hgl hsz
  rw [show ss.toArray.size=ss.length by simp] at cS
  clear hrow
  gi_wp2_with (gi_at_fn 58;refine (callsIn_wide.2 cS).mono ?_;rintro e w' ⟨rfl,d',n',os,hperm,hsort,rfl⟩)
  go_ret
  obtain ⟨p1,_,p3⟩:=hperm
  have hds:d'.size=ss.length:=by rw [p1];simp
  have x1:d'.extract 0 ss.length=d':=by rw [←hds];simp
  have x2:ss.toArray.extract 0 ss.length=ss.toArray:=by simp
  rw [x1,x2] at p3
  have hp:d'.toList.Perm ks:=(by simpa using p3:d'.toList.Perm ss).trans hS
  rw [←hds] at hsort
  have hres:=uM hnd hp hsort
  have hrl:(fa ks).length=ss.length:=by rw [←hres];simp [hds]
  refine ⟨.slice (some ⟨gb,0,none⟩) ss.length cap,rfl,.inr ⟨gb,cap,by rw [hrl],hbase,by omega,r2,?_⟩,hb.grown (kU _) hb.size (fun j hj=>by cases hj;exact hbase)⟩
  rw [←hres]
  simp only [Array.toArray_toList]
  exact holdsK_sortWorldK iJ 2 W gb 0 n' ss.toArray d' os hgl hH (by rw [hds];simp)
end Go.Proofs
end
noncomputable section
namespace Go.AL
open Go.Proofs Go.RowKit Go.Maps Go.Sort Go.Shelf Go.Pd
variable [Tabs]
set_option maxHeartbeats 1000000
theorem nI {τ:Ty} (m:List (Nam × den τ)) (hN:m.length *32<=140737488355328) :
  b8 Tryz.prog 27 [.fn 59 [.ptr 900 0],.fn 29 []] [(900,.box (.map 901)),(901,.map (.st .nm) τ m)] ⟨some (m.length *32<=140737488355328),none,.lst (.st .nm) (fa (m.map (·.1))) none,[(901,.map (.st .nm) τ m)]⟩:=by
 intro w pub e vs hp ht hv hs hd hi
 obtain ⟨v1,v2,rfl,h1,h2⟩:=VL.two_inv hv
 obtain ⟨us,rfl,hus⟩:=h1.fn_inv
 obtain ⟨us2,rfl,hus2⟩:=h2.fn_inv
 obtain rfl:us2=[]:=List.eq_nil_of_length_eq_zero hus2.1.symm
 obtain ⟨u,rfl,hu⟩:=VL.one_inv hus
 obtain ⟨b,o,len,rfl,he⟩:=hu.ptr_inv
 obtain ⟨b',o',he',hbox⟩:=hs 900 _ rfl
 rw [he] at he'
 cases he'
 obtain ⟨_,_,_,v,hcell,hvm⟩:=hbox 0 (.map 901) rfl
 cases hvm with
 | map _ r her=>
  have her:e 901=some (.obj r):=her
  obtain ⟨r',her',_,es,clock,hr,hmok⟩:=hs 901 _ rfl
  have her':e 901=some (.obj r'):=her'
  rw [her] at her'
  cases her'
  have hr:w.heap[r]?=some (.map es clock):=hr
  have ent:∀(i:Nat) (hi:i < m.length),∃en,es[i]?=some en/\en.key=kg m[i].1/\m[i].1.pkg.length<=aK/\m[i].1.name.length<=aK:=fun i hi=>by
   have hi':i < es.size:=by rw [hmok.size];exact hi
   have q:=tR (hmok.ent i es[i] m[i] (Array.getElem?_eq_getElem hi') (List.getElem?_eq_getElem hi)).1
   exact ⟨es[i],Array.getElem?_eq_getElem hi',q.1,q.2⟩
  have hK:KeysU es clock (m.map (·.1)):=⟨by simp [hmok.size],fun i en k q1 q2=>by
   have hi:i < m.length:=by
    rcases Nat.lt_or_ge i m.length with q | q
    ·exact q
    ·rw [List.getElem?_eq_none (by simpa using q)] at q2;cases q2
   obtain ⟨en',a1,a2,_⟩:=ent i hi
   rw [q1] at a1
   cases a1
   rw [List.getElem?_map,List.getElem?_eq_getElem hi] at q2
   cases q2
   exact a2,hmok.idx,hmok.top⟩
  have hsq:=Tryz.ukeys Fence.wide 2 trivial rfl (by omega) b (o+0) r es clock _ hK w hcell hr
  have e59:∀args w,(callFunc 59 args).run Tryz.prog w=.ok (.enter 59 args) w:=enters_of Tryz.func59 (by kernel_rfl) rfl
  refine (Tryz.usorted w 59 #[.pointer (some ⟨b,o+0,none⟩)] e59 (m.map (·.1)) (by simpa using hN) hmok.keys hsq).mono ?_
  rintro en w' ⟨v,rfl,hrow,hb⟩
  have hlen:∀k∈fa (m.map (·.1)),k.pkg.length<=aK/\k.name.length<=aK:=fun k hk=>by
   rw [fa,List.mem_mergeSort] at hk
   obtain ⟨x,hx,rfl⟩:=List.mem_map.1 hk
   obtain ⟨i,hi,rfl⟩:=List.getElem_of_mem hx
   obtain ⟨_,_,_,a3⟩:=ent i hi
   exact a3
  generalize fa (m.map (·.1))=l at hrow hlen
  have aft:∀(Q:Nat→Nat→Prop),(∀b o,Q b o→w.heap.size<=b/\∃v,w'.cell? ⟨b,o,none⟩=some v)→
    After w pub e (ag (bq [(900,.box (.map 901)),(901,.map (.st .nm) τ m)] [(901,.map (.st .nm) τ m)])) w' (fun b o=>pub b o∨Q b o) (fun i=>if 901=i then some (.obj r) else e i):=fun Q hQ=>
   After.slot hp hs hd hi (k:=901) (obj:=.map (.st .nm) τ m) (c:=.obj r) (Q:=Q) hb.os hb.tape hb.output hb.size (fun b h _=>hb.block b h) (fun b o h _=>ab (hb.block b h) o)
    (fun b h _=>⟨aF (hb.block b h),fun o=>aw (hb.block b h) o⟩)
    (fun b o h=>by obtain ⟨v,hv⟩:=hp b o h;exact ab (hb.block b (aB hv)) o)
    hQ (fun c0 h=>by rw [her] at h;cases h;exact CLe.refl _) (fun b o ho=>.inr ⟨_,her,ho⟩)
    (fun hx=>⟨r,by simp,fun o=>.inr ⟨901,_,her,rfl⟩,es,clock,(hb.block r (aZ hr)).trans hr,hmok.ext hx⟩)
  rcases hrow with ⟨rfl,rfl⟩ | ⟨g,cap,rfl,hbase,h1,h2,hH⟩
  ·exact ⟨_,_,fun _ _ _ h=>(by cases h),.lstNil _ _ (fun _ h=>by cases h),aft (fun _ _=>False) (fun _ _ h=>h.elim)⟩
  ·have cel:∀(i:Nat) (hi:i < l.length) (c:Nat),c < 2→w'.cell? ⟨g,i *2+c,none⟩=some ((iJ l[i])[c]!):=fun i hi c hc=>by
    have:=(hH.cell (i:=i) (by simpa using hi) hc).1
    rw [show 0+i *2+c=i *2+c by omega] at this
    rw [this]
    simp [hi]
   refine ⟨_,_,fun _ _ _ h=>(by cases h),?_,aft (fun b o=>b=g/\o < l.length *2) (fun b o ⟨q1,q2⟩=>?_)⟩
   ·refine .lst (.st .nm) l none g 0 cap (fun i j=>(iJ (l.getD i default))[j]!) h1 (by unfold maxLen at h2;unfold aK;omega) (fun id h=>by cases h) (fun i x hx j c hc=>?_) (fun i x hx j c hc=>?_)
    ·obtain ⟨hi',rfl⟩:=List.getElem?_eq_some_iff.1 hx
     have hj:j < 2:=(List.getElem?_eq_some_iff.1 hc).1
     have ew:a7 (.st .nm)=2:=rfl
     rw [ew,Nat.zero_add]
     refine ⟨.inr ⟨rfl,by omega⟩,?_⟩
     show w'.cell? ⟨g,i *2+j,none⟩=_
     rw [cel i hi' j hj,List.getD_eq_getElem?_getD,List.getElem?_eq_getElem hi']
     rfl
    ·obtain ⟨hi',rfl⟩:=List.getElem?_eq_some_iff.1 hx
     have q:=hlen l[i] (List.getElem_mem hi')
     rw [List.getD_eq_getElem?_getD,List.getElem?_eq_getElem hi',Option.getD_some]
     match j,hc with
     | 0,hc=>cases hc;exact .str _ q.1
     | 1,hc=>cases hc;exact .str _ q.2
     | j+2,hc=>cases hc
   ·subst q1
    have hd2:o=(o / 2) *2+o % 2:=by omega
    exact ⟨hbase,_,by rw [hd2];exact cel (o / 2) (by omega) (o % 2) (by omega)⟩
def yg:Pat:=fun args S=>
 match args,S with
 | [.fn g [.ptr 900 0],.fn h []],[(900,.box (.map 901)),(901,.map (.st .nm) τ m)]=>
  if g=59/\h=29 then some ⟨some (m.length *32<=140737488355328),none,.lst (.st .nm) (fa (m.map (·.1))) none,[(901,.map (.st .nm) τ m)]⟩ else none
 | _,_=>none
def hX:Pat:=fun args S=>
 match args,S with
 | [.fn g [.ptr 900 0],.fn h []],[(900,.box (.map 901)),(901,.map (.st .nm) τ [x])]=>
  if Nat.beq g 59 && Nat.beq h 29 then some ⟨none,none,.lst (.st .nm) [x.1] none,[(901,.map (.st .nm) τ [x])]⟩ else none
 | _,_=>none
theorem nj (he:aU Tryz.prog 27):aO Tryz.prog 27 hX:=by
 intro args S A h hob hkeys
 unfold hX at h
 split at h
 ·rename_i τ x
  split at h
  ·rename_i e
   rw [Bool.and_eq_true] at e
   obtain ⟨e1,e2⟩:=e
   obtain rfl:=Nat.eq_of_beq_eq_true e1
   obtain rfl:=Nat.eq_of_beq_eq_true e2
   cases h
   refine ⟨he,?_⟩
   have:=nI (τ:=τ) [x] (by simp)
   have e:fa ([x].map (·.1))=[x.1]:=by simp [fa]
   rw [e] at this
   exact this
  ·cases h
 ·cases h
end Go.AL
end
noncomputable section
namespace Go.AL.Seat
open Go Go.AL Go.Proofs Go.Pd
set_option maxRecDepth 1000000
variable [Tabs] [SeatLaid]
def xB:List (Nat × Pat):=(27,hX) ::(23,tt [.str awS] awV) ::(56,q1 (.lst .str) (fun l=>decide (l.length *16<=140737488355328)) fun l=>.bool (decide l.Nodup)) ::(71,q1 (.lst .str) (fun l=>decide (l.length *16<=140737488355328)) fun l=>.lst .str l none) ::ng
theorem wx:b7 Tryz.prog (eE xB):=sc (nj (ee Tryz.func27)) (sc (tu (ee Tryz.func23) yE) (sc (wb sA fun _ h=>Xo h) (sc (wb uA fun _ h=>Xo h) nh)))
theorem qV:aO Tryz.prog 7 (p0 (.ret (.bool true))):=
 yC (ee Tryz.func7) (ka (n:=100) mixed wv wx qU (by kernel_rfl:sl aA qS yf ye 50 (eE xB) 100 7 [] []=some ⟨none,none,.bool true,[]⟩))
end Go.AL.Seat
end
section
namespace Go.Proofs.YtbhedkjcdhgkhaaGreatDoor.JUsageFinds
open Go.AL Go.AL.Seat Go.Pd Go.ChangeShapes Go.WideShapes Go.RowKit Go.Proofs.YtbhedkjcdhgkhaaGreatDoor.Join
set_option maxRecDepth 1000000
theorem par:Tryz.f5.params=#[9,45,31]:=by kernel_rfl
theorem res:Tryz.f5.resultTypes=#[4]:=by kernel_rfl
theorem spec {H:Type} (ds:List (DataW H)) (hd:ds.length=3):Rows.usageFindsSpec.fn H ds={results:=[.lit (.bool true)],args:=ds}:=by
 match ds,hd with
 | [d0,d1,d2],_=>rfl
theorem wy (H:Type) (enc:TypeId × Value→H) (W:World) (base:Nat) (args:Array Value) (ds gs:List (DataW H)) (before:List MemPlace)
  (hval:∀(j:Nat) t v,Tryz.f5.params[j]?=some t→args[j]?=some v→Value.okWide Tryz.prog W .any base t v)
  (hW:DataW.Whole enc Tryz.prog Tryz.f5.params.toList Rows.usageFindsSpec.vars false W args.toList ds gs before) (hL:laidMet Tryz.prog laid W) (hsh:W.ShapedOpen Tryz.prog) :
  Calls Tryz.prog 5 args W fun e W'=>∃v,e=.returned v/\Rows.usageFindsSpec.post enc Tryz.prog Tryz.f5 false true false false W args v W':=by
 letI:Tabs:=mT W
 haveI:SeatLaid:=vS hL hsh
 have hW':=hW
 obtain ⟨p,q,hA,hV,_,_,_⟩:=hW
 rw [par] at hA hval
 obtain ⟨v0,vs0,d0,ds0,p0,q0,hargs0,rfl,rfl,h0,r0⟩:=trodAll_cons hA
 obtain ⟨v1,vs1,d1,ds1,p1,q1,hargs1,rfl,rfl,h1,r1⟩:=trodAll_cons r0
 obtain ⟨v2,vs2,d2,ds2,p2,q2,hargs2,rfl,rfl,h2,r2⟩:=trodAll_cons r1
 obtain ⟨rfl,rfl,rfl⟩:=trodAll_nil r2
 subst hargs1
 subst hargs2
 obtain rfl:args=#[v0,v1,v2]:=by
  have:=congrArg List.toArray hargs0
  simpa using this
 obtain ⟨x0,hx0⟩:=vF undS (hval 0 9 v0 rfl rfl) h0
 obtain ⟨fu1,hf1⟩:=h1
 obtain ⟨x1,hx1⟩:=xW yz yA (hval 1 45 v1 rfl rfl) hf1
 obtain ⟨fu2,hf2⟩:=h2
 obtain ⟨x2,hx2⟩:=xV yw yx (hval 2 31 v2 rfl rfl) hf2
 refine (ue (iZ af eqC x0 x1 x2 qL wm qQ uJ qV) (fun b o v h=>h.2) (fun b x h=>h.2) (VL.cons hx0 (VL.cons hx1 (VL.cons hx2 .nil)))).mono fun e W' ⟨he,hb⟩=>?_
 subst he
 refine ⟨_,rfl,vD (tb:=4) wZ (fun t ht=>?_) rfl (fun ds hd=>spec ds ?_) res undB hW' hb⟩
 ·rw [par] at ht
  have ht:t∈[9,45,31]:=ht
  simp only [List.mem_cons,List.not_mem_nil,or_false] at ht
  rcases ht with rfl | rfl | rfl
  ·exact ⟨yo,Nat.lt_trans (by decide) vU⟩
  ·exact ⟨yB,Nat.lt_trans (by decide) vU⟩
  ·exact ⟨yy,Nat.lt_trans (by decide) vU⟩
 ·rw [par] at hd
  exact hd
theorem reads (os:Os) {H:Type} (enc:TypeId × Value→H):(DataW.whole enc Tryz.prog ((iy os).forCall (fun _ _=>0) ⟨#[],#[.string ⟨#[]⟩,.slice none 0 0,.slice none 0 0],[]⟩).memory Tryz.f5.params.toList Rows.usageFindsSpec.vars false [Value.string ⟨#[]⟩,Value.slice none 0 0,Value.slice none 0 0] 8).map (fun x=>(x.1,x.2.1))=some ([.lit (.string []),.nil,.nil],[]):=by kernel_rfl
theorem yh (os:Os) (started:os.Started) (H:Type) (enc:TypeId × Value→H) (F:Stop.Interp) :
  ReturnsInHanded {} Tryz.checked os 5 .any ((OpenSpec.ofChange Rows.usageFindsSpec).preRow enc Tryz.prog Tryz.f5 Rows.usageFindsRow.domain false Rows.usageFindsRow.laid) (((OpenSpec.ofChange Rows.usageFindsSpec).at F).post enc Tryz.prog Tryz.f5 false true false false):=by
 obtain ⟨⟨y1,y2,y3⟩,hx,hy⟩:=Option.map_eq_some_iff.1 (reads os enc)
 simp only [Prod.mk.injEq] at hy
 obtain ⟨rfl,rfl⟩:=hy
 refine returnsInHanded_of_row (C:=Tryz.checked) (s:=OpenSpec.ofChange Rows.usageFindsSpec) own started (by kernel_rfl) Tryz.func5
  (witness_row_atRef (enc:=enc) (C:=Tryz.checked) false (iy os) #[.string ⟨#[]⟩,.slice none 0 0,.slice none 0 0] rfl (by kernel_rfl) (by kernel_rfl) (by kernel_rfl)
   (OpenSpec.preRow_of_cond 8 hx (by kernel_rfl) (fun k hk=>by cases hk) (by kernel_rfl) (vT os _))) ?_
 intro W base args ds gs before hval hW _ _ _ hL hsh _
 exact wy H enc W base args ds gs before hval hW hL hsh
theorem c1:(Rows.usageFindsRow.inPlace ==Tryz.prog.inPlace 5)=true:=by kernel_rfl
theorem c2:(Rows.usageFindsRow.unfollowed ==Tryz.prog.unfollowed 5)=true:=by kernel_rfl
theorem c3:(Rows.usageFindsRow.recurses ==Tryz.prog.recurses 5)=true:=by kernel_rfl
theorem c4:(Rows.usageFindsRow.named ==Tryz.prog.varsNamed 5)=true:=by kernel_rfl
theorem yi:joinedFacts Tryz.prog 5 Tryz.f5 (OpenSpec.ofChange Rows.usageFindsSpec).bare Rows.usageFindsRow=true:=by
 unfold joinedFacts
 rw [c1,c2,c3,c4]
 kernel_rfl
theorem said:Rows.UsageFindsSaid:=
 OpenClaim.holds_of_cond 5 Tryz.f5 rfl rfl rfl rfl rfl rfl rfl ⟨rfl,rfl,rfl,rfl,rfl⟩ rfl rfl rfl rfl rfl (by kernel_rfl) Tryz.func5 yi
  (Xo (by kernel_rfl)) (by unfold Func.isWrapper;first | (rw [if_pos (by decide+kernel)];kernel_rfl) | (rw [if_neg (by decide+kernel)];exact ⟨rfl,rfl⟩))
  (fun os started H enc _ F=>by rw [OpenClaim.pre_eq_preRow];exact yh os started H enc F)
theorem cA (f:FuncId) (fn:Func) (hf:Tryz.pinned.checked.prog.funcNamed "pandect/pandectlaw34.UsageFinds"=some f) (hfn:Tryz.pinned.checked.prog.funcs[f]?=some fn) :
  true=Tryz.pinned.checked.prog.looks []/\∀(j:Nat) t,fn.params[j]?=some t→Tryz.pinned.checked.prog.wantsStandIn t=false:=by
 obtain rfl:f=5:=Option.some.inj ((show Tryz.prog.funcNamed "pandect/pandectlaw34.UsageFinds"=some 5 by kernel_rfl).symm.trans hf) |>.symm
 obtain rfl:fn=Tryz.f5:=(Option.some.inj (Tryz.func5.symm.trans hfn)).symm
 refine ⟨by kernel_rfl,fun j t ht=>?_⟩
 rw [par] at ht
 have ht:=Array.mem_of_getElem? ht
 simp only [List.mem_toArray,List.mem_cons,List.not_mem_nil,or_false] at ht
 rcases ht with rfl | rfl | rfl
 ·exact (show Tryz.prog.wantsStandIn 9=false by kernel_rfl)
 ·exact (show Tryz.prog.wantsStandIn 45=false by kernel_rfl)
 ·exact (show Tryz.prog.wantsStandIn 31=false by kernel_rfl)
theorem card:Rows.UsageFindsCardSaid:=
 Claim7.holds_tied_plain_at .later [] _ _ _ _ said (fun _ h=>by cases h) (by kernel_rfl) (fun _ h=>by cases h) usageFinds_row_tie rfl ⟨rfl,rfl⟩ (by kernel_rfl) rfl cA (by kernel_rfl)
end Go.Proofs.YtbhedkjcdhgkhaaGreatDoor.JUsageFinds
end
