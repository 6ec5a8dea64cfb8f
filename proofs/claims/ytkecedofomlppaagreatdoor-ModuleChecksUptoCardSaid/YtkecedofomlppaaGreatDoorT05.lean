/- Plain facts. The layer: Go code as conditions, and that they are sound. What the functions' conditions say, proved. The contracts of the functions. No condition. -/
import Derived.Test.YtkecedofomlppaaGreatDoorT04
import Derived.Laws.OwnMore
import Derived.Lib.ItoaNum
import Derived.LoopN
import Derived.Recover
import Derived.Shelf.Slices.Clone
import Derived.Test.YtkecedofomlppaaGreatDoorProg
import Derived.WalkKit
set_option linter.all false
set_option maxRecDepth 100000
section
namespace Go.Proofs.YtkecedofomlppaaGreatDoor.Join
open Go.AL Go.AL.Seat Go.Pd Go.ChangeShapes Go.WideShapes Go.RowKit Go.Lib Go.Shelf
set_option maxRecDepth 1000000
theorem As:ShapeAt Tryz.prog 46:=⟨_,_,_,_,_,9,Tryz.underlying46,by kernel_rfl,⟨rfl,rfl,rfl,rfl,rfl⟩,⟨by kernel_rfl,by kernel_rfl,by kernel_rfl,by kernel_rfl,by kernel_rfl⟩,by kernel_rfl,by kernel_rfl,by kernel_rfl,by kernel_rfl,by kernel_rfl,by kernel_rfl,by kernel_rfl⟩
theorem Hb:TermAt Tryz.prog 44:=⟨_,_,_,_,_,_,_,_,_,9,46,Tryz.underlying44,by kernel_rfl,⟨rfl,rfl,rfl,rfl,rfl,rfl,rfl,rfl,rfl⟩,⟨by kernel_rfl,by kernel_rfl,by kernel_rfl,by kernel_rfl,by kernel_rfl,by kernel_rfl,by kernel_rfl,by kernel_rfl,by kernel_rfl⟩,
 ⟨by kernel_rfl,by kernel_rfl,by kernel_rfl,by kernel_rfl,by kernel_rfl,by kernel_rfl,by kernel_rfl,by kernel_rfl,by kernel_rfl⟩,⟨by kernel_rfl,by kernel_rfl,by kernel_rfl⟩,As⟩
def GG (P:Program) (t:TypeId):Bool:=match P.underlying t with
 | some (.struct fs)=>fs.toList.all fun f=>match P.underlying f.type with
  | some (.slice e)=>decide (16<=P.bytesOf e)
  | _=>true
 | _=>true
theorem Au {P:Program} {t:TypeId} (h:GG P t=true):pS P t:=by
 intro fs i f e h1 h2 h3
 unfold GG at h
 rw [h1] at h
 have:=List.all_eq_true.1 h f (List.mem_of_getElem? (by rw [Array.getElem?_toList];exact h2))
 simp only [h3] at this
 exact Xo this
theorem HL:Tryz.prog.readableRec 26=true:=by kernel_rfl
variable {H:Type}
theorem Ea (d:DataW H):1<=Rows.uptoBulk d:=by
 cases d with
 | lit l=>cases l <;> (unfold Rows.uptoBulk;omega)
 | _=>unfold Rows.uptoBulk;omega
theorem vr:∀l:List (DataW H),l.length<=Rows.uptoBulkAll l
 | []=>Nat.zero_le _
 | d ::r=>by
  have:=vr r
  have:=Ea d
  unfold Rows.uptoBulkAll
  rw [List.length_cons]
  omega
theorem mc {d:DataW H}:∀{l:List (DataW H)},d∈l→Rows.uptoBulk d<=Rows.uptoBulkAll l
 | x ::r,h=>by
  unfold Rows.uptoBulkAll
  rcases List.mem_cons.1 h with rfl | h
  ·omega
  ·have:=mc h;omega
theorem BN (P:Program):GoodR (H:=H) P 1048576 1048576 (fun _ d=>Rows.uptoBulk d<=1048576) where
 str t s ht h:=by unfold Rows.uptoBulk at h;omega
 len t e es sp ht h h16:=by
  have:=vr es
  unfold Rows.uptoBulk at h
  omega
 el t e es sp ht h x hx:=by
  have:=mc hx
  unfold Rows.uptoBulk at h
  omega
 part t fs ps ht h i f p hf hp:=by
  have:=mc (List.mem_of_getElem? hp)
  unfold Rows.uptoBulk at h
  omega
theorem Eb {ds:List (DataW H)} (h:Rows.uptoSmall H ds=true) {d:DataW H} (hd:d∈ds):Rows.uptoBulk d<=1048576:=by
 have:=mc hd
 have:=Xo h
 omega
theorem qb:∀(n:Nat) (s:Trm),szT s<=n→allT (gP 1048576 1048576) s=true→bT s=true/\cR s=true
 | 0,s,h,_=>by have:=dh s;omega
 | n+1,s,h,ha=>by
  rw [allT_eq,Bool.and_eq_true,allTL_all,List.all_eq_true] at ha
  have hb:=ha.1
  unfold gP at hb
  rw [Bool.and_eq_true,decide_eq_true_eq,decide_eq_true_eq] at hb
  have hp:∀x∈s.parts,bT x=true/\cR x=true:=fun x hx=>by
   have h1:=dI hx
   have h2:=eD s
   exact qb n x (by omega) (ha.2 x hx)
  unfold bT cR at hp ⊢
  rw [allT_eq,allT_eq,Bool.and_eq_true,Bool.and_eq_true,allTL_all,allTL_all,List.all_eq_true,List.all_eq_true]
  refine ⟨⟨Xd (by omega),fun x hx=>(hp x hx).1⟩,?_,fun x hx=>(hp x hx).2⟩
  rw [Xd (show s.name.length<=2000000 by omega),Xd (show s.names.length<=2000000 by omega)]
  rfl
theorem vt {d:Dcl} (h:allT (gP 1048576 1048576) d.term=true/\ve 1048576 d):cb d=true:=by
 obtain ⟨h1,h2⟩:=qb _ _ (Nat.le_refl _) h.1
 obtain ⟨a,b,c,e,f,k⟩:=h.2
 exact l9.2 ⟨⟨h2,h1⟩,vm.2 ⟨by omega,by omega,by omega,by omega,by omega,by omega⟩⟩
theorem Ec:VersAt Tryz.prog 88:=⟨_,_,_,_,Tryz.underlying88,by kernel_rfl,⟨rfl,rfl,rfl,rfl⟩,⟨by kernel_rfl,by kernel_rfl,by kernel_rfl,by kernel_rfl⟩,by kernel_rfl,by kernel_rfl,by kernel_rfl,by kernel_rfl⟩
theorem HM:BndAt Tryz.prog 102:=⟨_,_,Tryz.underlying102,by kernel_rfl,⟨rfl,rfl⟩,⟨by kernel_rfl,by kernel_rfl⟩,by kernel_rfl,Ec⟩
theorem HN:ImpAt Tryz.prog 91:=⟨_,_,_,_,102,Tryz.underlying91,by kernel_rfl,⟨rfl,rfl,rfl,rfl⟩,⟨by kernel_rfl,by kernel_rfl,by kernel_rfl,by kernel_rfl⟩,by kernel_rfl,Ec,by kernel_rfl,by kernel_rfl,HM⟩
theorem HO:DclAt Tryz.prog 48:=⟨_,_,_,_,_,Tryz.underlying48,by kernel_rfl,⟨rfl,rfl,rfl,rfl,rfl⟩,⟨by kernel_rfl,by kernel_rfl,by kernel_rfl,by kernel_rfl,by kernel_rfl⟩,by kernel_rfl,by kernel_rfl,⟨As,Au (by kernel_rfl)⟩,⟨Hb,Au (by kernel_rfl)⟩,by kernel_rfl⟩
theorem Hc:ModuAt Tryz.prog 26:=⟨_,_,_,_,_,91,48,9,Tryz.underlying26,by kernel_rfl,⟨rfl,rfl,rfl,rfl,rfl⟩,⟨by kernel_rfl,by kernel_rfl,by kernel_rfl,by kernel_rfl,by kernel_rfl⟩,by kernel_rfl,by kernel_rfl,by kernel_rfl,by kernel_rfl,by kernel_rfl,HN,HO,by kernel_rfl,by kernel_rfl⟩
end Go.Proofs.YtkecedofomlppaaGreatDoor.Join
end
section
open Go Go.AL Go.Proofs
namespace Go.AL.Seat
variable [Tabs]
def r1:TR:=⟨.other,1,8,[.undef],none⟩
def r2:TR:=⟨.int .i64,1,8,[.int .i64 0],some (.int .i64)⟩
def r5:TR:=⟨.int .u8,1,1,[.int .u8 0],some (.int .u8)⟩
def r7:TR:=⟨.strct true [(0,2),(1,3),(2,4),(3,6)],4,24,[.int .i64 0,.int .i64 0,.bool false,.int .u8 0],none⟩
def r9:TR:=⟨.str,1,16,[.str []],some .str⟩
def r12:TR:=⟨.int .u64,1,8,[.int .u64 0],some (.int .u64)⟩
def r13:TR:=⟨.strct false [(0,9),(1,12)],2,24,[.str [],.int .u64 0],none⟩
def r18:TR:=⟨.strct false [(0,17)],1,8,[.nilp],none⟩
def r20:TR:=⟨.iface,1,16,[.nilif],none⟩
def r21:TR:=⟨.int .i32,1,4,[.int .i32 0],some (.int .i32)⟩
def r75:TR:=⟨.strct false [(0,71),(1,3),(2,29)],4,48,[.nils,.int .i64 0,.int .i64 0,.int .i64 0],none⟩
def r77:TR:=⟨.strct false [(0,76),(4,26)],9,144,[.nils,.int .i64 0,.int .i64 0,.int .i64 0,.str [],.nils,.nils,.nils,.int .i64 0],none⟩
def G6:TR:=⟨.strct false [(0,114),(1,115)],2,32,[.nilp,.nils],none⟩
def r138:TR:=⟨.map 137 3,1,8,[.nilm],none⟩
def G7:TR:=⟨.strct true [(0,9),(1,3)],2,24,[.str [],.int .i64 0],none⟩
def G8:TR:=⟨.strct false [(0,157),(2,71),(3,29)],5,64,[.str [],.int .i64 0,.nils,.int .i64 0,.int .i64 0],none⟩
def r283:TR:=⟨.strct false [],0,0,[],none⟩
def r311:TR:=⟨.strct true [(0,3),(1,3),(2,3),(3,3)],4,32,[.int .i64 0,.int .i64 0,.int .i64 0,.int .i64 0],none⟩
def r335:TR:=⟨.strct true [(0,5),(1,5)],2,2,[.int .u8 0,.int .u8 0],none⟩
def r359:TR:=⟨.strct false [(0,9),(1,9),(2,119)],3,48,[.str [],.str [],.nilif],none⟩
def r369:TR:=⟨.strct true [(0,9)],1,16,[.str []],none⟩
def r373:TR:=⟨.strct false [(0,17),(1,17),(2,17),(3,9)],4,40,[.nilp,.nilp,.nilp,.str []],none⟩
def r383:TR:=⟨.strct false [(0,12),(1,12),(2,303),(3,378),(4,5),(5,5),(6,379),(7,380),(8,203),(9,381),(10,382)],11,48,[.int .u64 0,.int .u64 0,.int .u32 0,.int .u8 0,.int .u8 0,.int .u8 0,.int .u8 0,.undef,.nilp,.int .i32 0,.int .i32 0],none⟩
def tbl:List (Nat × TR):=[(1,r1),
 (2,r2),
 (3,r2),
 (4,⟨.bool,1,1,[.bool false],some .bool⟩),
 (5,r5),
 (6,r5),
 (7,r7),
 (8,r7),
 (9,r9),
 (10,r9),
 (11,r9),
 (12,r12),
 (13,r13),
 (14,r13),
 (15,⟨.ptr 374,1,8,[.nilp],none⟩),
 (16,⟨.ptr 377,1,8,[.nilp],none⟩),
 (17,⟨.ptr 384,1,8,[.nilp],none⟩),
 (18,r18),
 (19,r18),
 (20,r20),
 (21,r21),
 (22,⟨.slice 91,1,24,[.nils],some (.lst (.st .imp))⟩),
 (23,⟨.slice 48,1,24,[.nils],some (.lst (.st .decl))⟩),
 (24,⟨.slice 9,1,24,[.nils],some (.lst .str)⟩),
 (25,⟨.strct false [(0,9),(1,22),(2,23),(3,24),(4,3)],5,96,[.str [],.nils,.nils,.nils,.int .i64 0],none⟩),
 (26,⟨.strct false [(0,9),(1,22),(2,23),(3,24),(4,3)],5,96,[.str [],.nils,.nils,.nils,.int .i64 0],some (.st .modu)⟩),
 (27,r2),
 (28,⟨.strct true [(0,27),(1,3)],2,16,[.int .i64 0,.int .i64 0],none⟩),
 (29,⟨.strct true [(0,27),(1,3)],2,16,[.int .i64 0,.int .i64 0],some (.st .fault)⟩),
 (31,r1),
 (32,r1),
 (33,r1),
 (34,r1),
 (35,r1),
 (36,r1),
 (37,r1),
 (38,r1),
 (40,r1),
 (41,⟨.slice 46,1,24,[.nils],some (.lst (.st .shape))⟩),
 (42,⟨.slice 44,1,24,[.nils],some (.lst (.st .term))⟩),
 (43,⟨.strct false [(0,3),(1,9),(2,9),(3,3),(4,24),(5,24),(6,41),(7,42),(8,3)],9,152,[.int .i64 0,.str [],.str [],.int .i64 0,.nils,.nils,.nils,.nils,.int .i64 0],none⟩),
 (44,⟨.strct false [(0,3),(1,9),(2,9),(3,3),(4,24),(5,24),(6,41),(7,42),(8,3)],9,152,[.int .i64 0,.str [],.str [],.int .i64 0,.nils,.nils,.nils,.nils,.int .i64 0],some (.st .term)⟩),
 (45,⟨.strct false [(0,3),(1,9),(2,9),(3,24),(4,41)],5,88,[.int .i64 0,.str [],.str [],.nils,.nils],none⟩),
 (46,⟨.strct false [(0,3),(1,9),(2,9),(3,24),(4,41)],5,88,[.int .i64 0,.str [],.str [],.nils,.nils],some (.st .shape)⟩),
 (47,⟨.strct false [(0,3),(1,9),(2,46),(7,44),(16,3)],17,272,[.int .i64 0,.str [],.int .i64 0,.str [],.str [],.nils,.nils,.int .i64 0,.str [],.str [],.int .i64 0,.nils,.nils,.nils,.nils,.int .i64 0,.int .i64 0],none⟩),
 (48,⟨.strct false [(0,3),(1,9),(2,46),(7,44),(16,3)],17,272,[.int .i64 0,.str [],.int .i64 0,.str [],.str [],.nils,.nils,.int .i64 0,.str [],.str [],.int .i64 0,.nils,.nils,.nils,.nils,.int .i64 0,.int .i64 0],some (.st .decl)⟩),
 (49,r1),
 (50,r1),
 (51,⟨.slice 26,1,24,[.nils],some (.lst (.st .modu))⟩),
 (52,r1),
 (53,⟨.slice 137,1,24,[.nils],some (.lst (.st .usg))⟩),
 (54,r1),
 (55,r1),
 (56,r1),
 (57,⟨.slice 133,1,24,[.nils],some (.lst (.st .item))⟩),
 (58,⟨.strct false [(0,9),(1,57)],2,40,[.str [],.nils],none⟩),
 (59,⟨.strct false [(0,9),(1,57)],2,40,[.str [],.nils],some (.st .dep)⟩),
 (60,r1),
 (61,⟨.slice 59,1,24,[.nils],some (.lst (.st .dep))⟩),
 (62,r1),
 (63,r1),
 (64,r1),
 (65,r1),
 (66,⟨.slice 135,1,24,[.nils],some (.lst (.st .change))⟩),
 (67,r1),
 (68,r1),
 (69,r1),
 (70,r1),
 (71,⟨.slice 81,1,24,[.nils],some (.lst (.st .token))⟩),
 (73,r1),
 (74,⟨.ptr 78,1,8,[.nilp],none⟩),
 (75,r75),
 (76,r75),
 (77,r77),
 (78,r77),
 (79,r1),
 (80,⟨.strct true [(0,3),(1,9),(2,3)],3,32,[.int .i64 0,.str [],.int .i64 0],none⟩),
 (81,⟨.strct true [(0,3),(1,9),(2,3)],3,32,[.int .i64 0,.str [],.int .i64 0],some (.st .token)⟩),
 (82,r1),
 (83,r1),
 (84,r1),
 (85,r1),
 (86,r1),
 (87,⟨.strct true [(0,3),(1,3),(2,3),(3,9)],4,40,[.int .i64 0,.int .i64 0,.int .i64 0,.str []],none⟩),
 (88,⟨.strct true [(0,3),(1,3),(2,3),(3,9)],4,40,[.int .i64 0,.int .i64 0,.int .i64 0,.str []],some (.st .version)⟩),
 (89,⟨.slice 102,1,24,[.nils],some (.lst (.st .bound))⟩),
 (90,⟨.strct false [(0,9),(1,88),(5,89),(6,3)],7,88,[.str [],.int .i64 0,.int .i64 0,.int .i64 0,.str [],.nils,.int .i64 0],none⟩),
 (91,⟨.strct false [(0,9),(1,88),(5,89),(6,3)],7,88,[.str [],.int .i64 0,.int .i64 0,.int .i64 0,.str [],.nils,.int .i64 0],some (.st .imp)⟩),
 (93,r1),
 (94,r1),
 (96,r1),
 (97,r1),
 (98,r1),
 (99,r1),
 (100,r1),
 (101,⟨.strct true [(0,3),(1,88)],5,48,[.int .i64 0,.int .i64 0,.int .i64 0,.int .i64 0,.str []],none⟩),
 (102,⟨.strct true [(0,3),(1,88)],5,48,[.int .i64 0,.int .i64 0,.int .i64 0,.int .i64 0,.str []],some (.st .bound)⟩),
 (103,r1),
 (104,r1),
 (105,r1),
 (106,r1),
 (107,r1),
 (108,r1),
 (109,r1),
 (110,r1),
 (111,r1),
 (112,r1),
 (113,r1),
 (114,⟨.ptr 117,1,8,[.nilp],none⟩),
 (115,⟨.slice 5,1,24,[.nils],some (.lst (.int .u8))⟩),
 (116,G6),
 (117,G6),
 (118,r20),
 (119,r20),
 (121,r1),
 (122,r1),
 (123,r1),
 (124,r1),
 (125,r1),
 (126,r1),
 (127,r1),
 (128,r1),
 (129,r1),
 (130,r1),
 (131,r1),
 (132,⟨.strct false [(0,3),(1,9),(2,46)],7,112,[.int .i64 0,.str [],.int .i64 0,.str [],.str [],.nils,.nils],none⟩),
 (133,⟨.strct false [(0,3),(1,9),(2,46)],7,112,[.int .i64 0,.str [],.int .i64 0,.str [],.str [],.nils,.nils],some (.st .item)⟩),
 (134,⟨.strct true [(0,3),(1,9)],2,24,[.int .i64 0,.str []],none⟩),
 (135,⟨.strct true [(0,3),(1,9)],2,24,[.int .i64 0,.str []],some (.st .change)⟩),
 (136,⟨.strct true [(0,9),(1,9)],2,32,[.str [],.str []],none⟩),
 (137,⟨.strct true [(0,9),(1,9)],2,32,[.str [],.str []],some (.st .usg)⟩),
 (138,r138),
 (139,r138),
 (140,r1),
 (141,r1),
 (142,r1),
 (143,r1),
 (144,r1),
 (145,r1),
 (146,r1),
 (147,r1),
 (148,r1),
 (149,r1),
 (150,r1),
 (151,r1),
 (152,r1),
 (153,r1),
 (154,r1),
 (155,⟨.ptr 159,1,8,[.nilp],none⟩),
 (156,G7),
 (157,G7),
 (158,G8),
 (159,G8),
 (160,r1),
 (161,r1),
 (162,r1),
 (163,r1),
 (164,⟨.ptr 76,1,8,[.nilp],none⟩),
 (165,r1),
 (166,⟨.slice 3,1,24,[.nils],some (.lst (.int .i64))⟩),
 (167,r1),
 (168,r1),
 (169,r1),
 (170,r1),
 (172,r1),
 (174,r1),
 (176,r1),
 (178,r1),
 (180,r1),
 (182,r1),
 (183,r1),
 (184,r1),
 (185,r1),
 (186,r1),
 (187,r1),
 (188,r1),
 (189,r1),
 (190,r1),
 (191,r1),
 (192,r1),
 (193,r1),
 (194,r1),
 (195,r1),
 (196,r1),
 (197,r1),
 (198,r1),
 (199,r1),
 (200,r1),
 (201,r1),
 (202,r1),
 (203,⟨.ptr 5,1,8,[.nilp],none⟩),
 (204,r1),
 (205,r1),
 (206,r1),
 (207,r1),
 (208,r1),
 (209,⟨.ptr 157,1,8,[.nilp],none⟩),
 (211,r1),
 (212,r1),
 (213,r1),
 (214,r1),
 (216,r1),
 (218,r1),
 (219,r1),
 (220,r1),
 (221,r1),
 (222,⟨.map 9 3,1,8,[.nilm],none⟩),
 (223,⟨.ptr 228,1,8,[.nilp],none⟩),
 (224,r1),
 (225,r75),
 (226,⟨.strct false [(0,71),(1,3),(2,29)],4,48,[.nils,.int .i64 0,.int .i64 0,.int .i64 0],some (.st .par)⟩),
 (227,⟨.strct false [(0,226)],4,48,[.nils,.int .i64 0,.int .i64 0,.int .i64 0],none⟩),
 (228,⟨.strct false [(0,226)],4,48,[.nils,.int .i64 0,.int .i64 0,.int .i64 0],some (.st .par)⟩),
 (229,r1),
 (230,r1),
 (232,r1),
 (234,r1),
 (235,r1),
 (236,r1),
 (237,r1),
 (238,r1),
 (239,r1),
 (241,r1),
 (242,r1),
 (243,r1),
 (244,r1),
 (245,r1),
 (246,r1),
 (247,r1),
 (249,r1),
 (250,r1),
 (251,r1),
 (252,r1),
 (253,r1),
 (254,r1),
 (255,r12),
 (257,r1),
 (258,r1),
 (262,r1),
 (263,r1),
 (264,⟨.ptr 260,1,8,[.nilp],none⟩),
 (266,r1),
 (267,⟨.arr 3 3,3,24,[.int .i64 0,.int .i64 0,.int .i64 0],none⟩),
 (268,r1),
 (269,r1),
 (270,⟨.ptr 226,1,8,[.nilp],none⟩),
 (271,r1),
 (272,r1),
 (273,r1),
 (274,r1),
 (275,r1),
 (277,r1),
 (278,r1),
 (279,r1),
 (280,r1),
 (281,r1),
 (282,r1),
 (283,r283),
 (284,r283),
 (286,r1),
 (287,r1),
 (288,r1),
 (289,r1),
 (290,r1),
 (291,r1),
 (292,r1),
 (293,r1),
 (294,r1),
 (295,r2),
 (297,r1),
 (298,r1),
 (299,r1),
 (301,r1),
 (302,r1),
 (303,⟨.int .u32,1,4,[.int .u32 0],some (.int .u32)⟩),
 (304,r1),
 (305,r12),
 (306,r1),
 (307,r1),
 (308,r1),
 (309,r1),
 (310,r1),
 (311,r311),
 (312,r311),
 (313,r1),
 (314,r1),
 (315,r1),
 (316,r1),
 (317,r1),
 (318,r1),
 (319,r1),
 (320,r1),
 (321,r1),
 (322,r1),
 (323,r1),
 (325,r1),
 (327,r1),
 (328,r12),
 (329,r1),
 (330,r1),
 (331,r1),
 (332,⟨.ptr 3,1,8,[.nilp],none⟩),
 (333,r1),
 (335,r335),
 (336,r335),
 (338,r1),
 (339,r2),
 (341,r1),
 (342,⟨.ptr 360,1,8,[.nilp],none⟩),
 (343,r1),
 (344,r1),
 (345,r1),
 (346,r1),
 (347,r1),
 (348,r1),
 (349,r1),
 (350,r1),
 (351,r1),
 (354,⟨.ptr 328,1,8,[.nilp],none⟩),
 (355,r1),
 (356,r1),
 (358,r1),
 (359,r359),
 (360,r359),
 (361,r1),
 (363,r1),
 (364,r1),
 (365,r1),
 (366,r1),
 (367,r1),
 (368,⟨.ptr 370,1,8,[.nilp],none⟩),
 (369,r369),
 (370,r369),
 (373,r373),
 (374,r373),
 (378,r5),
 (379,r5),
 (380,r1),
 (381,r21),
 (382,r21),
 (383,r383),
 (384,r383)]
theorem tk {t:Nat} {r:TR} (h1:(Tryz.prog.info? t).map (fun i=>(i.size,i.bytes,i.zero.map fun z=>z.cells.toList.map bM))=some (r.size,r.bytes,some r.zero):=by kernel_rfl)
  (h2:(Tryz.prog.underlying t).map (aH Tryz.prog r.ti)=some true:=by kernel_rfl)
  (h3:(eo r.zero r.size && (Nat.beq r.size 0 || Nat.blt 0 r.bytes) && (match r.ty with | some τ=>Nat.beq (ae τ) r.size && (Fl τ ==r.isAgg) | none=>true))=true:=by kernel_rfl)
  (h8:(Tryz.prog.info? t).map (fun i=>i.zero.map fun z=>xh z ==r.isAgg)=some (some true):=by kernel_rfl)
  (h9:(match r.ti with | .strct true _=>!Tryz.prog.stoodInHeld t && !Tryz.prog.eqGuardType Tryz.prog.depth t | _=>true)=true:=by kernel_rfl):TRok Tryz.prog t r:=TRok.mk' h1 h2 h3 h8 h9
theorem Ed:aT Tryz.prog tbl:=
 .cons tk (.cons tk (.cons tk (.cons tk (.cons tk (.cons tk (.cons tk (.cons tk (.cons tk (.cons tk (.cons tk (.cons tk (.cons tk (.cons tk (.cons tk (.cons tk (.cons tk (.cons tk (.cons tk (.cons tk (.cons tk (.cons tk (.cons tk (.cons tk (.cons tk (.cons tk (.cons tk (.cons tk (.cons tk (.cons tk (.cons tk (.cons tk (.cons tk (.cons tk (.cons tk (.cons tk (.cons tk (.cons tk (.cons tk (.cons tk (.cons tk (.cons tk (.cons tk (.cons tk (.cons tk (.cons tk (.cons tk (.cons tk (.cons tk (.cons tk (.cons tk (.cons tk (.cons tk (.cons tk (.cons tk (.cons tk (.cons tk (.cons tk (.cons tk (.cons tk (.cons tk (.cons tk (.cons tk (.cons tk (.cons tk (.cons tk (.cons tk (.cons tk (.cons tk (.cons tk (.cons tk (.cons tk (.cons tk (.cons tk (.cons tk (.cons tk (.cons tk (.cons tk (.cons tk (.cons tk (.cons tk (.cons tk (.cons tk (.cons tk (.cons tk (.cons tk (.cons tk (.cons tk (.cons tk (.cons tk (.cons tk (.cons tk (.cons tk (.cons tk (.cons tk (.cons tk (.cons tk (.cons tk (.cons tk (.cons tk (.cons tk (.cons tk (.cons tk (.cons tk (.cons tk (.cons tk (.cons tk (.cons tk (.cons tk (.cons tk (.cons tk (.cons tk (.cons tk (.cons tk (.cons tk (.cons tk (.cons tk (.cons tk (.cons tk (.cons tk (.cons tk (.cons tk (.cons tk (.cons tk (.cons tk (.cons tk (.cons tk (.cons tk (.cons tk (.cons tk (.cons tk (.cons tk (.cons tk (.cons tk (.cons tk (.cons tk (.cons tk (.cons tk (.cons tk (.cons tk (.cons tk (.cons tk (.cons tk (.cons tk (.cons tk (.cons tk (.cons tk (.cons tk (.cons tk (.cons tk (.cons tk (.cons tk (.cons tk (.cons tk (.cons tk (.cons tk (.cons tk (.cons tk (.cons tk (.cons tk (.cons tk (.cons tk (.cons tk (.cons tk (.cons tk (.cons tk (.cons tk (.cons tk (.cons tk (.cons tk (.cons tk (.cons tk (.cons tk (.cons tk (.cons tk (.cons tk (.cons tk (.cons tk (.cons tk (.cons tk (.cons tk (.cons tk (.cons tk (.cons tk (.cons tk (.cons tk (.cons tk (.cons tk (.cons tk (.cons tk (.cons tk (.cons tk (.cons tk (.cons tk (.cons tk (.cons tk (.cons tk (.cons tk (.cons tk (.cons tk (.cons tk (.cons tk (.cons tk (.cons tk (.cons tk (.cons tk (.cons tk (.cons tk (.cons tk (.cons tk (.cons tk (.cons tk (.cons tk (.cons tk (.cons tk (.cons tk (.cons tk (.cons tk (.cons tk (.cons tk (.cons tk (.cons tk (.cons tk (.cons tk (.cons tk (.cons tk (.cons tk (.cons tk (.cons tk (.cons tk (.cons tk (.cons tk (.cons tk (.cons tk (.cons tk (.cons tk (.cons tk (.cons tk (.cons tk (.cons tk (.cons tk (.cons tk (.cons tk (.cons tk (.cons tk (.cons tk (.cons tk (.cons tk (.cons tk (.cons tk (.cons tk (.cons tk (.cons tk (.cons tk (.cons tk (.cons tk (.cons tk (.cons tk (.cons tk (.cons tk (.cons tk (.cons tk (.cons tk (.cons tk (.cons tk (.cons tk (.cons tk (.cons tk (.cons tk (.cons tk (.cons tk (.cons tk (.cons tk (.cons tk (.cons tk (.cons tk (.cons tk (.cons tk (.cons tk (.cons tk (.cons tk (.cons tk (.cons tk (.cons tk (.cons tk (.cons tk (.cons tk (.cons tk (.cons tk (.cons tk (.cons tk (.cons tk (.cons tk (.cons tk (.cons tk (.cons tk (.cons tk (.cons tk (.cons tk (.cons tk (.cons tk (.cons tk (.cons tk (.cons tk (.cons tk (.cons tk (.cons tk (.cons tk (.cons tk (.cons tk (.cons tk (.cons tk (.cons tk (.cons tk (.cons tk (.cons tk (.cons tk (.cons tk (.cons tk (.cons tk (.cons tk (.cons tk (.cons tk (.cons tk (.cons tk (.cons tk (.cons tk (.cons tk (.cons tk (.cons tk (.cons tk (.cons tk (.cons tk (.cons tk (.cons tk (.cons tk (.cons tk (.cons tk (.cons tk (.cons tk (.cons tk (.cons tk (.nil))))))))))))))))))))))))))))))))))))))))))))))))))))))))))))))))))))))))))))))))))))))))))))))))))))))))))))))))))))))))))))))))))))))))))))))))))))))))))))))))))))))))))))))))))))))))))))))))))))))))))))))))))))))))))))))))))))))))))))))))))))))))))))))))))))))))))))))))))))))))))))))))))))))))))))))))))))))))))))))))))))))))))))))))))))))
theorem mixed:Tryz.prog.follows .mixedOrders=true:=by kernel_rfl
end Go.AL.Seat
end
noncomputable section
namespace Go.AL
variable [Tabs]
def Hd:AV→Bool
 | .ptr k 0=>bp k
 | _=>false
def ptrIn (ks:List Nat):AV→Bool
 | .ptr k _=>ks.contains k
 | _=>false
def G9 (ks:List Nat) (t:List (Nat × AV)):List (Nat × AV):=t.map fun x=>(x.1,if ptrIn ks x.2 then x.2 else .undef)
structure RC where
 r0:Code
 rest:Code
 crest:Code
 t5:Nat
 caps:List Operand
 t6:Nat
 t3:Nat
def He (g:Nat) (c cc:Code):Option RC:=
 match c,cc with
 | .seq r0 (.seq (.region _ o1 false) rest),.seq (.region _ o2 false) crest=>
  match o1.toList,o2.toList with
  | [⟨some t5,.makeFunc (.func g') fst caps,_,_,_,none⟩,⟨none,.defer ⟨.value (.tmp t5'),asx,_⟩,_,_,_,none⟩],
   [⟨some t6,.call ⟨.builtin .recover,as2,_⟩,_,_,_,none⟩,⟨some t3,.assign (.tmp t6'),_,_,_,none⟩]=>
   if Nat.beq g' g && Nat.beq t5' t5 && Nat.beq t6' t6 && fst.isEmpty && asx.isEmpty && as2.isEmpty then some ⟨r0,rest,crest,t5,caps.toList,t6,t3⟩ else none
  | _,_=>none
 | _,_=>none
def Ee (C:Cfg) (rs:List ResultVar) (L:List cO) (s1:St) (S1:List (Nat × SObj)) (S:List (Nat × SObj)) (A:Ans) (t2:List (Nat × AV)) (s3:St):Prop:=
 match aX (aG s3.b) && (aG S1).all (fun k=>(aG s3.b).contains k) with
 | true=>
  match jc C.tbl ⟨G9 (aG S1) t2,s3.b⟩ rs with
  | some l=>
   (match ja (ak s1.b) L 998 (fG S1 s3.b),mapVs (n9 L 998) (fF L 998) (fF L 998) l with
   | some u',some l'=>ez ⟨[],bU s1.b u'⟩ fun s4=>rq (some l') s4 A.val (bU S A.upd)
   | _,_=>False)
  | none=>False
 | false=>False
def vu (C:Cfg) (annC:An) (clo:Func) (R:RC) (caps:List AV) (v:AV) (s2:St) (fin:St→Prop):Prop:=
 gF (List.range clo.ntmps) fun keep=>ez ⟨iB (cC 0 caps) R.t3 v,s2.b⟩ fun s=>swp C keep annC R.crest s fun
  | .exit _,_=>False
  | .pan _,_=>False
  | _,s3=>fin s3
def fwpR (C:Cfg) (ann annC:An) (fn:Func) (g:Nat) (clo:Func) (args:List AV) (S:List (Nat × SObj)) (A:Ans):Prop:=
 match fn.body,clo.body,A.pan with
 | some c,some cc,none=>
  match He g c cc with
  | none=>False
  | some R=>
   match bu fn.ntmps c && bu clo.ntmps cc && Nat.blt R.t5 fn.ntmps && km args fn.ntmps && (aG S).all bp && clo.results.isEmpty && km R.caps clo.ntmps && km R.caps R.t6 with
   | false=>False
   | true=>gF ((List.range fn.ntmps)) fun keep=>ez ⟨cC 0 args,S⟩ fun i=>swp C keep ann R.r0 i fun
    | .normal,s1=>
     (match (aG s1.b).map (fun i=>(i,(none:Option (Nat × Nat)))) with
     | L=>
      (match aX (L.map (·.1)) && Nat.ble L.length 100,mapVs (toP L) (toI L) (toI L) ((List.range fn.ntmps).map (aS s1.t)),mapVs (toP L) (toI L) (toI L) (R.caps.map (opd (aS s1.t))),lC (ak s1.b) L L 900 with
      | true,some as1,some caps,some S1=>
       (match caps.all Hd with
       | true=>ez ⟨iB (cC 0 as1) R.t5 .undef,S1⟩ fun i=>swp C keep ann R.rest i fun
        | .exit _,_=>False
        | .pan v,s2=>vu C annC clo R caps v s2 (Ee C fn.results.toList L s1 S1 S A s2.t)
        | _,s2=>vu C annC clo R caps .nilif s2 (Ee C fn.results.toList L s1 S1 S A s2.t)
       | false=>False)
      | _,_,_,_=>False))
    | _,_=>False
 | _,_,_=>False
theorem mT:∀(u S:List (Nat × SObj)) (i:Nat),aX (u.map (·.1))=true→ak (bU S u) i=(ak u i).or (ak S i)
 | [],S,i,_=>by simp [bU,aM,aF]
 | (j,o) ::r,S,i,h=>by
  simp only [List.map_cons,aX,Bool.and_eq_true,Bool.not_eq_true'] at h
  simp only [bU]
  rw [mT r _ i h.2,fY]
  simp only [aM,aF]
  by_cases e:j=i
  ·subst e
   have:ak r j=none:=by
    cases hb:ak r j with
    | none=>rfl
    | some o'=>
     have:=ck r j o' hb
     have h1:=h.1
     simp only [List.contains_eq_mem,decide_eq_false_iff_not,List.mem_map,not_exists,not_and] at h1
     exact absurd rfl (h1 _ this)
   simp [this]
  ·simp [e]
section
variable {P:Program} {C:Cfg}
theorem V.pinned {e0 e:Nat→Option CObj} {w0 w:World} {p0 p:Nat→Nat→Prop} (hk:∀id c,e0 id=some c→∃c',e id=some c'/\CLe c c') {a:AV} {v:Value} (ha:Hd a=true) (h:V ⟨e0,w0,p0⟩ a v):V ⟨e,w,p⟩ a v:=by
 cases h with
 | ptr i o b q len he=>
  obtain ⟨c',h1,h2⟩:=hk i _ he
  have:=h2.box
  subst this
  exact .ptr i o b q len h1
 | _=>simp [Hd] at ha
theorem Holds.retmp' {F:Fr} {s:AS} {a a':Act} {Ω:Om} (h:Holds F s a Ω) {n:Nat} {ds:List Deferred} {T:Nat→AV} (hT:∀i,V Ω (T i) (a'.tmps.getD i undef)) (hs:a'.tmps.size=n) (hd:a'.defers=ds) :
  Holds ⟨F.w0,F.pub0,n,F.e0,F.dom0,ds,F.tab0⟩ ⟨T,s.B⟩ a' Ω:=
 ⟨hT,hs,hd,h.slots,h.dom,h.inj,h.pubok,h.keep,⟨h.frame.os,h.frame.tape,h.frame.output,h.frame.size,h.frame.block,h.frame.cell,h.frame.kind,h.frame.pub,h.frame.old,h.frame.pcell⟩⟩
inductive Rcv:FrameMode→AV→Om→Value→FrameMode→Prop
 | ret (Ω:Om):Rcv .returning .nilif Ω .nilIface .returning
 | pan (Ω:Om) (a:AV) (v:Value):V Ω a v→Rcv (.panicking [{v,recovered:=false}]) a Ω v (.panicking [{v,recovered:=true}])
structure RCcode (g:Nat) (R:RC) (c cc:Code):Prop where
 code:∃i1 i2 ty1 ps1 af1 ty2 ps2 af2 ts2 ty3 ps3 af3 ts3 ty4 ps4 af4,
  c=.seq R.r0 (.seq (.region i1 #[⟨some R.t5,.makeFunc (.func g) #[] R.caps.toArray,ty1,ps1,af1,none⟩,⟨none,.defer ⟨.value (.tmp R.t5),#[],ts2⟩,ty2,ps2,af2,none⟩] false) R.rest)/\
  cc=.seq (.region i2 #[⟨some R.t6,.call ⟨.builtin .recover,#[],ts3⟩,ty3,ps3,af3,none⟩,⟨some R.t3,.assign (.tmp R.t6),ty4,ps4,af4,none⟩] false) R.crest
theorem Ef {g:Nat} {c cc:Code} {R:RC} (h:He g c cc=some R):RCcode g R c cc:=by
 unfold He at h
 split at h
 ·rename_i r0 i1 o1 rest i2 o2 crest
  split at h
  ·rename_i h1 h2
   split at h
   ·rename_i hc
    simp only [Bool.and_eq_true,Nat.beq_eq,Array.isEmpty_iff] at hc
    obtain ⟨⟨⟨⟨⟨rfl,rfl⟩,rfl⟩,rfl⟩,rfl⟩,rfl⟩:=hc
    simp only [Xs] at h
    subst h
    have e1:=congrArg List.toArray h1
    have e2:=congrArg List.toArray h2
    simp only [Array.toArray_toList] at e1 e2
    subst e1 e2
    exact ⟨_,_,_,_,_,_,_,_,_,_,_,_,_,_,_,_,rfl,rfl⟩
   ·cases h
  ·cases h
 ·cases h
theorem nJ {ts:Array Nat} {d:Option Nat} {ty:Nat} {ps:String} {af:Array Edge} {ρ:Operand→Value} {w:World} :
  (execOp ρ ⟨d,.call ⟨.builtin .recover,#[],ts⟩,ty,ps,af,none⟩).run P w=.ok .recover w:=by
 simp [execOp,resolve,invoke,builtin]
theorem yw (hm:P.follows .mixedOrders=true) (hT:aT P C.tbl) (hS:bH P C.spec) {g:Nat} {clo:Func} {c cc:Code} {R:RC} (hR:RCcode g R c cc) (hg:P.funcs[g]?=some clo) (hb:clo.body=some cc)
  (hd:bu clo.ntmps cc=true) (hres:clo.results=#[]) {caps:List AV} (hcl:caps.length<=clo.ntmps) (hc6:caps.length<=R.t6) {F:Fr} {s2:St} {a2:Act} {Ω2:Om} (h:Holds F s2.abs a2 Ω2) {vs:List Value} (hv:VL Ω2 caps vs)
  {u u':FrameMode} {av:AV} {v:Value} (hrc:Rcv u av Ω2 v u') {annC:An} {fin:St→Prop} (hc:vu C annC clo R caps av s2 fin) :
  CallsD P g vs.toArray u Ω2.w fun en u2 w'=>u2=u'/\en=.returned (.tuple #[])/\∃s3 Ω3 a3 T,Ω3.w=w'/\fin s3/\Holds ⟨F.w0,F.pub0,clo.ntmps,F.e0,F.dom0,[],F.tab0⟩ ⟨T,ak s3.b⟩ a3 Ω3:=by
 obtain ⟨i1,i2,ty1,ps1,af1,ty2,ps2,af2,ts2,ty3,ps3,af3,ts3,ty4,ps4,af4,_,rfl⟩:=hR
 refine callsD_of_wpS hg hb (fun c₀ cs hu=>?_)
 apply wpS_seq
 apply wpS_region
 simp only [bu,Bool.and_eq_true,List.all_cons,List.all_nil,Bool.and_true,Nat.blt_eq] at hd
 obtain ⟨⟨hd6,hd3⟩,hdc⟩:=hd
 have hvs:vs.length<=clo.ntmps:=by rw [←hv.1];exact hcl
 have hbase:Holds ⟨F.w0,F.pub0,clo.ntmps,F.e0,F.dom0,[],F.tab0⟩ ⟨aS (cC 0 caps),ak s2.b⟩ {tmps:=vs.toArray++Array.replicate (clo.ntmps - vs.toArray.size) undef,defers:=[]} Ω2:=
  h.retmp' (fun i=>ik _ hv i) (by simp;omega) rfl
 have key:∃cs',(∃c1,cs'=c1 ::cs/\c1={c₀ with mode:=u'})/\∀Q':Exit→Act→List Frame→World→Prop,Q' .normal (({tmps:=vs.toArray++Array.replicate (clo.ntmps - vs.toArray.size) undef,defers:=[]}:Act).put (some R.t6) v |>.put (some R.t3) v) cs' Ω2.w→
   wpOpsS P #[⟨some R.t6,.call ⟨.builtin .recover,#[],ts3⟩,ty3,ps3,af3,none⟩,⟨some R.t3,.assign (.tmp R.t6),ty4,ps4,af4,none⟩] Q' [0,1] {tmps:=vs.toArray++Array.replicate (clo.ntmps - vs.toArray.size) undef,defers:=[]} (c₀ ::cs) Ω2.w:=by
  have two:∀(cs':List Frame) (Q':Exit→Act→List Frame→World→Prop),Q' .normal (({tmps:=vs.toArray++Array.replicate (clo.ntmps - vs.toArray.size) undef,defers:=[]}:Act).put (some R.t6) v |>.put (some R.t3) v) cs' Ω2.w→
    wpOpsS P #[⟨some R.t6,.call ⟨.builtin .recover,#[],ts3⟩,ty3,ps3,af3,none⟩,⟨some R.t3,.assign (.tmp R.t6),ty4,ps4,af4,none⟩] Q' [1] (({tmps:=vs.toArray++Array.replicate (clo.ntmps - vs.toArray.size) undef,defers:=[]}:Act).put (some R.t6) v) cs' Ω2.w:=by
   intro cs' Q' hq
   have he:(({tmps:=vs.toArray++Array.replicate (clo.ntmps - vs.toArray.size) undef,defers:=[]}:Act).put (some R.t6) v).eval (.tmp R.t6)=v:=by
    show (Act.put _ (some R.t6) v).tmps.getD R.t6 undef=v
    rw [bZ hbase.size hd6,if_pos rfl]
   unfold wpOpsS
   simp only [List.getElem?_toArray,List.getElem?_cons_succ,List.getElem?_cons_zero,Region.wanted,if_true]
   have hr:(execOp (({tmps:=vs.toArray++Array.replicate (clo.ntmps - vs.toArray.size) undef,defers:=[]}:Act).put (some R.t6) v).eval ⟨some R.t3,.assign (.tmp R.t6),ty4,ps4,af4,none⟩).run P Ω2.w=.ok (.value v) Ω2.w:=by
    show (pure (Next.value (Act.eval _ (.tmp R.t6))):Sem Next).run P Ω2.w=_
    rw [he]
    rfl
   rw [hr]
   simp only [Oper.upon]
   exact hq
  cases hrc with
  | ret=>
   refine ⟨_,⟨c₀,rfl,by cases c₀;simp only at hu;subst hu;rfl⟩,fun Q' hq=>?_⟩
   unfold wpOpsS
   simp only [List.getElem?_toArray,List.getElem?_cons_zero,Region.wanted,if_true]
   rw [nJ]
   simp only [recoverD,hu]
   exact two _ Q' hq
  | pan _ _ hv'=>
   refine ⟨_,⟨_,rfl,rfl⟩,fun Q' hq=>?_⟩
   unfold wpOpsS
   simp only [List.getElem?_toArray,List.getElem?_cons_zero,Region.wanted,if_true]
   rw [nJ]
   simp only [recoverD,hu]
   exact two _ Q' hq
 obtain ⟨cs',⟨c1,rfl,hc1⟩,key⟩:=key
 refine key _ ?_
 refine wpS_of_wp ?_
 unfold vu at hc
 rw [gr,cQ] at hc
 have hav:V Ω2 av v:=by
  cases hrc <;> first | exact .nilif | assumption
 have h1:=(hbase.pure (dst:=some R.t6) (val:=.undef) (v:=v) (.undef v) (fun d e=>by cases e;exact hd6)).pure (dst:=some R.t3) (val:=av) (v:=v) hav (fun d e=>by cases e;exact hd3)
 have h2:Holds ⟨F.w0,F.pub0,clo.ntmps,F.e0,F.dom0,[],F.tab0⟩ (St.abs ⟨iB (cC 0 caps) R.t3 av,s2.b⟩) _ Ω2:=h1.weak (s':=St.abs ⟨iB (cC 0 caps) R.t3 av,s2.b⟩) (fun i=>by
  simp only [St.abs,eV,bR]
  by_cases e3:R.t3=i
  ·right;simp [e3]
  ·by_cases e6:R.t6=i
   ·left
    subst e6
    rw [if_neg e3,eY,if_pos (Nat.zero_le _),Nat.sub_zero]
    simp [List.getD_eq_getElem?_getD,List.getElem?_eq_none hc6]
   ·right;simp [e3,e6]) rfl
 refine wp_mono (kd hm hT hS _ annC R.crest _ _ _ Ω2 hc hdc h2) ?_
 intro e a' w' hq
 obtain ⟨z,s3,Ω3,q1,q2,q3,q4⟩:=hq
 have fin3:fin s3→bodyPostS P clo c₀ cs (fun en u2 w'=>u2=u'/\en=.returned (.tuple #[])/\∃s3 Ω3 a3 T,Ω3.w=w'/\fin s3/\Holds ⟨F.w0,F.pub0,clo.ntmps,F.e0,F.dom0,[],F.tab0⟩ ⟨T,ak s3.b⟩ a3 Ω3) .ret a' (c1 ::cs) w':=by
  intro hf
  refine ⟨q3.defers,u',by rw [hc1],.tuple #[],by simp [results,hres],rfl,rfl,s3,Ω3,a',_,q2,hf,q3⟩
 cases z with
 | normal=>cases q1;exact fin3 q4
 | ret=>cases q1;exact fin3 q4
 | exit id=>exact q4.elim
 | pan v=>exact q4.elim
theorem BO {w:World} {pub:Nat→Nat→Prop} {e:Nat→Option CObj} {n:Nat} {hl:∀id c,e id=some c→bp id=true} {ds:List Deferred} {ht:gl w pub e} {T:Nat→AV} {t:List (Nat × AV)} {b b':List (Nat × SObj)} {a:Act} {Ω:Om} {l:List AV} {us:List Value} {val:AV}
  (hh:Holds ⟨w,pub,n,e,hl,ds,ht⟩ ⟨T,ak b⟩ a Ω) (k2:VL Ω l us) (hend:rq (some l) ⟨t,b⟩ val b') :
  ∃pub' e',V ⟨e',Ω.w,pub'⟩ val (if h:us.toArray.size=1 then us.toArray[0] else .tuple us.toArray)/\After w pub e (ak b') Ω.w pub' e':=by
 unfold rq at hend
 split at hend
 ·rename_i x hres
  cases hres
  obtain ⟨u,rfl⟩:=il (by rw [←k2.1];rfl)
  have h1:=hh.retmp' (T:=aS (cC 0 [x])) (a':={tmps:=[u].toArray++Array.replicate 0 undef,defers:=[]}) (n:=1) (ds:=[]) (fun i=>ik 0 k2 i) (by simp) rfl
  obtain ⟨Ω2,e2,hh2⟩:=df (s:=⟨[(0,x)],b⟩) h1 (fM hend)
  refine ⟨Ω2.pub,Ω2.e,?_,?_⟩
  ·have:=hh2.tmps 0
   rw [←e2]
   exact this
  ·rw [←e2]
   exact gu hh2
 ·rename_i l' hne hres
  cases hres
  split at hend
  ·rename_i rs
   split at hend
   ·rename_i hln
    have hl2:=bE _ _ hln
    have h1:=hh.retmp' (T:=aS (cC 0 l)) (a':={tmps:=us.toArray++Array.replicate 0 undef,defers:=[]}) (n:=us.length) (ds:=[]) (fun i=>ik 0 k2 i) (by simp) rfl
    obtain ⟨Ω2,e2,hh2⟩:=df (s:=⟨cC 0 l,b⟩) h1 (fM hend)
    have hsz:¬us.toArray.size=1:=by
     intro h1
     obtain ⟨x,hx⟩:=il (l:=l) (by rw [k2.1];simpa using h1)
     exact hne x hx
    rw [dif_neg hsz]
    refine ⟨Ω2.pub,Ω2.e,?_,?_⟩
    ·refine .tup rs us (by rw [←k2.1,←hl2]) (fun j c v hc hv=>?_)
     have:=hh2.tmps j
     simp only [St.abs,eY,Nat.zero_le,if_true,Nat.sub_zero,List.getD_eq_getElem?_getD,hc,Option.getD_some] at this
     have e3:(us.toArray++Array.replicate 0 undef).getD j undef=v:=by
      simp [Array.getD_eq_getD_getElem?,hv]
     rw [e3] at this
     rw [←e2]
     exact this
    ·rw [←e2]
     exact gu hh2
   ·exact hend.elim
  ·exact hend.elim
 ·rename_i h;cases h
theorem CLe.to_box {c:CObj} {b o l:Nat} (h:CLe c (.box b o l)):c=.box b o l:=by
 cases c <;> simp [CLe] at h
 obtain ⟨rfl,rfl,rfl⟩:=h
 rfl
theorem V.ptrIn {F:Fr} {Ω2 Ω3:Om} {ks:List Nat} (h2:∀id c,F.e0 id=some c→∃c',Ω2.e id=some c'/\CLe c c') (h3:∀id c,F.e0 id=some c→∃c',Ω3.e id=some c'/\CLe c c')
  (hk:∀k∈ks,∃c,F.e0 k=some c) {a:AV} {v:Value} (h:V Ω2 a v):V Ω3 (if AL.ptrIn ks a=true then a else .undef) v:=by
 split
 ·rename_i hp
  cases h with
  | ptr i o b q len he=>
   simp only [AL.ptrIn,List.contains_eq_mem,decide_eq_true_eq] at hp
   obtain ⟨c,hc⟩:=hk i hp
   obtain ⟨c2,e2,l2⟩:=h2 i c hc
   rw [he] at e2
   cases e2
   have:=l2.to_box
   subst this
   obtain ⟨c3,e3,l3⟩:=h3 i _ hc
   have:=l3.box
   subst this
   exact .ptr i o b q len e3
  | _=>simp [AL.ptrIn] at hp
 ·exact .undef v
theorem BP (hT:aT P C.tbl) {w:World} {pub:Nat→Nat→Prop} {e:Nat→Option CObj} {n n1:Nat} {hl:∀id c,e id=some c→bp id=true} {ht:gl w pub e} {s1:St} {a1:Act} {Ω1:Om} {L:List cO} {ht1:gl Ω1.w Ω1.pub (cA L Ω1.e)} (h3:Holds ⟨w,pub,n,e,hl,[],ht⟩ s1.abs a1 Ω1)
  (hdist:aX (L.map (·.1))=true) {S1:List (Nat × SObj)} (hS1:lC (ak s1.b) L L 900=some S1) {hl1:∀id c,cA L Ω1.e id=some c→bp id=true} (hk1:∀k∈aG S1,∃c,cA L Ω1.e k=some c)
  {ds:List Deferred} {s2:St} {a2:Act} {Ω2:Om} (q3:Holds ⟨Ω1.w,Ω1.pub,n,cA L Ω1.e,hl1,ds,ht1⟩ s2.abs a2 Ω2) {s3:St} {a3:Act} {Ω3:Om} {T:Nat→AV} (h5:Holds ⟨Ω1.w,Ω1.pub,n1,cA L Ω1.e,hl1,[],ht1⟩ ⟨T,ak s3.b⟩ a3 Ω3)
  {fn:Func} {S:List (Nat × SObj)} {A:Ans} (hpan:A.pan=none) (hf:Ee C fn.results.toList L s1 S1 S A s2.t s3) :
  ∃v,(results fn a2.tmps).run P Ω3.w=.ok v Ω3.w/\∃pub' e',(∀b pv u,A.pan=some (b,pv,u)→b=false)/\V ⟨e',Ω3.w,pub'⟩ A.val v/\After w pub e (ak (bU S A.upd)) Ω3.w pub' e':=by
 unfold Ee at hf
 split at hf
 ·rename_i hck
  simp only [Bool.and_eq_true,List.all_eq_true] at hck
  obtain ⟨hd3,hin⟩:=hck
  split at hf
  ·rename_i l hres
   split at hf
   ·rename_i u' l' hu' hl'
    rw [cQ] at hf
    have hR:Holds ⟨Ω1.w,Ω1.pub,n,cA L Ω1.e,hl1,ds,ht1⟩ (St.abs ⟨G9 (aG S1) s2.t,s3.b⟩) a2 Ω3:=by
     have:=h5.retmp' (T:=aS (G9 (aG S1) s2.t)) (a':=a2) (n:=n) (ds:=ds) (fun i=>by
      rw [show aS (G9 (aG S1) s2.t) i=if ptrIn (aG S1) (aS s2.t i)=true then aS s2.t i else .undef from lO (fun x=>if ptrIn (aG S1) x=true then x else .undef) (by simp [ptrIn]) s2.t i]
      exact V.ptrIn (F:=⟨Ω1.w,Ω1.pub,n,cA L Ω1.e,hl1,ds,ht1⟩) q3.keep h5.keep hk1 (q3.tmps i)) q3.size q3.defers
     exact this
    obtain ⟨us,k1,k2⟩:=dZ hT hR _ _ hres
    have hmap:(results fn a2.tmps).run P Ω3.w=.ok (if h:us.toArray.size=1 then us.toArray[0] else .tuple us.toArray) Ω3.w:=by
     rw [kT,←Array.toArray_toList (xs:=fn.results),List.mapM_toArray]
     simp only [Sem.run_bind,Sem.run_map,k1,Result.andThen_ok,Sem.run_pure]
    have hB:ak (bU S1 s3.b)=ak s3.b:=by
     funext i
     rw [mT _ _ _ hd3]
     cases h:ak s3.b i with
     | some o=>rfl
     | none=>
      cases h':ak S1 i with
      | none=>rfl
      | some o=>
       have:=hin i (List.mem_map.2 ⟨(i,o),ck _ _ _ h',rfl⟩)
       simp only [List.contains_eq_mem,decide_eq_true_eq] at this
       exact absurd this (ij _ _ h)
    have hA:After Ω1.w Ω1.pub (cA L Ω1.e) (ak (bU S1 s3.b)) Ω3.w Ω3.pub Ω3.e:=by
     rw [hB]
     exact gu (h5.retmp' (T:=T) (a':=a3) (n:=n1) (ds:=[]) h5.tmps h5.size h5.defers)
    obtain ⟨Ω',w1,w2,w3⟩:=mC h3 (d:=998) (by omega) hdist hS1 hd3 hu' (val:=.tup l) (val':=.tup l') (by simp only [mapV,hl']) (v:=.tuple us.toArray) (V.of_tup k2) hA
    obtain ⟨us',e1,k3⟩:=w2.tup_inv
    have e2:us=us':=by
     have:=congrArg Array.toList (Value.tuple.inj e1)
     simpa using this
    subst e2
    rw [show s1.abs.B=ak s1.b from rfl,←ig] at w3
    obtain ⟨pub',e',p1,p2⟩:=BO (T:=s1.abs.T) (b:=bU s1.b u') (t:=[]) w3 k3 hf
    rw [w1] at p1 p2
    exact ⟨_,hmap,pub',e',(fun b pv u h=>by rw [hpan] at h;cases h),p1,p2⟩
   ·exact hf.elim
  ·exact hf.elim
 ·exact hf.elim
theorem fwpR_sound (hm:P.follows .mixedOrders=true) (hT:aT P C.tbl) (hS:bH P C.spec) {ann annC:An} {f g:Nat} {fn clo:Func} (hf:P.funcs[f]?=some fn) (hg:P.funcs[g]?=some clo)
  (eg:∀args w,(callFunc g args).run P w=.ok (.enter g args) w) {args:List AV} {S:List (Nat × SObj)} {A:Ans} (h:fwpR C ann annC fn g clo args S A):aw P f args S A:=by
 intro w pub e vs hp ht hv hs hdom hinj
 unfold fwpR at h
 split at h
 ·rename_i c cc hb hcb hpan
  split at h
  ·exact h.elim
  ·rename_i R hR
   split at h
   ·exact h.elim
   ·rename_i hck
    simp only [Bool.and_eq_true,List.all_eq_true,Array.isEmpty_iff,Nat.blt_eq] at hck
    obtain ⟨⟨⟨⟨⟨⟨⟨hk1,hk2⟩,hk5⟩,hk3⟩,hk4⟩,hres⟩,hcl⟩,hc6⟩:=hck
    have hlen:=dj _ _ hk3
    have hcl:=dj _ _ hcl
    have hc6:=dj _ _ hc6
    rw [gr,cQ] at h
    have hlent:∀id c,e id=some c→bp id=true:=by
     intro id c hc
     cases hg:ak S id with
     | none=>rw [hdom id hg] at hc;cases hc
     | some o=>exact hk4 id (List.mem_map.2 ⟨(id,o),ck _ _ _ hg,rfl⟩)
    have hRc:=Ef hR
    obtain ⟨i1,i2,ty1,ps1,af1,ty2,ps2,af2,ts2,ty3,ps3,af3,ts3,ty4,ps4,af4,rfl,_⟩:=id hRc
    refine calls_of_wp_defers hf hb ?_
    have hh:=iW (n:=fn.ntmps) hp ht hv hlen hs hdom hinj hlent
    have hdr:bu fn.ntmps R.r0=true/\bu fn.ntmps R.rest=true:=by
     simp only [bu,Bool.and_eq_true] at hk1
     exact ⟨hk1.1,hk1.2.2⟩
    refine wp_seq (wp_mono (kd (F:=⟨w,pub,fn.ntmps,e,hlent,[],ht⟩) hm hT hS _ ann R.r0 _ _ _ _ h hdr.1 hh) ?_)
    intro en a1 w1 hq
    obtain ⟨z,s1,Ω1,q1,rfl,h3,h4⟩:=hq
    cases z with
    | exit id=>exact h4.elim
    | ret=>exact h4.elim
    | pan pv=>exact h4.elim
    | normal=>
     cases q1
     simp only at h4
     generalize hLL:(aG s1.b).map (fun i=>(i,(none:Option (Nat × Nat))))=L at h4
     split at h4
     ·rename_i as1 caps S1 hdl has hcaps hS1
      simp only [Bool.and_eq_true,Nat.ble_eq] at hdl
      obtain ⟨hdist,hL100⟩:=hdl
      split at h4
      ·rename_i hcp
       rw [cQ] at h4
       obtain ⟨k1,k2,k3⟩:=fX L 900 S1 hS1
       refine wp_seq (wp_region ?_)
       show wpOps P _ _ [0,1] a1 Ω1.w
       refine cm (o:=⟨some R.t5,.makeFunc (.func g) #[] R.caps.toArray,ty1,ps1,af1,none⟩) rfl rfl (az (v:=.func (.func g) #[] (R.caps.toArray.map a1.eval)) (w':=Ω1.w) (by simp [execOp,Instr.makeFunc]) ?_)
       have he5:(a1.put (some R.t5) (.func (.func g) #[] (R.caps.toArray.map a1.eval))).eval (.tmp R.t5)=.func (.func g) #[] (R.caps.toArray.map a1.eval):=by
        show (Act.put a1 (some R.t5) _).tmps.getD R.t5 undef=_
        rw [bZ h3.size hk5,if_pos rfl]
       refine cm (o:=⟨none,.defer ⟨.value (.tmp R.t5),#[],ts2⟩,ty2,ps2,af2,none⟩) rfl rfl ?_
       have hrun:(execOp (a1.put (some R.t5) (.func (.func g) #[] (R.caps.toArray.map a1.eval))).eval ⟨none,.defer ⟨.value (.tmp R.t5),#[],ts2⟩,ty2,ps2,af2,none⟩).run P Ω1.w=.ok (.defer {target:=.fn (.func g) (R.caps.toArray.map a1.eval),args:=#[]}) Ω1.w:=by
        have he5':=he5
        simp only [List.map_toArray] at he5'
        simp [execOp,resolve,he5',Deferred.ofValue]
       unfold Oper.wp
       rw [hrun]
       have hcv:R.caps.toArray.map a1.eval=(R.caps.map a1.eval).toArray:=by simp
       have hdef0:a1.defers=[]:=h3.defers
       have hvl1:VL Ω1 ((List.range fn.ntmps).map (aS s1.t)) a1.tmps.toList:=by
        have hz:a1.tmps.size=fn.ntmps:=h3.size
        refine ⟨by simp;omega,fun j c v hc hv=>?_⟩
        simp only [List.getElem?_map,Option.map_eq_some_iff] at hc
        obtain ⟨q,hq,rfl⟩:=hc
        have hqj:q=j:=by
         have:=List.getElem?_eq_some_iff.1 hq
         obtain ⟨_,e⟩:=this
         simpa using e.symm
        subst hqj
        have:=h3.tmps q
        rw [Array.getElem?_toList] at hv
        simp only [Array.getD_eq_getD_getElem?,hv,Option.getD_some] at this
        exact this
       have hvc1:VL Ω1 (R.caps.map (opd (aS s1.t))) (R.caps.map a1.eval):=by
        refine ⟨by simp,fun j c v hc hv=>?_⟩
        simp only [List.getElem?_map,Option.map_eq_some_iff] at hc hv
        obtain ⟨x,hx,rfl⟩:=hc
        obtain ⟨y,hy,rfl⟩:=hv
        rw [hx] at hy
        cases hy
        exact b5 h3 x
       have hvl:=hvl1.mapVs (ju L Ω1.e) has
       have hvc:=hvc1.mapVs (ju L Ω1.e) hcaps
       have hlent1:∀k i r,aZ L k=some (i,r)→∃o o',s1.abs.B i=some o/\ep L r o=some o'/\ak S1 k=some o':=by
        intro k i r hk
        obtain ⟨h1,h2⟩:=dY hk
        obtain ⟨o,o',q1,q2,q3⟩:=k2 _ i r h2
        rw [show 900+(k - 900)=k by omega] at q3
        exact ⟨o,o',q1,q2,q3⟩
       have hLs:∀q i r,nth L q=some (i,r)→∃o o',s1.abs.B i=some o/\ep L r o=some o':=fun q i r hq=>let ⟨o,o',q1,q2,_⟩:=k2 q i r hq;⟨o,o',q1,q2⟩
       have hslots:∀id o,ak S1 id=some o→b9 ⟨cA L Ω1.e,Ω1.w,Ω1.pub⟩ (fun _ _=>True) id o:=fun id o' ho'=>by
        obtain ⟨q,i,r,o2,e1,e2,e3,e4⟩:=k1 id o' ho'
        subst e1
        exact ur (ca (ka L i 900 q r hdist e2)) (h3.slots i o2 e3) e4
       have hdom1:∀id,ak S1 id=none→cA L Ω1.e id=none:=fun id hid=>by
        unfold cA
        cases hl:aZ L id with
        | none=>rfl
        | some x=>
         obtain ⟨o1,o2,_,_,q3⟩:=hlent1 id x.1 x.2 hl
         rw [hid] at q3
         cases q3
       have hinj1:Inj (cA L Ω1.e):=fun i j c c' b oo hi hj ho1 ho2=>by
        obtain ⟨i1,r1,c1,p1,p2,p3⟩:=ie h3.slots hLs hi
        obtain ⟨i2,r2,c2,p4,p5,p6⟩:=ie h3.slots hLs hj
        have:=h3.inj i1 i2 c1 c2 b oo p2 p5 (p3 b oo ho1) (p6 b oo ho2)
        subst this
        have a1:=cK hdist p1
        have a2:=cK hdist p4
        rw [a1] at a2
        simp at a2
        exact a2.1
       have hpin:∀id c,cA L Ω1.e id=some c→bp id=true:=by
        intro id c hc
        cases hg:ak S1 id with
        | none=>rw [hdom1 id hg] at hc;cases hc
        | some o=>
         have:=k3 (id,o) (ck _ _ _ hg)
         simp only [bp,Bool.and_eq_true,Nat.ble_eq,Nat.blt_eq]
         simp only at this
         omega
       have hkS:∀k∈aG S1,∃c,cA L Ω1.e k=some c:=by
        intro k hk
        obtain ⟨x,hx,rfl⟩:=List.mem_map.1 hk
        cases hg:ak S1 x.1 with
        | none=>exact absurd (List.mem_map.2 ⟨x,hx,rfl⟩) (ij _ _ hg)
        | some o=>
         have hso:=hslots x.1 o hg
         cases o with
         | box c=>obtain ⟨_,_,e1,_⟩:=hso;exact ⟨_,e1⟩
         | tail τ n=>obtain ⟨_,_,e1,_⟩:=hso;exact ⟨_,e1⟩
         | map κ τ m=>obtain ⟨_,e1,_⟩:=hso;exact ⟨_,e1⟩
         | bld t u l=>obtain ⟨_,_,e1,_⟩:=hso;exact ⟨_,e1⟩
         | tailp τ n x=>obtain ⟨_,_,e1,_⟩:=hso;exact ⟨_,e1⟩
       have hlen1:as1.length<=fn.ntmps:=by
        have:=hvl.1
        rw [this,Array.length_toList,h3.size]
        exact Nat.le_refl _
       have hi1:=iW (n:=fn.ntmps) h3.pubok (h3.tabsC hLs) hvl hlen1 hslots hdom1 hinj1 hpin
       have hi2:=hi1.retmp' (T:=aS (cC 0 as1)) (a':={tmps:=a1.tmps,defers:=[{target:=.fn (.func g) (R.caps.toArray.map a1.eval),args:=#[]}]}) (n:=fn.ntmps) (ds:=[{target:=.fn (.func g) (R.caps.toArray.map a1.eval),args:=#[]}])
        (fun i=>by
         have:=hi1.tmps i
         have e0:(a1.tmps.toList.toArray++Array.replicate (fn.ntmps - a1.tmps.toList.toArray.size) undef)=a1.tmps:=by
          have hz:a1.tmps.size=fn.ntmps:=h3.size
          apply Array.ext'
          simp [hz]
         rw [e0] at this
         exact this) h3.size rfl
       have hi3:=hi2.pure (dst:=some R.t5) (val:=.undef) (v:=.func (.func g) #[] (R.caps.toArray.map a1.eval)) (.undef _) (fun d e=>by cases e;exact hk5)
       have hi4:=hi3.weak (s':=St.abs ⟨iB (cC 0 as1) R.t5 .undef,S1⟩) (fun i=>by
        simp only [St.abs,eV,bR]
        by_cases e5:R.t5=i
        ·left;simp [e5]
        ·right;simp [e5]) rfl
       have hact:(({tmps:=a1.tmps,defers:=[{target:=.fn (.func g) (R.caps.toArray.map a1.eval),args:=#[]}]}:Act).put (some R.t5) (.func (.func g) #[] (R.caps.toArray.map a1.eval)))=
         ({(a1.put (some R.t5) (.func (.func g) #[] (R.caps.toArray.map a1.eval))) with defers:={target:=.fn (.func g) (R.caps.toArray.map a1.eval),args:=#[]} ::(a1.put (some R.t5) (.func (.func g) #[] (R.caps.toArray.map a1.eval))).defers}:Act).put none undef:=by
        simp [Act.put,hdef0]
       show Code.wp P R.rest _ (({(a1.put (some R.t5) (.func (.func g) #[] (R.caps.toArray.map a1.eval))) with defers:={target:=.fn (.func g) (R.caps.toArray.map a1.eval),args:=#[]} ::(a1.put (some R.t5) (.func (.func g) #[] (R.caps.toArray.map a1.eval))).defers}:Act).put none undef) Ω1.w
       rw [←hact]
       refine wp_mono (kd hm hT hS _ ann R.rest _ _ _ ⟨cA L Ω1.e,Ω1.w,Ω1.pub⟩ h4 hdr.2 hi4) ?_
       intro en a2 w2 hq
       obtain ⟨z,s2,Ω2,g1,rfl,g3,g4⟩:=hq
       have hcv2:VL Ω2 caps (R.caps.map a1.eval):=by
        refine ⟨hvc.1,fun j c v hc hv=>?_⟩
        exact V.pinned g3.keep (List.all_eq_true.1 hcp c (List.mem_of_getElem? hc)) (hvc.2 j c v hc hv)
       have hcl':caps.length<=clo.ntmps:=by rw [hvc.1,List.length_map];exact hcl
       have hc6':caps.length<=R.t6:=by rw [hvc.1,List.length_map];exact hc6
       have close:∀(u u':FrameMode) (av:AV) (v:Value),u≠.run→settle u'=.returning→Rcv u av Ω2 v u'→vu C annC clo R caps av s2 (Ee C fn.results.toList L s1 S1 S A s2.t)→
         Leaves P fn a2.tmps (fun en w'=>∃pub' e',match en with
          | .returned v=>(∀b pv u,A.pan=some (b,pv,u)→b=false)/\V ⟨e',w',pub'⟩ A.val v/\After w pub e (ak (bU S A.upd)) w' pub' e'
          | .panicked ch=>∃pv u v,A.pan=some (true,pv,u)/\ch=[{v,recovered:=false}]/\V ⟨e',w',pub'⟩ pv v/\After w pub e (ak (bU S u)) w' pub' e'
          | .outgrown=>False) [{target:=.fn (.func g) (R.caps.toArray.map a1.eval),args:=#[]}] u Ω2.w:=by
        intro u u' av v hu hse hrc hcr
        refine leaves_cons (f:=g) (args:=(R.caps.map a1.eval).toArray) hu (by simp [invoke,eg]) ?_
        refine (yw hm hT hS hRc hg hcb hk2 hres hcl' hc6' g3 hcv2 hrc hcr).mono ?_
        rintro en u2 w3 ⟨rfl,rfl,s3,Ω3,a3,T3,rfl,hfin,h5⟩
        simp only [hse,Leaves]
        obtain ⟨v,r1,pub',e',r2,r3,r4⟩:=BP hT h3 hdist hS1 hkS g3 h5 hpan hfin
        exact ⟨v,r1,pub',e',r2,r3,r4⟩
       have hds:a2.defers=[{target:=.fn (.func g) (R.caps.toArray.map a1.eval),args:=#[]}]:=g3.defers
       cases z with
       | normal=>cases g1;show Leaves P fn a2.tmps _ a2.defers .returning Ω2.w;rw [hds];exact close .returning .returning .nilif .nilIface (by simp) rfl (.ret Ω2) g4
       | ret=>cases g1;show Leaves P fn a2.tmps _ a2.defers .returning Ω2.w;rw [hds];exact close .returning .returning .nilif .nilIface (by simp) rfl (.ret Ω2) g4
       | exit id=>exact g4.elim
       | pan pv=>
        obtain ⟨v,rfl,hv⟩:=g1
        show Leaves P fn a2.tmps _ a2.defers (.panicking [{v,recovered:=false}]) Ω2.w
        rw [hds]
        exact close _ (.panicking [{v,recovered:=true}]) pv v (by simp) (by simp [settle]) (.pan Ω2 pv v hv) g4
      ·exact h4.elim
     ·exact h4.elim
 ·exact h.elim
end
end Go.AL
end
section
open Go Go.AL Go.Pd
namespace Go.AL.Seat
theorem Ga (c:Int) (hc:0<=c/\c<=400) :
  inR IntKind.i64 (c+(1:Int))/\if decide ((400:Int) < c+(1:Int))=true then decide ((400:Int) < c+(1:Int))=true/\c+(1:Int)=c+(1:Int)/\True else decide ((400:Int) < c+(1:Int))=false/\c+(1:Int)=c+(1:Int)/\True:=by
 refine ⟨aJ (by omega) (by omega),aa (fun h=>?_) (fun h=>?_)⟩
 ·exact ⟨h,rfl,trivial⟩
 ·exact ⟨by simpa using h,rfl,trivial⟩
theorem Gb (n:Nat) (s:Shape) (l c:Int) (hs:Wf (.st .shape) s) (hn:sz s<=n+1) (hc:0<=c/\c<=400/\1<=l/\l<=c+1) :
  ((0:Int)<=c/\c<=(400:Int))/\if decide ((400:Int) < c+(1:Int))=true then decide ((400:Int) < c+(↑(sz s):Int))=true/\c+(1:Int)=(401:Int)/\True else (∃(x:Nat × Int),(x.1<=List.length s.parts/\c+(1:Int)+(↑(szL (List.take x.1 s.parts)):Int)<=(400:Int)/\deepL (List.drop x.1 s.parts) (l+(1:Int)) x.2=deepS s l)/\l=x.2/\(0:Int)=(↑x.1:Int)/\s=s/\l=l/\(0:Int)=(0:Int)/\s.parts=s.parts/\(↑(List.length s.parts):Int)=(↑(List.length s.parts):Int)/\c+(1:Int)=c+(1:Int)+(↑(szL (List.take x.1 s.parts)):Int)/\s=s/\True)/\∀(x:Nat × Int),x.1<=List.length s.parts/\c+(1:Int)+(↑(szL (List.take x.1 s.parts)):Int)<=(400:Int)/\deepL (List.drop x.1 s.parts) (l+(1:Int)) x.2=deepS s l→if decide ((↑x.1:Int) < (↑(List.length s.parts):Int))=true then ((0:Int)<=(↑x.1:Int)/\(↑x.1:Int) < (↑(List.length s.parts):Int))/\inR IntKind.i64 (l+(1:Int))/\(sz (List.getD s.parts (Int.toNat (↑x.1:Int)) (dfl (Ty.st SN.shape)))<=n/\(0:Int)<=c+(1:Int)+(↑(szL (List.take x.1 s.parts)):Int)/\c+(1:Int)+(↑(szL (List.take x.1 s.parts)):Int)<=(400:Int)/\(1:Int)<=l+(1:Int)/\l+(1:Int)<=c+(1:Int)+(↑(szL (List.take x.1 s.parts)):Int)+(1:Int))/\if decide ((400:Int) < c+(1:Int)+(↑(szL (List.take x.1 s.parts)):Int)+(↑(sz (List.getD s.parts (Int.toNat (↑x.1:Int)) (dfl (Ty.st SN.shape)))):Int))=true then decide ((400:Int) < c+(↑(sz s):Int))=true/\(401:Int)=(401:Int)/\True else inR IntKind.i64 ((↑x.1:Int)+(1:Int))/\∃(y:Nat × Int),(y.1<=List.length s.parts/\c+(1:Int)+(↑(szL (List.take y.1 s.parts)):Int)<=(400:Int)/\deepL (List.drop y.1 s.parts) (l+(1:Int)) y.2=deepS s l)/\List.length s.parts - y.1 < List.length s.parts - x.1/\max x.2 (deepS (List.getD s.parts (Int.toNat (↑x.1:Int)) (dfl (Ty.st SN.shape))) (l+(1:Int)))=y.2/\(↑x.1:Int)+(1:Int)=(↑y.1:Int)/\s=s/\l=l/\(0:Int)=(0:Int)/\s.parts=s.parts/\(↑(List.length s.parts):Int)=(↑(List.length s.parts):Int)/\c+(1:Int)+(↑(szL (List.take x.1 s.parts)):Int)+(↑(sz (List.getD s.parts (Int.toNat (↑x.1:Int)) (dfl (Ty.st SN.shape)))):Int)=c+(1:Int)+(↑(szL (List.take y.1 s.parts)):Int)/\s=s/\True else decide ((400:Int) < c+(↑(sz s):Int))=false/\x.2=deepS s l/\c+(1:Int)+(↑(szL (List.take x.1 s.parts)):Int)=c+(↑(sz s):Int)/\True:=by
 have ln:=hs.parts.len
 have hz:=gz s
 refine ⟨⟨hc.1,hc.2.1⟩,aa (fun h=>?_) (fun h=>?_)⟩
 ·replace h:=Xo h
  have:=dP s
  exact ⟨Xd (by omega),by omega,trivial⟩
 replace h:¬(400:Int) < c+1:=fun e=>h (Xd e)
 have hd0:deepL s.parts (l+1) l=deepS s l:=by cases s;rfl
 refine ⟨⟨(0,l),⟨Nat.zero_le _,by simp [szL];omega,by simpa using hd0⟩,rfl,rfl,rfl,rfl,rfl,rfl,rfl,by simp [szL],rfl,trivial⟩,?_⟩
 rintro ⟨k,d⟩ ⟨h1,h2,h3⟩
 simp only [Int.toNat_natCast] at h1 h2 h3 ⊢
 have hc0:(0:Int)<=(szL (s.parts.take k):Int):=by omega
 refine aa (fun hk=>?_) (fun hk=>?_)
 ·replace hk:=Xo hk
  have hk:k < s.parts.length:=by omega
  have hs1:=kC s.parts k (dfl (.st .shape)) hk
  have hm:=dA (aL s.parts k (dfl (.st .shape)) hk)
  rw [ai s.parts k (dfl (.st .shape)) hk] at h3
  simp only [deepL] at h3
  have ht:=uL s.parts (k+1)
  refine ⟨by omega,aJ (by omega) (by omega),⟨by omega,by omega,h2,by omega,by omega⟩,aa (fun h=>?_) (fun h=>?_)⟩
  ·replace h:=Xo h
   exact ⟨Xd (by omega),by trivial,by trivial⟩
  ·replace h:=fun e=>h (Xd e)
   replace h:¬(400:Int) < c+1+(szL (s.parts.take k):Int)+(sz (s.parts.getD k (dfl (.st .shape))):Int):=h
   exact ⟨ar hk ln,(k+1,_),⟨by omega,by simp only;omega,h3⟩,by simp only;omega,rfl,by simp only;omega,by trivial,by trivial,by trivial,by trivial,by trivial,by simp only;omega,by trivial,by trivial⟩
 ·replace hk:¬((k:Int) < (s.parts.length:Int)):=fun e=>hk (Xd e)
  have e:k=s.parts.length:=by omega
  subst e
  rw [List.take_length] at h2 ⊢
  rw [List.drop_length] at h3
  exact ⟨Xf (by omega),h3,by omega,trivial⟩
theorem Eg (s:Shape) (hs:Wf (.st .shape) s) :
  (sz s<=sz s/\(0:Int)<=(0:Int)/\(0:Int)<=(400:Int)/\(1:Int)<=(1:Int)/\(1:Int)<=(0:Int)+(1:Int))/\if decide ((400:Int) < (0:Int)+(↑(sz s):Int))=true then ((401:Int)=if sz s<=(400:Nat) then (↑(sz s):Int) else (401:Int))/\((0:Int)=if sz s<=(400:Nat) then deepS s (1:Int) else (0:Int))/\false=decide (sz s<=(400:Nat))/\True else ((0:Int)+(↑(sz s):Int)=if sz s<=(400:Nat) then (↑(sz s):Int) else (401:Int))/\(deepS s (1:Int)=if sz s<=(400:Nat) then deepS s (1:Int) else (0:Int))/\true=decide (sz s<=(400:Nat))/\True:=by
 refine ⟨by simp,aa (fun h=>?_) (fun h=>?_)⟩
 ·replace h:=Xo h
  have h':¬sz s<=400:=by omega
  rw [if_neg h',if_neg h']
  exact ⟨rfl,rfl,by simp [h'],trivial⟩
 ·replace h:¬(400:Int) < 0+(sz s:Int):=fun e=>h (Xd e)
  have h':sz s<=400:=by omega
  rw [if_pos h',if_pos h']
  exact ⟨by omega,by trivial,by simp [h'],trivial⟩
end Go.AL.Seat
end
section
open Go Go.AL Go.Proofs Go.Shelf Go.Pd
namespace Go.AL.Seat
open Go.Proofs.Tryz
variable [Tabs]
def nn:Nat→Bool:=fun _=>false
def cf (k:Nat→Bool) (l:Nat→List (Option Nat)) (p r m:Nat→Bool) (s:Nat→List AV→List (Nat × SObj)→Option Ans):Cfg:=⟨tbl,s,k,l,p,r,m⟩
def a0:An:=⟨[],[],[]⟩
theorem g1 (k:Nat→Bool) (l:Nat→List (Option Nat)) (p r m:Nat→Bool) {s:Nat→List AV→List (Nat × SObj)→Option Ans} (hS:bH prog s) (a:An) {f:Nat} {fn:Func} (hf:Tryz.prog.funcs[f]?=some fn)
  {args:List AV} {S:List (Nat × SObj)} {A:Ans} {Q:Prop} (q:Q) (h:fwp (cf k l p r m s) a fn args S A=Q:=by kernel_rfl):aw prog f args S A:=Dw (C:=cf k l p r m s) mixed Ed hS hf q h
theorem g0 {s:Nat→List AV→List (Nat × SObj)→Option Ans} (hS:bH prog s) (a:An) {f:Nat} {fn:Func} (hf:Tryz.prog.funcs[f]?=some fn)
  {args:List AV} {S:List (Nat × SObj)} {A:Ans} {Q:Prop} (q:Q) (h:fwp (cf nn (fun _=>[]) nn nn nn s) a fn args S A=Q:=by kernel_rfl):aw prog f args S A:=Dw (C:=cf nn (fun _=>[]) nn nn nn s) mixed Ed hS hf q h
theorem sc {f:Nat} {g:Pat} {l:List (Nat × Pat)} (h:ag prog f g) (hl:bH prog (fH l)):bH prog (fH ((f,g) ::l)):=pD h hl
theorem sn:bH prog (fH []):=rE
theorem ee {f:Nat} {fn:Func} (h:Tryz.prog.funcs[f]?=some fn) (e:(fn.body.isNone || (fn.name == "runtime.NumGoroutine"))=false:=by kernel_rfl):an prog f:=an.mk' h e
theorem Eh:ag prog 264 (sY 284):=
 xN (ee func264) fun c hc=>g0 sn a0 func264 (Ga c hc)
theorem Av:an prog 263:=ee func263
theorem yy (n:Nat) (s:AL.Shape) (l c:Int) (hs:Wf (.st .shape) s) (hn:sz s<=n+1) (hc:0<=c/\c<=400/\1<=l/\l<=c+1) (hA:ag prog 263 (ox 284 264 n)):aw prog 263 [.st .shape s,.int .i64 l,.fn 264 [.ptr 900 0]] [(900,.box (.int .i64 c))] (DA 284 s l c (sz s<=n+1)):=
 g0 (sc Eh (sc (hA) sn)) ⟨[(4,fun S0=>⟨Nat × Int,fun x=>x.1<=s.parts.length/\c+1+(szL (s.parts.take x.1):Int)<=400/\deepL (s.parts.drop x.1) (l+1) x.2=deepS s l,fun x=>[(7,.int .i64 x.2),(16,.int .i64 x.1)],fun x=>[(900,.box (.int .i64 (c+1+(szL (s.parts.take x.1):Int))))],fun x=>s.parts.length - x.1⟩)],[],[]⟩ func263 (Gb n s l c hs hn hc)
theorem Ei:∀n:Nat,ag prog 263 (ox 284 264 n):=by
 intro n
 induction n with
 | zero=>exact pF Av fun s l c hs hn hc=>absurd hn (by have:=dP s;omega)
 | succ n ih=>exact pF Av fun s l c hs hn hc=>yy n s l c hs hn hc ih
theorem vv (s:AL.Shape) (hs:Wf (.st .shape) s) :aw prog 190 [.st .shape s] [] (.ret (.tup [.int .i64 (if sz s<=400 then (sz s:Int) else 401),.int .i64 (if sz s<=400 then deepS s 1 else 0),.bool (decide (sz s<=400))])):=
 fwpR_sound (C:=⟨tbl,_,fun _=>false,fun _=>[],fun _=>false,fun _=>false,fun _=>false⟩) (ann:=⟨[],[],[]⟩) (annC:=⟨[],[],[]⟩) mixed Ed (pD (Ei (sz s)) (rE)) func190 func262 (enters_of func262 (by kernel_rfl) rfl) (@Eq.mpr _ _ (by kernel_rfl) (Eg s hs))
theorem BQ:ag prog 190 (p1 (.st .shape) fun s=>.ret (.tup [.int .i64 (if sz s<=400 then (sz s:Int) else 401),.int .i64 (if sz s<=400 then deepS s 1 else 0),.bool (decide (sz s<=400))])):=
 ax (ee func190) fun s hs _=>vv s hs
end Go.AL.Seat
end
noncomputable section
namespace Go.AL.Seat
open Go Go.AL Go.Proofs
variable [Tabs]
def Ej:List (Nat × TR):=[(3,r2),(9,r9),(29,⟨.strct true [(0,27),(1,3)],2,16,[.int .i64 0,.int .i64 0],some (.st .fault)⟩),(26,⟨.strct false [(0,9),(1,22),(2,23),(3,24),(4,3)],5,96,[.str [],.nils,.nils,.nils,.int .i64 0],some (.st .modu)⟩),(27,r2),(24,⟨.slice 9,1,24,[.nils],some (.lst .str)⟩),(22,⟨.slice 91,1,24,[.nils],some (.lst (.st .imp))⟩),(23,⟨.slice 48,1,24,[.nils],some (.lst (.st .decl))⟩),(46,⟨.strct false [(0,3),(1,9),(2,9),(3,24),(4,41)],5,88,[.int .i64 0,.str [],.str [],.nils,.nils],some (.st .shape)⟩),(44,⟨.strct false [(0,3),(1,9),(2,9),(3,3),(4,24),(5,24),(6,41),(7,42),(8,3)],9,152,[.int .i64 0,.str [],.str [],.int .i64 0,.nils,.nils,.nils,.nils,.int .i64 0],some (.st .term)⟩),(41,⟨.slice 46,1,24,[.nils],some (.lst (.st .shape))⟩),(88,⟨.strct true [(0,3),(1,3),(2,3),(3,9)],4,40,[.int .i64 0,.int .i64 0,.int .i64 0,.str []],some (.st .version)⟩),(48,⟨.strct false [(0,3),(1,9),(2,46),(7,44),(16,3)],17,272,[.int .i64 0,.str [],.int .i64 0,.str [],.str [],.nils,.nils,.int .i64 0,.str [],.str [],.int .i64 0,.nils,.nils,.nils,.nils,.int .i64 0,.int .i64 0],some (.st .decl)⟩),(47,⟨.strct false [(0,3),(1,9),(2,46),(7,44),(16,3)],17,272,[.int .i64 0,.str [],.int .i64 0,.str [],.str [],.nils,.nils,.int .i64 0,.str [],.str [],.int .i64 0,.nils,.nils,.nils,.nils,.int .i64 0,.int .i64 0],none⟩),(43,⟨.strct false [(0,3),(1,9),(2,9),(3,3),(4,24),(5,24),(6,41),(7,42),(8,3)],9,152,[.int .i64 0,.str [],.str [],.int .i64 0,.nils,.nils,.nils,.nils,.int .i64 0],none⟩),(42,⟨.slice 44,1,24,[.nils],some (.lst (.st .term))⟩),(45,⟨.strct false [(0,3),(1,9),(2,9),(3,24),(4,41)],5,88,[.int .i64 0,.str [],.str [],.nils,.nils],none⟩),(91,⟨.strct false [(0,9),(1,88),(5,89),(6,3)],7,88,[.str [],.int .i64 0,.int .i64 0,.int .i64 0,.str [],.nils,.int .i64 0],some (.st .imp)⟩),(90,⟨.strct false [(0,9),(1,88),(5,89),(6,3)],7,88,[.str [],.int .i64 0,.int .i64 0,.int .i64 0,.str [],.nils,.int .i64 0],none⟩),(89,⟨.slice 102,1,24,[.nils],some (.lst (.st .bound))⟩),(102,⟨.strct true [(0,3),(1,88)],5,48,[.int .i64 0,.int .i64 0,.int .i64 0,.int .i64 0,.str []],some (.st .bound)⟩),(101,⟨.strct true [(0,3),(1,88)],5,48,[.int .i64 0,.int .i64 0,.int .i64 0,.int .i64 0,.str []],none⟩),(87,⟨.strct true [(0,3),(1,3),(2,3),(3,9)],4,40,[.int .i64 0,.int .i64 0,.int .i64 0,.str []],none⟩),(28,⟨.strct true [(0,27),(1,3)],2,16,[.int .i64 0,.int .i64 0],none⟩),(25,⟨.strct false [(0,9),(1,22),(2,23),(3,24),(4,3)],5,96,[.str [],.nils,.nils,.nils,.int .i64 0],none⟩)]
theorem Ek:aT Tryz.prog Ej:=.cons tk (.cons tk (.cons tk (.cons tk (.cons tk (.cons tk (.cons tk (.cons tk (.cons tk (.cons tk (.cons tk (.cons tk (.cons tk (.cons tk (.cons tk (.cons tk (.cons tk (.cons tk (.cons tk (.cons tk (.cons tk (.cons tk (.cons tk (.cons tk (.cons tk (.nil)))))))))))))))))))))))))
end Go.AL.Seat
end
noncomputable section
namespace Go.AL
def evN {α:Type} (n:Nat) (k:Nat→α):α:=match n with | 0=>k 0 | m+1=>k (m+1)
def evI {α:Type} (n:Int) (k:Int→α):α:=match n with | .ofNat m=>evN m fun m=>k (.ofNat m) | .negSucc m=>evN m fun m=>k (.negSucc m)
def evL {α β:Type}:List β→(List β→α)→α
 | [],k=>k []
 | a ::r,k=>evL r fun r=>k (a ::r)
theorem eH {α:Type} (n:Nat) (k:Nat→α):evN n k=k n:=by cases n <;> rfl
theorem yz {α:Type} (n:Int) (k:Int→α):evI n k=k n:=by
 cases n <;> (unfold evI;exact eH _ _)
theorem dR {α β:Type}:∀(l:List β) (k:List β→α),evL l k=k l
 | [],_=>rfl
 | a ::r,k=>by rw [evL,dR r]
mutual
def evV {α:Type}:AV→(AV→α)→α
 | .int κ n,k=>evI n fun n=>k (.int κ n)
 | .bool true,k=>k (.bool true)
 | .bool false,k=>k (.bool false)
 | .str s,k=>evL s fun s=>k (.str s)
 | .lst τ xs none,k=>evL xs fun xs=>k (.lst τ xs none)
 | .lst τ xs (some i),k=>evL xs fun xs=>k (.lst τ xs (some i))
 | .row τ xs,k=>evL xs fun xs=>k (.row τ xs)
 | .arr i n w,k=>evN n fun n=>k (.arr i n w)
 | .aptr i n w o,k=>evN n fun n=>evN o fun o=>k (.aptr i n w o)
 | .cptr c,k=>evV c fun c=>k (.cptr c)
 | .agg cs,k=>evVs cs fun cs=>k (.agg cs)
 | .tup cs,k=>evVs cs fun cs=>k (.tup cs)
 | .fn f cs,k=>evVs cs fun cs=>k (.fn f cs)
 | .iface t a,k=>evV a fun a=>k (.iface t a)
 | .lstp τ xs i,k=>evL xs fun xs=>k (.lstp τ xs i)
 | .undef,k=>k .undef
 | .nils,k=>k .nils
 | .ptr i o,k=>k (.ptr i o)
 | .nilp,k=>k .nilp
 | .st n x,k=>k (.st n x)
 | .map i,k=>k (.map i)
 | .bptr i,k=>k (.bptr i)
 | .nilif,k=>k .nilif
 | .nilm,k=>k .nilm
 | .pt n x,k=>k (.pt n x)
 | .tptr τ n i,k=>k (.tptr τ n i)
def evVs {α:Type}:List AV→(List AV→α)→α
 | [],k=>k []
 | a ::r,k=>evV a fun a=>evVs r fun r=>k (a ::r)
end
mutual
theorem evV_eq {α:Type}:∀(a:AV) (k:AV→α),evV a k=k a
 | .int κ n,k=>by rw [evV,yz]
 | .bool true,k=>rfl
 | .bool false,k=>rfl
 | .str s,k=>by rw [evV,dR]
 | .lst τ xs none,k=>by rw [evV,dR]
 | .lst τ xs (some i),k=>by rw [evV,dR]
 | .row τ xs,k=>by rw [evV,dR]
 | .arr i n w,k=>by rw [evV,eH]
 | .aptr i n w o,k=>by rw [evV,eH,eH]
 | .cptr c,k=>by rw [evV,evV_eq c]
 | .agg cs,k=>by rw [evV,evVs_eq cs]
 | .tup cs,k=>by rw [evV,evVs_eq cs]
 | .fn f cs,k=>by rw [evV,evVs_eq cs]
 | .iface t a,k=>by rw [evV,evV_eq a]
 | .lstp τ xs i,k=>by rw [evV,dR]
 | .undef,k=>rfl
 | .nils,k=>rfl
 | .ptr _ _,k=>rfl
 | .nilp,k=>rfl
 | .st _ _,k=>rfl
 | .map _,k=>rfl
 | .bptr _,k=>rfl
 | .nilif,k=>rfl
 | .nilm,k=>rfl
 | .pt _ _,k=>rfl
 | .tptr _ _ _,k=>rfl
theorem evVs_eq {α:Type}:∀(l:List AV) (k:List AV→α),evVs l k=k l
 | [],k=>rfl
 | a ::r,k=>by rw [evVs,evV_eq a,evVs_eq r]
end
def evA {α:Type} (a:AV) (k:AV→α):α:=
 match a with
 | .int κ n=>evI n fun n=>k (.int κ n)
 | .bool b=>(match b with | true=>k (.bool true) | false=>k (.bool false))
 | .str s=>evL s fun s=>k (.str s)
 | .lst τ xs o=>evL xs fun xs=>(match o with | none=>k (.lst τ xs none) | some i=>k (.lst τ xs (some i)))
 | .row τ xs=>evL xs fun xs=>k (.row τ xs)
 | .arr i n w=>evN n fun n=>k (.arr i n w)
 | .aptr i n w o=>evN n fun n=>evN o fun o=>k (.aptr i n w o)
 | .ptr i o=>evN o fun o=>k (.ptr i o)
 | .cptr c=>evV c fun c=>k (.cptr c)
 | .agg cs=>evVs cs fun cs=>k (.agg cs)
 | .tup cs=>evVs cs fun cs=>k (.tup cs)
 | .fn f cs=>evVs cs fun cs=>k (.fn f cs)
 | .iface t a=>evV a fun a=>k (.iface t a)
 | .lstp τ xs i=>evL xs fun xs=>k (.lstp τ xs i)
 | a=>k a
theorem Hf {α:Type} (a:AV) (k:AV→α):evA a k=k a:=by
 unfold evA
 split
 ·exact yz _ _
 ·split <;> rfl
 ·exact dR _ _
 ·rw [dR];split <;> rfl
 ·exact dR _ _
 ·exact eH _ _
 ·rw [eH,eH]
 ·exact eH _ _
 ·exact evV_eq _ _
 ·exact evVs_eq _ _
 ·exact evVs_eq _ _
 ·exact evVs_eq _ _
 ·exact evV_eq _ _
 ·exact dR _ _
 ·rfl
mutual
def evW {α:Type}:AV→(AV→α)→α
 | .int κ n,k=>evI n fun n=>k (.int κ n)
 | .bool true,k=>k (.bool true)
 | .bool false,k=>k (.bool false)
 | .lst τ xs none,k=>k (.lst τ xs none)
 | .lst τ xs (some i),k=>k (.lst τ xs (some i))
 | .row τ xs,k=>evL xs fun xs=>k (.row τ xs)
 | .arr i n w,k=>evN n fun n=>k (.arr i n w)
 | .aptr i n w o,k=>evN n fun n=>evN o fun o=>k (.aptr i n w o)
 | .cptr c,k=>evW c fun c=>k (.cptr c)
 | .agg cs,k=>evWs cs fun cs=>k (.agg cs)
 | .tup cs,k=>evWs cs fun cs=>k (.tup cs)
 | .fn f cs,k=>evWs cs fun cs=>k (.fn f cs)
 | .iface t a,k=>evW a fun a=>k (.iface t a)
 | .lstp τ xs i,k=>evL xs fun xs=>k (.lstp τ xs i)
 | .str s,k=>k (.str s)
 | .undef,k=>k .undef
 | .nils,k=>k .nils
 | .ptr i o,k=>evN o fun o=>k (.ptr i o)
 | .nilp,k=>k .nilp
 | .st n x,k=>k (.st n x)
 | .map i,k=>k (.map i)
 | .bptr i,k=>k (.bptr i)
 | .nilif,k=>k .nilif
 | .nilm,k=>k .nilm
 | .pt n x,k=>k (.pt n x)
 | .tptr τ n i,k=>k (.tptr τ n i)
def evWs {α:Type}:List AV→(List AV→α)→α
 | [],k=>k []
 | a ::r,k=>evW a fun a=>evWs r fun r=>k (a ::r)
end
mutual
theorem evW_eq {α:Type}:∀(a:AV) (k:AV→α),evW a k=k a
 | .int κ n,k=>by rw [evW,yz]
 | .bool true,k=>rfl
 | .bool false,k=>rfl
 | .str s,k=>rfl
 | .lst τ xs none,k=>rfl
 | .lst τ xs (some i),k=>rfl
 | .row τ xs,k=>by rw [evW,dR]
 | .arr i n w,k=>by rw [evW,eH]
 | .aptr i n w o,k=>by rw [evW,eH,eH]
 | .cptr c,k=>by rw [evW,evW_eq c]
 | .agg cs,k=>by rw [evW,evWs_eq cs]
 | .tup cs,k=>by rw [evW,evWs_eq cs]
 | .fn f cs,k=>by rw [evW,evWs_eq cs]
 | .iface t a,k=>by rw [evW,evW_eq a]
 | .lstp τ xs i,k=>by rw [evW,dR]
 | .undef,k=>rfl
 | .nils,k=>rfl
 | .ptr _ o,k=>by rw [evW,eH]
 | .nilp,k=>rfl
 | .st _ _,k=>rfl
 | .map _,k=>rfl
 | .bptr _,k=>rfl
 | .nilif,k=>rfl
 | .nilm,k=>rfl
 | .pt _ _,k=>rfl
 | .tptr _ _ _,k=>rfl
theorem evWs_eq {α:Type}:∀(l:List AV) (k:List AV→α),evWs l k=k l
 | [],k=>rfl
 | a ::r,k=>by rw [evWs,evW_eq a,evWs_eq r]
end
def Gc:Op→Bool
 | .load _ _=>true
 | .move _=>true
 | _=>false
def evQ {α:Type} (o:Oper) (a:AV) (k:AV→α):α:=match Gc o.op with | true=>evW a k | false=>evA a k
theorem Hg {α:Type} (o:Oper) (a:AV) (k:AV→α):evQ o a k=k a:=by
 unfold evQ
 split
 ·exact evW_eq _ _
 ·exact Hf _ _
def evO {α:Type}:SObj→(SObj→α)→α
 | .box c,k=>evW c fun c=>k (.box c)
 | .tail τ n,k=>evN n fun n=>k (.tail τ n)
 | .map κ τ m,k=>evL m fun m=>k (.map κ τ m)
 | .bld t u l,k=>evL l fun l=>k (.bld t u l)
 | .tailp τ n x,k=>evN n fun n=>k (.tailp τ n x)
theorem Hh {α:Type} (o:SObj) (k:SObj→α):evO o k=k o:=by
 cases o with
 | box c=>exact evW_eq _ _
 | tail τ n=>unfold evO;exact eH _ _
 | map κ τ m=>exact dR _ _
 | bld t u l=>exact dR _ _
 | tailp τ n x=>unfold evO;exact eH _ _
def evB {α:Type}:List (Nat × SObj)→(List (Nat × SObj)→α)→α
 | [],k=>k []
 | (i,o) ::r,k=>evO o fun o=>evB r fun r=>k ((i,o) ::r)
theorem tn {α:Type}:∀(l:List (Nat × SObj)) (k:List (Nat × SObj)→α),evB l k=k l
 | [],k=>rfl
 | (i,o) ::r,k=>by rw [evB,Hh,tn r]
def evS {α:Type} (s:St) (k:St→α):α:=evL s.t fun t=>evB s.b fun b=>k ⟨t,b⟩
theorem El {α:Type} (s:St) (k:St→α):evS s k=k s:=by rw [evS,dR,tn]
theorem BR {ob:Option DP} {q:Prop} (h:okO ob=true) (hq:q):rl ob q:=by
 cases ob with
 | none=>exact hq
 | some d=>exact ⟨d.h h,hq⟩
def Aw {α:Sort _} (ops:List Oper) (o:Oper) (T:Nat→AV) (bad:α) (on off:Unit→α):α:=
 match o.guard with
 | none=>on ()
 | some (j,want)=>
  match (nth ops j).bind (·.dst) with
  | none=>bad
  | some d=>
   match T d with
   | .bool true=>if want then on () else off ()
   | .bool false=>if want then off () else on ()
   | .tup []=>off ()
   | _=>bad
theorem yA {α:Type} {ops:List Oper} {o:Oper} {T:Nat→AV} {y:α} {on off:Unit→Option α} {on' off':Unit→Prop} (hon:on ()=some y→on' ()) (hoff:off ()=some y→off' ())
  (h:Aw ops o T none on off=some y):Aw ops o T False on' off':=by
 unfold Aw at h ⊢
 cases hg:o.guard with
 | none=>simp only [hg] at h ⊢;exact hon h
 | some p=>
  obtain ⟨j,want⟩:=p
  simp only [hg] at h ⊢
  cases hd:(nth ops j).bind (·.dst) with
  | none=>simp only [hd] at h;cases h
  | some d=>
   simp only [hd] at h ⊢
   generalize T d=v at h ⊢
   split at h
   ·split at h
    ·rename_i hw;exact (if_pos hw).symm ▸ hon h
    ·rename_i hw;exact (if_neg hw).symm ▸ hoff h
   ·split at h
    ·rename_i hw;exact (if_pos hw).symm ▸ hoff h
    ·rename_i hw;exact (if_neg hw).symm ▸ hon h
   ·exact hoff h
   ·cases h
def gdB (ops:List Oper) (g:Bool) (i:Nat):Bool:=match g with | true=>fg ops i | false=>false
def Em (ops:List Oper):Bool:=ops.any fun o=>o.guard.isSome
theorem Hi (ops:List Oper) (i:Nat):gdB ops (Em ops) i=fg ops i:=by
 unfold gdB
 cases h:Em ops with
 | true=>rfl
 | false=>
  show false=fg ops i
  symm
  unfold Em at h
  rw [List.any_eq_false] at h
  unfold fg
  rw [List.any_eq_false]
  intro o ho
  have:=h o ho
  cases hg:o.guard with
  | none=>simp
  | some x=>rw [hg] at this;exact absurd rfl this
def vw (C:Cfg) (ops:List Oper) (g:Bool):List Oper→Nat→St→List cM→Option (St × List cM)
 | [],_,s,fs=>some (s,fs.reverse)
 | o ::r,i,s,fs=>
  Aw ops o (aS s.t) none
   (fun _=>
    match au C o (aS s.t) (ak s.b) with
    | none=>none
    | some e=>
     match okO e.ob,cP C o (aS s.t) (ak s.b) with
     | true,none=>
      (match gdB ops g i,e.val with
      | true,.bool b=>(match b with
       | true=>vw C ops g r (i+1) ⟨nU s.t o.dst (.bool true),bU s.b e.upd⟩ ((aN C o (aS s.t) (ak s.b),e.upd.map (·.1)) ::fs)
       | false=>vw C ops g r (i+1) ⟨nU s.t o.dst (.bool false),bU s.b e.upd⟩ ((aN C o (aS s.t) (ak s.b),e.upd.map (·.1)) ::fs))
      | true,_=>none
      | false,v=>evQ o v fun v=>vw C ops g r (i+1) ⟨nU s.t o.dst v,bU s.b e.upd⟩ ((aN C o (aS s.t) (ak s.b),e.upd.map (·.1)) ::fs))
     | _,_=>none)
   (fun _=>vw C ops g r (i+1) ⟨nU s.t o.dst (.tup []),s.b⟩ (([],[]) ::fs))
theorem Ax {C:Cfg} {ops:List Oper} {draw:Bool} {kp:AV→St→Prop} {k:St→List cM→Prop} {s':St} {fs':List cM} (hk:k s' fs') :
  ∀(l:List Oper) (i:Nat) (s:St) (fs:List cM),vw C ops (Em ops) l i s fs=some (s',fs')→bC C ops draw kp l i s fs k
 | [],_,s,fs,h=>by
  simp only [vw,Xs,Prod.mk.injEq] at h
  obtain ⟨rfl,rfl⟩:=h
  exact hk
 | o ::r,i,s,fs,h=>by
  have ih:=Ax (C:=C) (ops:=ops) (draw:=draw) (kp:=kp) hk r
  rw [vw,Hi] at h
  refine yA (on':=fun _=>
   match au C o (aS s.t) (ak s.b) with
   | none=>False
   | some e=>
    rl e.ob
    (match cP C o (aS s.t) (ak s.b) with
    | none=>
     (match fg ops i,e.val with
     | true,.bool b=>
      sp b (bC C ops draw kp r (i+1) (s.put o.dst {e with val:=.bool true}) ((aN C o (aS s.t) (ak s.b),e.upd.map (·.1)) ::fs) k)
       (bC C ops draw kp r (i+1) (s.put o.dst {e with val:=.bool false}) ((aN C o (aS s.t) (ak s.b),e.upd.map (·.1)) ::fs) k)
     | true,_=>False
     | false,_=>bC C ops draw kp r (i+1) (s.put o.dst e) ((aN C o (aS s.t) (ak s.b),e.upd.map (·.1)) ::fs) k)
    | some (b,pv,u)=>
     (match draw || fg ops i with
     | true=>False
     | false=>sp b (kp pv ⟨s.t,bU s.b u⟩) (bC C ops draw kp r (i+1) (s.put o.dst e) ((aN C o (aS s.t) (ak s.b),e.upd.map (·.1)) ::fs) k))))
   (off':=fun _=>bC C ops draw kp r (i+1) ⟨nU s.t o.dst (.tup []),s.b⟩ (([],[]) ::fs) k) ?_ (fun h=>ih _ _ _ h) h
  intro h
  split at h
  ·cases h
  ·rename_i e he
   split at h
   ·rename_i ho hp
    refine BR ho ?_
    try simp only [hp]
    split at h
    ·rename_i b hg hv
     try simp only [hg,hv]
     split at h
     ·exact ih _ _ _ h
     ·exact ih _ _ _ h
    ·cases h
    ·rename_i v hg
     simp only [Hg] at h
     try simp only [hg]
     exact ih _ _ _ h
   ·cases h
def Gd (ops:List Oper) (i j:Nat):Bool:=((sj ops).getD j 0).testBit i
def kL:Nat→List cM→List (Nat × cM)
 | _,[]=>[]
 | i,f ::r=>match f with | ([],[])=>kL (i+1) r | f=>(i,f) ::kL (i+1) r
def mU (ops:List Oper):List (Nat × cM)→Bool
 | []=>true
 | x ::r=>r.all (fun p=>Gd ops x.1 p.1 || gh x.2 p.2) && mU ops r
def Ay (ops:List Oper):Bool:=
 ((List.range ops.length).all fun j=>(List.range j).all fun i=>Gd ops i j || (match nth ops i,nth ops j with | some x,some y=>oN ops x y | _,_=>false)) &&
 (ops.zipIdx.all fun (o,j)=>o.after.all fun e=>!Region.binds .any e || Nat.blt e.on j)
def yB (ops:List Oper) (fs:List cM):Bool:=Ay ops && eo fs ops.length && mU ops (kL 0 fs)
theorem qc {α:Type}:∀{l:List α} {i:Nat},i < l.length→∃x,nth l i=some x
 | a ::_,0,_=>⟨a,rfl⟩
 | _ ::r,i+1,h=>qc (l:=r) (Nat.lt_of_succ_lt_succ h)
theorem rM:∀{fs:List cM} {i0 k:Nat} {f:cM},nth fs k=some f→f≠([],[])→(i0+k,f)∈kL i0 fs
 | g ::r,i0,0,f,h,hf=>by
  cases h
  unfold kL
  split
  ·exact absurd rfl hf
  ·exact List.mem_cons_self ..
 | g ::r,i0,k+1,f,h,hf=>by
  have ih:=rM (fs:=r) (i0:=i0+1) (k:=k) h hf
  rw [show i0+(k+1)=i0+1+k by omega]
  unfold kL
  split
  ·exact ih
  ·exact List.mem_cons_of_mem _ ih
theorem nK {ops:List Oper}:∀{fs:List cM} {i0 a b:Nat} {f g:cM},mU ops (kL i0 fs)=true→a < b→nth fs a=some f→nth fs b=some g→f≠([],[])→g≠([],[])→(Gd ops (i0+a) (i0+b) || gh f g)=true
 | x ::r,i0,0,b+1,f,g,h,_,hf,hg,h1,h2=>by
  cases hf
  have hm:=rM (fs:=r) (i0:=i0+1) (k:=b) hg h2
  unfold kL at h
  split at h
  ·exact absurd rfl h1
  ·unfold mU at h
   rw [Bool.and_eq_true,List.all_eq_true] at h
   have:=h.1 _ hm
   rwa [show i0+1+b=i0+(b+1) by omega] at this
 | x ::r,i0,a+1,b+1,f,g,h,hab,hf,hg,h1,h2=>by
  have hr:mU ops (kL (i0+1) r)=true:=by
   unfold kL at h
   split at h
   ·exact h
   ·unfold mU at h
    rw [Bool.and_eq_true] at h
    exact h.2
  have:=nK (fs:=r) (i0:=i0+1) (a:=a) (b:=b) hr (by omega) hf hg h1 h2
  rwa [show i0+1+a=i0+(a+1) by omega,show i0+1+b=i0+(b+1) by omega] at this
theorem yC (g:cM):gh ([],[]) g=true:=by
 unfold gh tQ
 simp
theorem vz (f:cM):gh f ([],[])=true:=by
 unfold gh tQ
 simp
theorem me {α:Type}:∀{l:List α} {n:Nat},eo l n=true→l.length=n
 | [],0,_=>rfl
 | _ ::r,n+1,h=>by rw [List.length_cons,me (l:=r) h]
theorem BS {ops:List Oper} {fs:List cM} (h:yB ops fs=true):dD ops fs=true:=by
 unfold yB Ay at h
 simp only [Bool.and_eq_true,List.all_eq_true,List.mem_range] at h
 obtain ⟨⟨⟨h1,h2⟩,h3⟩,h4⟩:=h
 have hl:=me h3
 unfold dD
 rw [Bool.and_eq_true]
 refine ⟨?_,by rw [List.all_eq_true];intro p hp;have:=h2 p hp;exact (by obtain ⟨o,j⟩:=p;simpa using this)⟩
 rw [List.all_eq_true]
 intro j hj
 rw [List.all_eq_true]
 intro i hi
 rw [List.mem_range] at hj hi
 have k:=h1 j hj i hi
 rw [Bool.or_eq_true] at k ⊢
 rcases k with k | k
 ·exact .inl k
 obtain ⟨x,hx⟩:=qc (l:=ops) (i:=i) (by omega)
 obtain ⟨y,hy⟩:=qc (l:=ops) (i:=j) hj
 obtain ⟨f,hf⟩:=qc (l:=fs) (i:=i) (by omega)
 obtain ⟨g,hg⟩:=qc (l:=fs) (i:=j) (by omega)
 rw [hx,hy] at k
 rw [hx,hy,hf,hg]
 have q:Gd ops i j=true∨gh f g=true:=by
  by_cases c1:f=([],[])
  ·rw [c1];exact .inr (yC g)
  ·by_cases c2:g=([],[])
   ·rw [c2];exact .inr (vz f)
   ·have:=nK h4 hi hf hg c1 c2
    rw [Nat.zero_add,Nat.zero_add,Bool.or_eq_true] at this
    exact this
 rcases q with q | q
 ·exact .inl q
 ·exact .inr (by rw [Bool.and_eq_true];exact ⟨k,q⟩)
end Go.AL
end
noncomputable section
namespace Go.AL
variable [Tabs]
def En:List (Nat × SObj)→Nat→Nat
 | [],m=>m *1000+998
 | (i,_) ::r,m=>En r (match Nat.ble m (i / 1000) with | true=>i / 1000+1 | false=>m)
def tp:List Nat→St→Option St
 | [],s=>some s
 | i ::r,s=>(match Fu i (En s.b 100) s with | some s=>tp r s | none=>none)
theorem mf {F:Fr} {a:Act}:∀(l:List Nat) {s s':St} {Ω:Om},Holds F s.abs a Ω→tp l s=some s'→∃Ω',Ω'.w=Ω.w/\Holds F s'.abs a Ω'
 | [],s,s',Ω,h,hr=>by cases hr;exact ⟨Ω,rfl,h⟩
 | i ::r,s,s',Ω,h,hr=>by
  unfold tp at hr
  split at hr
  ·rename_i s1 h1
   obtain ⟨Ω1,e1,g1⟩:=pC h h1
   obtain ⟨Ω2,e2,g2⟩:=mf r g1 hr
   exact ⟨Ω2,e2.trans e1,g2⟩
  ·cases hr
def yD (ops:List Oper) (s:St):Option St:=
 match enter ops s with
 | some s'=>some s'
 | none=>(match tp ((s.b.map (·.1)).filter fun i=>A7 (oP ops) (sk ops) i && !bp i) s with | some s'=>enter ops s' | none=>none)
theorem tq {F:Fr} {ops:List Oper} {s s':St} {a:Act} {Ω:Om} (h:Holds F s.abs a Ω) (he:yD ops s=some s'):∃Ω',Ω'.w=Ω.w/\Holds F s'.abs a Ω':=by
 unfold yD at he
 split at he
 ·rename_i s1 h1;cases he;exact jz h h1
 ·split at he
  ·rename_i s1 h1
   obtain ⟨Ω1,e1,g1⟩:=mf _ h h1
   obtain ⟨Ω2,e2,g2⟩:=jz g1 he
   exact ⟨Ω2,e2.trans e1,g2⟩
  ·cases he
end Go.AL
end
noncomputable section
namespace Go.AL
def Eo (k:Nat) (s:St):Option St:=
 match ak s.b k with
 | some (.tailp τ n x)=>
  if ((s.t.flatMap (fun y=>lensV k y.2)++s.b.flatMap (fun y=>Gx k y.2)).all fun m=>Nat.beq m n)=true then
   some ⟨s.t.map fun y=>(y.1,finV k τ x y.2),(nR s.b k (.tail τ (n+1))).map fun y=>(y.1,AQ k τ x y.2)⟩ else none
 | _=>some s
def Az:List Nat→St→Option St
 | [],s=>some s
 | k ::r,s=>(match Eo k s with | some s=>Az r s | none=>none)
theorem rN {n:Nat} {q:Prop} (hq:q):∀l:List Nat,(l.all fun m=>Nat.beq m n)=true→so n l q
 | [],_=>hq
 | m ::r,h=>by
  rw [List.all_cons,Bool.and_eq_true] at h
  exact ⟨Nat.eq_of_beq_eq_true h.1,rN hq r h.2⟩
theorem Ep {k:Nat} {s s':St} {Q:St→Prop} (h:Eo k s=some s') (hq:Q s'):xf k s Q:=by
 unfold Eo at h
 unfold xf
 generalize hb:ak s.b k=b at h ⊢
 cases b with
 | none=>cases h;exact hq
 | some o=>
  cases o with
  | tailp τ n x=>
   dsimp only at h ⊢
   split at h
   ·rename_i ha
    cases h
    exact rN hq _ ha
   ·cases h
  | _=>cases h;exact hq
theorem vA {Q:St→Prop} {s':St} (hq:Q s'):∀(l:List Nat) (s:St),Az l s=some s'→xg l s Q
 | [],s,h=>by cases h;exact hq
 | k ::r,s,h=>by
  unfold Az at h
  split at h
  ·rename_i s1 h1
   exact Ep h1 (vA hq r s1 h)
  ·cases h
def trimM (keep:Nat) (s:St):St:=⟨s.t.filter fun x=>Nat.beq (Nat.land (Nat.shiftRight keep x.1) 1) 1,s.b⟩
def Hj (C:Cfg) (keep:Nat) (ops:Array Oper) (draw:Bool) (s:St):Option St:=
 match vw C ops.toList (Em ops.toList) ops.toList 0 s [] with
 | none=>none
 | some (s,fs)=>
  match Az (oi s.b) s with
  | none=>none
  | some s=>
   match draw with
   | false=>evS (trimM keep s) some
   | true=>(match yB ops.toList fs with | true=>evS (trimM keep s) some | false=>none)
theorem Holds.trimM [Tabs] {F:Fr} {s:St} {a:Act} {Ω:Om} (h:Holds F s.abs a Ω) (keep:Nat):Holds F (trimM keep s).abs a Ω:=by
 refine ⟨fun i=>?_,h.size,h.defers,h.slots,h.dom,h.inj,h.pubok,h.keep,h.frame⟩
 have e:(AL.trimM keep s).abs.T i=if Nat.beq (Nat.land (Nat.shiftRight keep i) 1) 1=true then aS s.t i else .undef:=gJ s.t (fun i=>Nat.beq (Nat.land (Nat.shiftRight keep i) 1) 1) i
 rw [e]
 split
 ·exact h.tmps i
 ·exact .undef _
theorem yE [Tabs] {P:Program} {C:Cfg} {F:Fr} (hm:P.follows .mixedOrders=true) (hT:aT P C.tbl) (hS:bH P C.spec) {keep:Nat} {id:Nat} {ops:Array Oper} {draw:Bool} {s s':St} {a:Act} {Ω:Om}
  (hdst:∀(o:Oper),o∈ops.toList→∀d,o.dst=some d→d < F.n) (h:Hj C keep ops draw s=some s') (hh:Holds F s.abs a Ω):(Code.region id ops draw).wp P (QL F fun y t=>y=.normal/\t=s') a Ω.w:=by
 have key:bC C ops.toList draw (fun _ _=>False) ops.toList 0 s [] fun s2 fs=>GP s2 fun s3=>s'=trimM keep s3/\(draw=true→dD ops.toList fs=true):=by
  unfold Hj at h
  split at h
  ·cases h
  ·rename_i s1 fs h1
   refine Ax ?_ _ _ _ _ h1
   split at h
   ·cases h
   ·rename_i s2 h2
    refine vA ?_ _ _ h2
    split at h
    ·rw [El] at h
     cases h
     exact ⟨rfl,fun q=>by cases q⟩
    ·split at h
     ·rename_i hi
      rw [El] at h
      cases h
      exact ⟨rfl,fun _=>BS hi⟩
     ·cases h
 refine lL hm hT hS hdst key (fun hdr s2 fs hk=>let ⟨s3,h3⟩:=mJ _ hk;h3.2 hdr) hh (fun s2 fs a' Ω' hk h'=>
   let ⟨s3,Ω3,g1,g2,g3⟩:=pA h' hk
   ⟨.normal,trimM keep s3,Ω3,rfl,g1,g2.trimM keep,rfl,g3.1.symm⟩)
  (fun pv s2 a' Ω' v hk _ _=>hk.elim)
def AA (f:St→Option (SX × St)):Nat→St→Option (SX × St)
 | 0,_=>none
 | n+1,s=>
  match f s with
  | some (.normal,s')=>AA f n s'
  | r=>r
def iy (C:Cfg) (keep:Nat) (pubs:List (Nat × List Nat)) (N:Nat):Code→St→Option (SX × St)
 | .skip,s=>some (.normal,s)
 | .seq a b,s=>
  (match iy C keep pubs N a s with
  | some (.normal,s')=>iy C keep pubs N b s'
  | r=>r)
 | .cond c a b,s=>
  (match opd (aS s.t) c with
  | .bool true=>iy C keep pubs N a s
  | .bool false=>iy C keep pubs N b s
  | _=>none)
 | .block id c,s=>
  (match iy C keep pubs N c s with
  | some (.exit j,s')=>if j ==id then some (.normal,s') else some (.exit j,s')
  | r=>r)
 | .exit id,s=>some (.exit id,s)
 | .scope c,s=>iy C keep pubs N c s
 | .label _,s=>some (.normal,s)
 | .ret,s=>some (.ret,s)
 | .region id ops draw,s=>
  (match mu (tS pubs id) s with
  | none=>none
  | some s=>
   match yD ops.toList s with
   | none=>none
   | some s=>
    match Hj C keep ops draw s with
    | some s=>some (.normal,s)
    | none=>none)
 | .loop c,s=>AA (iy C keep pubs N c) N s
 | _,_=>none
variable [Tabs]
variable {P:Program} {C:Cfg} {F:Fr}
theorem yF (hm:P.follows .mixedOrders=true) (hT:aT P C.tbl) (hS:bH P C.spec) (keep:Nat) (pubs:List (Nat × List Nat)) (N:Nat) :
  ∀(c:Code) (s:St) (x:SX) (s':St) (a:Act) (Ω:Om),iy C keep pubs N c s=some (x,s')→bu F.n c=true→Holds F s.abs a Ω→c.wp P (QL F fun y t=>y=x/\t=s') a Ω.w:=by
 intro c
 induction c with
 | skip=>intro s x s' a Ω h _ hh;cases h;exact wp_skip ⟨.normal,s,Ω,rfl,rfl,hh,rfl,rfl⟩
 | region id ops draw=>
  intro s x s' a Ω h hd hh
  unfold iy at h
  split at h
  ·cases h
  ·rename_i s0 h0
   obtain ⟨Ω0,e0,g0⟩:=iU _ hh h0
   split at h
   ·cases h
   ·rename_i s1 h1
    obtain ⟨Ω1,e1,g1⟩:=tq g0 h1
    have hdst:∀(o:Oper),o∈ops.toList→∀d,o.dst=some d→d < F.n:=by
     intro o ho d hod
     simp only [bu,List.all_eq_true] at hd
     have:=hd o ho
     rw [hod] at this
     simpa using this
    split at h
    ·rename_i s2 h2
     cases h
     rw [←e0,←e1]
     exact yE hm hT hS hdst h2 g1
    ·cases h
 | seq x y ihx ihy=>
  intro s z s' a Ω h hd hh
  simp only [bu,Bool.and_eq_true] at hd
  unfold iy at h
  cases h1:iy C keep pubs N x s with
  | none=>rw [h1] at h;cases h
  | some r=>
   obtain ⟨e1,s1⟩:=r
   rw [h1] at h
   refine wp_seq (wp_mono (ihx s e1 s1 a Ω h1 hd.1 hh) ?_)
   intro e a' w' hq
   obtain ⟨e2,s2,Ω',g1,g2,g3,g4,g5⟩:=hq
   subst g2 g4 g5
   cases e2 with
   | normal=>cases g1;exact ihy _ z s' a' Ω' h hd.2 g3
   | exit id=>cases g1;cases h;exact ⟨.exit id,_,Ω',rfl,rfl,g3,rfl,rfl⟩
   | ret=>cases g1;cases h;exact ⟨.ret,_,Ω',rfl,rfl,g3,rfl,rfl⟩
   | pan pv=>obtain ⟨v,rfl,hv⟩:=g1;cases h;exact ⟨.pan pv,_,Ω',⟨v,rfl,hv⟩,rfl,g3,rfl,rfl⟩
 | cond c x y ihx ihy=>
  intro s z s' a Ω h hd hh
  simp only [bu,Bool.and_eq_true] at hd
  unfold iy at h
  have hv:=b5 hh c
  split at h
  ·rename_i hb
   have hb':opd s.abs.T c=.bool true:=hb
   rw [hb'] at hv
   exact wp_cond hv.bool_inv (ihx _ z s' a Ω h hd.1 hh)
  ·rename_i hb
   have hb':opd s.abs.T c=.bool false:=hb
   rw [hb'] at hv
   exact wp_cond hv.bool_inv (ihy _ z s' a Ω h hd.2 hh)
  ·cases h
 | block id c ih=>
  intro s z s' a Ω h hd hh
  simp only [bu] at hd
  unfold iy at h
  cases h1:iy C keep pubs N c s with
  | none=>rw [h1] at h;cases h
  | some r=>
   obtain ⟨e1,s1⟩:=r
   rw [h1] at h
   refine wp_block (wp_mono (ih s e1 s1 a Ω h1 hd hh) ?_)
   intro e a' w' hq
   obtain ⟨e2,s2,Ω',g1,g2,g3,g4,g5⟩:=hq
   subst g2 g4 g5
   cases e2 with
   | normal=>cases g1;cases h;exact ⟨.normal,_,Ω',rfl,rfl,g3,rfl,rfl⟩
   | ret=>cases g1;cases h;exact ⟨.ret,_,Ω',rfl,rfl,g3,rfl,rfl⟩
   | pan pv=>obtain ⟨v,rfl,hv⟩:=g1;cases h;exact ⟨.pan pv,_,Ω',⟨v,rfl,hv⟩,rfl,g3,rfl,rfl⟩
   | exit j=>
    cases g1
    simp only [xJ,Exit.inBlock]
    by_cases hj:j=id
    ·subst hj
     simp only [beq_self_eq_true,if_true] at h
     cases h
     simp only [if_true]
     exact ⟨.normal,_,Ω',rfl,rfl,g3,rfl,rfl⟩
    ·simp only [beq_iff_eq,hj,if_false] at h
     cases h
     rw [if_neg hj]
     exact ⟨.exit j,_,Ω',rfl,rfl,g3,rfl,rfl⟩
 | loop c ih=>
  intro s z s' a Ω h hd hh
  simp only [bu] at hd
  unfold iy at h
  refine wp_loop_rounds N ?_
  have key:∀(n:Nat) (s:St) (a:Act) (Ω:Om),AA (iy C keep pubs N c) n s=some (z,s')→Holds F s.abs a Ω→Code.rounds P c (QL F fun y t=>y=z/\t=s') n a Ω.w:=by
   intro n
   induction n with
   | zero=>intro s a Ω h _;cases h
   | succ n ihn=>
    intro s a Ω h hh
    rw [rounds_succ]
    unfold AA at h
    cases h1:iy C keep pubs N c s with
    | none=>rw [h1] at h;cases h
    | some r=>
     obtain ⟨e1,s1⟩:=r
     rw [h1] at h
     refine wp_mono (ih s e1 s1 a Ω h1 hd hh) ?_
     intro e a' w' hq
     obtain ⟨e2,s2,Ω',g1,g2,g3,g4,g5⟩:=hq
     subst g2 g4 g5
     cases e2 with
     | normal=>cases g1;exact ihn _ a' Ω' h g3
     | exit id=>cases g1;cases h;exact ⟨.exit id,_,Ω',rfl,rfl,g3,rfl,rfl⟩
     | ret=>cases g1;cases h;exact ⟨.ret,_,Ω',rfl,rfl,g3,rfl,rfl⟩
     | pan pv=>obtain ⟨v,rfl,hv⟩:=g1;cases h;exact ⟨.pan pv,_,Ω',⟨v,rfl,hv⟩,rfl,g3,rfl,rfl⟩
  exact key N s a Ω h hh
 | exit id=>intro s x s' a Ω h _ hh;cases h;exact wp_exit ⟨.exit id,s,Ω,rfl,rfl,hh,rfl,rfl⟩
 | ret=>intro s x s' a Ω h _ hh;cases h;exact wp_ret ⟨.ret,s,Ω,rfl,rfl,hh,rfl,rfl⟩
 | rangeFunc g ps x y _ _=>intro s z s' a Ω h;cases h
 | scope c ih=>
  intro s z s' a Ω h hd hh
  simp only [bu] at hd
  unfold iy at h
  refine wp_scope_straight (wp_mono (ih s z s' a Ω h hd hh) ?_)
  intro e a' w' hq
  obtain ⟨e2,s2,Ω',h1,h2,h3,h4⟩:=hq
  cases e2 with
  | normal=>cases h1;exact ⟨.normal,_,Ω',rfl,h2,h3,h4⟩
  | exit id=>cases h1;exact ⟨.exit id,_,Ω',rfl,h2,h3,h4⟩
  | ret=>cases h1;exact ⟨.ret,_,Ω',rfl,h2,h3,h4⟩
  | pan pv=>obtain ⟨v,rfl,hv⟩:=h1;exact ⟨.pan pv,_,Ω',⟨v,rfl,hv⟩,h2,h3,h4⟩
 | label l=>intro s x s' a Ω h _ hh;cases h;exact wp_label ⟨.normal,s,Ω,rfl,rfl,hh,rfl,rfl⟩
 | goto l=>intro s z s' a Ω h;cases h
 | refuse why=>intro s z s' a Ω h;cases h
end Go.AL
end
noncomputable section
namespace Go.AL
variable [Tabs]
mutual
def fineV:AV→Bool
 | .lstp _ _ _=>false
 | .tptr _ _ _=>false
 | .cptr c=>fineV c
 | .agg cs=>fineVs cs
 | .tup cs=>fineVs cs
 | .fn _ cs=>fineVs cs
 | .iface _ a=>fineV a
 | _=>true
def fineVs:List AV→Bool
 | []=>true
 | a ::r=>fineV a && fineVs r
end
def GH:SObj→Bool
 | .box c=>fineV c
 | .tailp _ _ _=>false
 | _=>true
mutual
def strip:AV→AV
 | .lst τ xs _=>.lst τ xs none
 | .agg cs=>.agg (strips cs)
 | .tup cs=>.tup (strips cs)
 | a=>a
def strips:List AV→List AV
 | []=>[]
 | a ::r=>strip a ::strips r
end
theorem lg (τ:Ty) (xs:List (den τ)):fj τ τ xs=some xs:=by simp [fj]
theorem yG (n:SN) (x:SD n):jg n n x=some x:=by simp [jg]
theorem yH (n:SN) (x:Option (SD n)):mZ n n x=some x:=by simp [mZ]
theorem qd (a:AV):rn a a:=by cases a <;> trivial
mutual
theorem LeV_self (G:List Nat):∀a:AV,fineV a=true→LeV G a a
 | .undef,_=>bN (by simp [LeF])
 | .int k n,_=>bN (by simp [LeF])
 | .bool b,_=>bN (by simp [LeF])
 | .str s,_=>bN (by simp [LeF])
 | .lst τ xs o,_=>bN (by simp [LeF,lg])
 | .nils,_=>bN (by simp [LeF])
 | .ptr i o,_=>bN (by simp [LeF])
 | .nilp,_=>bN (by simp [LeF])
 | .pt n x,_=>bN (by simp [LeF,yH])
 | .st n x,_=>bN (by simp [LeF,yG])
 | .row τ xs,_=>bN (by simp [LeF,lg])
 | .arr i n w,_=>bN (by simp [LeF])
 | .aptr i n w o,_=>bN (by simp [LeF])
 | .map i,_=>bN (by simp [LeF])
 | .bptr i,_=>bN (by simp [LeF])
 | .nilif,_=>bN (by simp [LeF])
 | .nilm,_=>bN (by simp [LeF])
 | .cptr c,h=>by simp only [fineV] at h;unfold LeV;exact ⟨qd c,LeV_self G c h⟩
 | .agg cs,h=>by simp only [fineV] at h;unfold LeV;exact LeL_self G cs h
 | .tup cs,h=>by simp only [fineV] at h;unfold LeV;exact LeL_self G cs h
 | .fn f cs,h=>by simp only [fineV] at h;unfold LeV;exact ⟨by simp,LeL_self G cs h⟩
 | .iface t a,h=>by simp only [fineV] at h;unfold LeV;exact ⟨by simp,LeV_self G a h⟩
 | .lstp _ _ _,h=>by cases h
 | .tptr _ _ _,h=>by cases h
theorem LeL_self (G:List Nat):∀l:List AV,fineVs l=true→LeL G l l
 | [],_=>by unfold LeL;trivial
 | a ::r,h=>by
  simp only [fineVs,Bool.and_eq_true] at h
  unfold LeL
  exact ⟨LeV_self G a h.1,LeL_self G r h.2⟩
end
mutual
theorem LeV_strip (G:List Nat):∀a:AV,fineV a=true→LeV G a (strip a)
 | .lst τ xs o,_=>by unfold strip;exact bN (by simp [LeF,lg])
 | .agg cs,h=>by simp only [fineV] at h;unfold strip LeV;exact LeL_strip G cs h
 | .tup cs,h=>by simp only [fineV] at h;unfold strip LeV;exact LeL_strip G cs h
 | .undef,h=>LeV_self G _ h
 | .int k n,h=>LeV_self G _ h
 | .bool b,h=>LeV_self G _ h
 | .str s,h=>LeV_self G _ h
 | .nils,h=>LeV_self G _ h
 | .ptr i o,h=>LeV_self G _ h
 | .nilp,h=>LeV_self G _ h
 | .pt n x,h=>LeV_self G _ h
 | .st n x,h=>LeV_self G _ h
 | .row τ xs,h=>LeV_self G _ h
 | .arr i n w,h=>LeV_self G _ h
 | .aptr i n w o,h=>LeV_self G _ h
 | .map i,h=>LeV_self G _ h
 | .bptr i,h=>LeV_self G _ h
 | .nilif,h=>LeV_self G _ h
 | .nilm,h=>LeV_self G _ h
 | .cptr c,h=>LeV_self G _ h
 | .fn f cs,h=>LeV_self G _ h
 | .iface t a,h=>LeV_self G _ h
 | .lstp _ _ _,h=>by cases h
 | .tptr _ _ _,h=>by cases h
theorem LeL_strip (G:List Nat):∀l:List AV,fineVs l=true→LeL G l (strips l)
 | [],_=>by unfold strips LeL;trivial
 | a ::r,h=>by
  simp only [fineVs,Bool.and_eq_true] at h
  unfold strips LeL
  exact ⟨LeV_strip G a h.1,LeL_strip G r h.2⟩
end
theorem vB {G:List Nat} {s:St}:∀(l l':List AV) (k:Nat),LeL G l l'→(∀j,aS s.t (k+j)=l.getD j .undef)→LeT G s (cC k l')
 | [],[],k,_,_=>trivial
 | a ::r,b ::r',k,h,hg=>by
  unfold LeL at h
  refine ⟨?_,vB r r' (k+1) h.2 fun j=>?_⟩
  ·have:=hg 0
   rw [Nat.add_zero] at this
   rw [this]
   exact h.1
  ·have:=hg (j+1)
   rw [show k+1+j=k+(j+1) by omega,this]
   rfl
 | [],_ ::_,_,h,_=>by unfold LeL at h;exact h.elim
 | _ ::_,[],_,h,_=>by unfold LeL at h;exact h.elim
theorem jS {G:List Nat} {s:St}:∀l:List (Nat × SObj),(∀x∈l,ak s.b x.1=some x.2/\GH x.2=true)→LeB G s l
 | [],_=>trivial
 | (i,.box c) ::r,h=>by
  obtain ⟨h1,h2⟩:=h _ (List.mem_cons_self ..)
  refine ⟨?_,jS r fun x hx=>h x (List.mem_cons_of_mem _ hx)⟩
  simp only at h1
  rw [h1]
  exact ⟨qd c,LeV_self G c h2⟩
 | (i,.tail τ n) ::r,h=>by
  obtain ⟨h1,h2⟩:=h _ (List.mem_cons_self ..)
  refine ⟨?_,jS r fun x hx=>h x (List.mem_cons_of_mem _ hx)⟩
  simp only at h1
  rw [h1]
  simp
 | (i,.map κ τ m) ::r,h=>by
  obtain ⟨h1,h2⟩:=h _ (List.mem_cons_self ..)
  refine ⟨?_,jS r fun x hx=>h x (List.mem_cons_of_mem _ hx)⟩
  simp only at h1
  rw [h1]
  simp [A8]
 | (i,.bld t u l) ::r,h=>by
  obtain ⟨h1,h2⟩:=h _ (List.mem_cons_self ..)
  refine ⟨?_,jS r fun x hx=>h x (List.mem_cons_of_mem _ hx)⟩
  simp only at h1
  rw [h1]
  simp
 | (i,.tailp τ n x) ::r,h=>by
  obtain ⟨h1,h2⟩:=h _ (List.mem_cons_self ..)
  cases h2
end Go.AL
end
noncomputable section
namespace Go.AL
def nL (S:List (Nat × SObj)) (x:Nat × SObj):Bool:=match ak S x.1 with | some o=>eqO o x.2 | none=>false
def Er:List AV→AV
 | [a]=>a
 | l=>.tup l
def Es (s:St) (l:List AV):List (Nat × SObj):=
 s.b.filter fun x=>bp x.1 || (gY (ak s.b) 64 (ids.idsL l++(aG s.b).filter bp) []).contains x.1
def Hk:Bool→List AV→List AV
 | true,l=>l
 | false,l=>strips l
def Et (tok:Bool) (S:List (Nat × SObj)) (s:St) (l:List AV):Option Ans:=
 evVs (Hk tok l) fun l'=>evB (Es s l') fun kept=>
  match fineVs l && (kept.all (fun x=>GH x.2)) && aX (aG s.b) && (aG S).all (fun i=>(aG kept).contains i) &&
    (de ((aG s.b).filter fun i=>!(aG kept).contains i) ⟨cC 0 l',kept⟩ && ((aG s.b).filter fun i=>!(aG kept).contains i).all (fun i=>!bp i)) with
  | true=>some ⟨none,none,Er l',kept.filter fun x=>!nL S x⟩
  | false=>none
theorem oA:∀{l:List (Nat × SObj)},aX (aG l)=true→∀{i:Nat} {o:SObj},(i,o)∈l→ak l i=some o
 | [],_,_,_,h=>by cases h
 | (j,u) ::r,hd,i,o,h=>by
  simp only [aG,List.map_cons,aX,Bool.and_eq_true,Bool.not_eq_true',List.contains_eq_mem,decide_eq_false_iff_not] at hd
  rcases List.mem_cons.1 h with e | e
  ·cases e;simp [aM,aF]
  ·have hne:¬j=i:=fun q=>hd.1 (List.mem_map.2 ⟨_,e,q.symm⟩)
   simp only [aM,aF,beq_iff_eq,hne,if_false]
   exact oA hd.2 e
theorem fE (p:Nat × SObj→Bool):∀{l:List (Nat × SObj)},aX (aG l)=true→aX (aG (l.filter p))=true
 | [],_=>rfl
 | x ::r,hd=>by
  simp only [aG,List.map_cons,aX,Bool.and_eq_true,Bool.not_eq_true',List.contains_eq_mem,decide_eq_false_iff_not] at hd
  have ih:=fE p hd.2
  rw [List.filter_cons]
  split
  ·simp only [aG,List.map_cons,aX,Bool.and_eq_true,Bool.not_eq_true',List.contains_eq_mem,decide_eq_false_iff_not]
   refine ⟨fun h=>hd.1 ?_,ih⟩
   obtain ⟨y,hy,e⟩:=List.mem_map.1 h
   exact List.mem_map.2 ⟨y,(List.mem_filter.1 hy).1,e⟩
  ·exact ih
variable [Tabs]
theorem Eu {l:List (Nat × SObj)} {i:Nat} (h:ak l i=none):i∉aG l:=ij l i h
theorem qe {l:List (Nat × SObj)} {i:Nat} (h:i∉aG l):ak l i=none:=by
 cases hb:ak l i with
 | none=>rfl
 | some o=>exact absurd (List.mem_map.2 ⟨(i,o),ck l i o hb,rfl⟩) h
theorem Ge {S kept:List (Nat × SObj)} (hd:aX (aG kept)=true) (hS:∀i∈aG S,i∈aG kept):ak (bU S (kept.filter fun x=>!nL S x))=ak kept:=by
 funext i
 have hdf:=fE (fun x=>!nL S x) hd
 rw [mT _ S i hdf]
 cases hk:ak kept i with
 | some o=>
  have hm:=ck kept i o hk
  cases hs:nL S (i,o) with
  | false=>
   have:(i,o)∈kept.filter fun x=>!nL S x:=List.mem_filter.2 ⟨hm,by rw [hs];rfl⟩
   rw [oA hdf this]
   rfl
  | true=>
   have hn:ak (kept.filter fun x=>!nL S x) i=none:=by
    cases hb:ak (kept.filter fun x=>!nL S x) i with
    | none=>rfl
    | some o'=>
     have h1:=List.mem_filter.1 (ck _ i o' hb)
     have h2:=oA hd h1.1
     rw [hk] at h2
     cases h2
     have h3:=h1.2
     rw [hs] at h3
     cases h3
   rw [hn]
   unfold nL at hs
   split at hs
   ·rename_i o' ho'
    simp only at ho' hs
    rw [ho',D2 hs]
    rfl
   ·cases hs
 | none=>
  have h1:i∉aG kept:=Eu hk
  rw [qe (l:=S) fun h=>h1 (hS i h),qe fun h=>h1 ?_]
  ·rfl
  ·obtain ⟨y,hy,e⟩:=List.mem_map.1 h
   exact List.mem_map.2 ⟨y,(List.mem_filter.1 hy).1,e⟩
theorem qf {G:List Nat}:∀{l m:List AV},LeL G l m→l.length=m.length
 | [],[],_=>rfl
 | _ ::_,_ ::_,h=>by unfold LeL at h;rw [List.length_cons,List.length_cons,qf h.2]
 | [],_ ::_,h=>by unfold LeL at h;exact h.elim
 | _ ::_,[],h=>by unfold LeL at h;exact h.elim
theorem BT {tok:Bool} {S:List (Nat × SObj)} {s:St} {l:List AV} {A:Ans} (h:Et tok S s l=some A) :
  A.ob=none/\A.pan=none/\∃l' kept,A.val=Er l'/\l'.length=l.length/\LeS ⟨cC 0 l,s.b⟩ ⟨cC 0 l',kept⟩/\ak (bU S A.upd)=ak kept:=by
 unfold Et at h
 rw [evVs_eq,tn] at h
 split at h
 ·rename_i hc
  cases h
  simp only [Bool.and_eq_true,List.all_eq_true] at hc
  obtain ⟨⟨⟨⟨h1,h2⟩,h3⟩,h4⟩,h5,h6⟩:=hc
  refine ⟨rfl,rfl,Hk tok l,Es s (Hk tok l),rfl,?_,⟨?_,?_,?_⟩,?_⟩
  ·cases tok with
   | true=>rfl
   | false=>exact (qf (LeL_strip [] l h1)).symm
  ·rw [if_pos]
   ·trivial
   ·rw [Bool.and_eq_true,List.all_eq_true]
    exact ⟨h5,h6⟩
  ·refine vB l _ 0 ?_ fun j=>?_
   ·cases tok with
    | true=>exact LeL_self _ l h1
    | false=>exact LeL_strip _ l h1
   ·show aS (cC 0 l) (0+j)=_
    rw [eY]
    simp
  ·refine jS _ fun x hx=>⟨?_,h2 x hx⟩
   exact oA h3 (List.mem_filter.1 hx).1
  ·refine Ge (fE _ h3) fun i hi=>?_
   have:=h4 i hi
   rwa [List.contains_eq_mem,decide_eq_true_eq] at this
 ·cases h
structure FB where
 body:Code
 n:Nat
 res:List ResultVar
 keep:Nat
 pubs:List (Nat × List Nat)
 pend:Nat→Bool
 rows:Nat→Bool
 same:Nat→Bool
 tok:Bool
 ps:List (Option Ty)
def Ev:Option Ty→AV→AV
 | some (.st n),a=>(match arg (.st n) a with | some x=>.st n x | none=>a)
 | _,a=>a
def AB:List (Option Ty)→List AV→List AV
 | p ::ps,a ::r=>Ev p a ::AB ps r
 | _,l=>l
def Hl (C:Cfg) (N:Nat) (x:FB) (args:List AV) (S:List (Nat × SObj)):Option Ans:=
 evVs (AB x.ps args) fun args=>evB S fun S=>
  match km args x.n && (aG S).all bp with
  | false=>none
  | true=>
   match iy C x.keep x.pubs N x.body ⟨cC 0 args,S⟩ with
   | some (.normal,s)=>(match jc C.tbl s x.res with | some l=>Et x.tok S s l | none=>none)
   | some (.ret,s)=>(match jc C.tbl s x.res with | some l=>Et x.tok S s l | none=>none)
   | _=>none
variable {P:Program} {C:Cfg}
theorem Ew (p:Option Ty) (a:AV):Rd a (Ev p a):=by
 unfold Ev
 split
 ·split
  ·rename_i x hx;exact Rd.arg hx
  ·exact Rd.refl a
 ·exact Rd.refl a
theorem vC:∀(ps:List (Option Ty)) (l:List AV),RdL l (AB ps l)
 | [],l=>RdL.refl l
 | p ::ps,[]=>.nil
 | p ::ps,a ::r=>.cons (Ew p a) (vC ps r)
theorem runF_meets (hm:P.follows .mixedOrders=true) (hT:aT P C.tbl) (hS:bH P C.spec) {N:Nat} {x:FB} {f:Nat} {fn:Func} (hf:P.funcs[f]?=some fn) (hb:fn.body=some x.body) (hn:fn.ntmps=x.n) (hr:fn.results.toList=x.res)
  (hd:bu x.n x.body=true) {args:List AV} {S:List (Nat × SObj)} {A:Ans} (h:Hl C N x args S=some A):aw P f args S A:=by
 refine aw.args (vC x.ps args) ?_
 intro w pub e vs hp ht hv hs hdom hinj
 unfold Hl at h
 rw [evVs_eq,tn] at h
 split at h
 ·cases h
 ·rename_i hck
  simp only [Bool.and_eq_true,List.all_eq_true] at hck
  obtain ⟨hck2,hck3⟩:=hck
  have hlen:=dj _ _ hck2
  have hlent:∀id c,e id=some c→bp id=true:=by
   intro id c hc
   cases hg:ak S id with
   | none=>rw [hdom id hg] at hc;cases hc
   | some o=>exact hck3 id (List.mem_map.2 ⟨(id,o),ck _ _ _ hg,rfl⟩)
  have hrun:∃z s',iy C x.keep x.pubs N x.body ⟨cC 0 (AB x.ps args),S⟩=some (z,s')/\(match jc C.tbl s' x.res with | some l=>Et x.tok S s' l | none=>none)=some A/\(z=.normal∨z=.ret):=by
   split at h
   ·rename_i s' hz;exact ⟨_,s',hz,h,.inl rfl⟩
   ·rename_i s' hz;exact ⟨_,s',hz,h,.inr rfl⟩
   ·cases h
  obtain ⟨z,s',hz,he,hzz⟩:=hrun
  refine calls_of_wp hf hb ?_
  have hh:=iW (n:=fn.ntmps) hp ht hv (by rw [hn];exact hlen) hs hdom hinj hlent
  rw [←hn] at hd
  refine wp_mono (yF (F:=⟨w,pub,fn.ntmps,e,hlent,[],ht⟩) hm hT hS _ _ N x.body _ z s' _ _ hz hd hh) ?_
  intro en a' w' hq
  obtain ⟨z2,s2,Ω',h1,h2,h3,h4,h5⟩:=hq
  subst h2 h4 h5
  have hmap:∀us,(fn.results.toList.mapM (mK a'.tmps)).run P Ω'.w=.ok us Ω'.w→
    (results fn a'.tmps).run P Ω'.w=.ok (if h:us.toArray.size=1 then us.toArray[0] else .tuple us.toArray) Ω'.w:=by
   intro us hus
   rw [kT,←Array.toArray_toList (xs:=fn.results),List.mapM_toArray]
   simp only [Sem.run_bind,Sem.run_map,hus,Result.andThen_ok,Sem.run_pure]
  have main:a'.defers=[]/\∃v,(results fn a'.tmps).run P Ω'.w=.ok v Ω'.w/\∃pub' e',(∀b pv u,A.pan=some (b,pv,u)→b=false)/\V ⟨e',Ω'.w,pub'⟩ A.val v/\After w pub e (ak (bU S A.upd)) Ω'.w pub' e':=by
   refine ⟨h3.defers,?_⟩
   split at he
   ·rename_i l hres
    rw [←hr] at hres
    obtain ⟨a1,a2,l',kept,a3,a4,a5,a6⟩:=BT he
    obtain ⟨us,k1,k2⟩:=dZ hT h3 _ _ hres
    obtain ⟨Ω2,e2,hh2⟩:=df (s:=⟨cC 0 l,s2.b⟩) (h3.retmp k2) a5
    rw [a3,a6]
    refine ⟨_,hmap us k1,Ω2.pub,Ω2.e,fun b pv u q=>(by rw [a2] at q;cases q),?_,by rw [←e2];exact gu hh2⟩
    have hval:∀(j:Nat) c v,l'[j]?=some c→us[j]?=some v→V ⟨Ω2.e,Ω'.w,Ω2.pub⟩ c v:=fun j c v hc hv=>by
     have:=hh2.tmps j
     simp only [St.abs,eY,Nat.zero_le,if_true,Nat.sub_zero,List.getD_eq_getElem?_getD,hc,Option.getD_some] at this
     have e3:(us.toArray++Array.replicate 0 undef).getD j undef=v:=by
      simp [Array.getD_eq_getD_getElem?,hv]
     rw [e3] at this
     rw [←e2]
     exact this
    have hlu:l'.length=us.length:=a4.trans k2.1
    by_cases h1':us.toArray.size=1
    ·rw [dif_pos h1']
     obtain ⟨u,rfl⟩:=il (l:=us) (by simpa using h1')
     obtain ⟨c,rfl⟩:=il (l:=l') (by rw [hlu];rfl)
     exact hval 0 c u rfl rfl
    ·rw [dif_neg h1']
     have:Er l'=.tup l':=by
      match l',hlu with
      | [],_=>rfl
      | [c],q=>exact absurd (by simpa using q.symm) h1'
      | _ ::_ ::_,_=>rfl
     rw [this]
     exact .tup l' us hlu hval
   ·cases he
  rcases hzz with rfl | rfl
  ·cases h1;exact main
  ·cases h1;exact main
def AD:List (Nat × FB)→Nat→Option FB
 | [],_=>none
 | (j,x) ::r,f=>if Nat.beq j f=true then some x else AD r f
def b6 (tbl:List (Nat × TR)) (fn:Func) (keep:Nat) (pubs:List (Nat × List Nat)) (pend rows same:Nat→Bool) (tok:Bool):FB:=
 ⟨fn.body.getD .skip,fn.ntmps,fn.results.toList,keep,pubs,pend,rows,same,tok,fn.params.toList.map fun t=>(aA tbl t).bind (·.ty)⟩
def fbok (fn:Func):Bool:=match fn.body with | none=>false | some c=>bu fn.ntmps c && !(fn.name == "runtime.NumGoroutine")
def ay (P:Program) (tab:List (Nat × FB)):Prop:=∀f x,AD tab f=some x→
 ∃fn,P.funcs[f]?=some fn/\fn.body=some x.body/\fn.ntmps=x.n/\fn.results.toList=x.res/\bu x.n x.body=true/\(fn.name == "runtime.NumGoroutine")=false
theorem ay.nil:ay P []:=fun f x h=>by cases h
theorem ay.cons {tbl:List (Nat × TR)} {f:Nat} {fn:Func} {keep:Nat} {pubs:List (Nat × List Nat)} {pend rows same:Nat→Bool} {tok:Bool} {tab:List (Nat × FB)} (hf:P.funcs[f]?=some fn) (hc:fbok fn=true) (ht:ay P tab) :
  ay P ((f,b6 tbl fn keep pubs pend rows same tok) ::tab):=by
 intro g x h
 unfold AD at h
 split at h
 ·rename_i hb
  obtain rfl:=Nat.eq_of_beq_eq_true hb
  cases h
  unfold fbok at hc
  split at hc
  ·cases hc
  ·rename_i c hb'
   simp only [Bool.and_eq_true,Bool.not_eq_true'] at hc
   exact ⟨fn,hf,by simp [b6,hb'],rfl,rfl,by simpa [b6,hb'] using hc.1,hc.2⟩
 ·exact ht g x h
def yI (tbl:List (Nat × TR)) (tab:List (Nat × FB)) (keeps:Nat→Bool) (lends:Nat→List (Option Nat)) (N:Nat) (base:Nat→List AV→List (Nat × SObj)→Option Ans) :
  Nat→Nat→List AV→List (Nat × SObj)→Option Ans
 | 0,f,us,S=>base f us S
 | n+1,f,us,S=>
  match base f us S with
  | some A=>some A
  | none=>
  match AD tab f with
  | none=>none
  | some x=>Hl ⟨tbl,yI tbl tab keeps lends N base n,keeps,lends,x.pend,x.rows,x.same⟩ N x us S
theorem AE {tbl:List (Nat × TR)} {tab:List (Nat × FB)} {keeps:Nat→Bool} {lends:Nat→List (Option Nat)} {N:Nat} {base:Nat→List AV→List (Nat × SObj)→Option Ans}
  (hm:P.follows .mixedOrders=true) (hT:aT P tbl) (hB:bH P base) (ht:ay P tab):∀n:Nat,bH P (yI tbl tab keeps lends N base n)
 | 0=>hB
 | n+1=>by
  intro f args S A h ho hl
  unfold yI at h
  split at h
  ·rename_i A' hb
   cases h
   exact hB f args S A hb ho hl
  split at h
  ·cases h
  ·rename_i x hx
   obtain ⟨fn,h1,h2,h3,h4,h5,h6⟩:=ht f x hx
   exact ⟨⟨fn,h1,by rw [h2];rfl,h6⟩,runF_meets hm hT (AE hm hT hB ht n) h1 h2 h3 h4 h5 h⟩
theorem iz {tbl:List (Nat × TR)} {tab:List (Nat × FB)} {keeps:Nat→Bool} {lends:Nat→List (Option Nat)} {N n f:Nat} {base:Nat→List AV→List (Nat × SObj)→Option Ans} {args:List AV} {v:AV} {u:List (Nat × SObj)}
  (hm:P.follows .mixedOrders=true) (hT:aT P tbl) (hB:bH P base) (ht:ay P tab) (h:yI tbl tab keeps lends N base n f args []=some ⟨none,none,v,u⟩):aw P f args [] ⟨none,none,v,u⟩:=
 (AE hm hT hB ht n f args [] _ h (fun _ q=>by cases q) rfl).2
def tested (b:List AV→List (Nat × SObj)→Bool) (g:Pat):Pat:=fun args S=>match b args S,g args S with | true,some A=>some {A with ob:=none} | _,_=>none
theorem ag.tested {f:Nat} {g:Pat} {b:List AV→List (Nat × SObj)→Bool} (h:ag P f g) (hb:∀args S A q,b args S=true→g args S=some A→A.ob=some q→q):ag P f (tested b g):=by
 intro args S A hA ho hl
 unfold AL.tested at hA
 split at hA
 ·rename_i A' hbt hg
  cases hA
  exact h args S A' hg (fun q hq=>hb args S A' q hbt hg hq) hl
 ·cases hA
end Go.AL
end
noncomputable section
namespace Go.AL
variable [Tabs] {P:Program}
def q1 (τ:Ty) (b:den τ→Bool) (F:den τ→AV):Pat
 | [a],[]=>(match arg τ a with | some x=>(match b x with | true=>some (.ret (F x)) | false=>none) | none=>none)
 | _,_=>none
theorem vD {f:Nat} {τ:Ty} {b:den τ→Bool} {F:den τ→AV} {O:den τ→Prop} (h:ag P f (p1 τ fun x=>⟨some (O x),none,F x,[]⟩)) (hb:∀x,b x=true→O x):ag P f (q1 τ b F):=by
 intro args S A hA ho hl
 unfold q1 at hA
 split at hA
 ·rename_i a
  split at hA
  ·rename_i x hx
   split at hA
   ·rename_i ht
    cases hA
    have k:=h [a] [] ⟨some (O x),none,F x,[]⟩ (by simp [p1,hx]) (fun q hq=>by cases hq;exact hb x ht) hl
    exact ⟨k.1,k.2⟩
   ·cases hA
  ·cases hA
 ·cases hA
def q2 (τ σ:Ty) (b:den τ→den σ→Bool) (F:den τ→den σ→AV):Pat
 | [a,c],[]=>(match arg τ a,arg σ c with | some x,some y=>(match b x y with | true=>some (.ret (F x y)) | false=>none) | _,_=>none)
 | _,_=>none
theorem vE {f:Nat} {τ σ:Ty} {b:den τ→den σ→Bool} {F:den τ→den σ→AV} {O:den τ→den σ→Prop} (h:ag P f (p2 τ σ fun x y=>⟨some (O x y),none,F x y,[]⟩)) (hb:∀x y,b x y=true→O x y):ag P f (q2 τ σ b F):=by
 intro args S A hA ho hl
 unfold q2 at hA
 split at hA
 ·rename_i a c
  split at hA
  ·rename_i x y hx hy
   split at hA
   ·rename_i ht
    cases hA
    have k:=h [a,c] [] ⟨some (O x y),none,F x y,[]⟩ (by simp [p2,hx,hy]) (fun q hq=>by cases hq;exact hb x y ht) hl
    exact ⟨k.1,k.2⟩
   ·cases hA
  ·cases hA
 ·cases hA
def vF (as0:List AV) (v:AV):Pat:=fun args S=>match eqVs as0 args,S with | true,[]=>some (.ret v) | _,_=>none
theorem tt {f:Nat} {as0:List AV} {v:AV} (he:an P f) (h:aw P f as0 [] (.ret v)):ag P f (vF as0 v):=by
 intro args S A hA ho hl
 unfold vF at hA
 split at hA
 ·rename_i heq
  cases hA
  rw [←eqVs_ok _ _ heq]
  exact ⟨he,h⟩
 ·cases hA
def t1 (τ:Ty) (b:den τ→Bool):List AV→List (Nat × SObj)→Bool
 | [a],_=>(match arg τ a with | some x=>b x | none=>false)
 | _,_=>false
def AF:List AV→List (Nat × SObj)→Bool
 | _,[(_,.box (.lst .str zs _))]=>decide (zs.length *16<=140737488355328)
 | _,_=>false
theorem yJ {f gv:Nat} (h:ag P f (dN gv)):ag P f (tested AF (dN gv)):=by
 refine h.tested fun args S A q hb hg ho=>?_
 unfold dN at hg
 split at hg
 ·split at hg
  ·cases hg
   cases ho
   exact Xo hb
  ·cases hg
 ·cases hg
def vG:List AV→List (Nat × SObj)→Bool
 | [.arr _ n _],[(_,.box (.row .str ss))]=>decide (n=ss.length)
 | _,_=>false
theorem vH {f:Nat} (h:ag P f dO):ag P f (tested vG dO):=by
 refine h.tested fun args S A q hb hg ho=>?_
 unfold dO at hg
 split at hg
 ·cases hg
  cases ho
  exact Xo hb
 ·cases hg
end Go.AL
end
noncomputable section
namespace Go.AL.Seat
open Go Go.AL Go.Proofs
set_option maxRecDepth 1000000
variable [Tabs]
def Hm (f:Nat):List (Option Nat):=[]
def Hn (f:Nat):Bool:=false
def vI:List (Nat × FB):=(13,b6 Ej Tryz.f13 119 [] (fun _=>false) (fun _=>false) (fun _=>false) false) ::[]
theorem vJ:ay Tryz.prog vI:=ay.cons Tryz.func13 (by kernel_rfl) (ay.nil)
end Go.AL.Seat
end
section
namespace Go.AL
open Go.Shelf Go.Proofs Go.RowKit
variable [Tabs] {P:Program} {ρ:Ren}
theorem After.newRow {w w':World} {pub:Nat→Nat→Prop} {e:Nat→Option CObj} (hp:ic w pub) (hd:∀id,e id=none) (hb:Below w.heap.size w w') {g:Nat} (hg:w.heap.size<=g) {p:Nat→Prop} (hc:∀o,p o→∃v,w'.cell? ⟨g,o,none⟩=some v) :
  After w pub e (ak (bU [] [])) w' (fun b o=>pub b o∨(b=g/\p o)) e where
 os:=hb.os
 tape:=hb.tape
 output:=hb.output
 size:=hb.size
 block b h _:=hb.block b h
 cell b o h _:=ah (hb.block b h) o
 kind b h _:=⟨aR (hb.block b h),fun o=>aK (hb.block b h) o⟩
 ext:=⟨fun _ c h=>⟨c,h,CLe.refl c⟩,fun _ _ h=>.inl h,fun b o h=>by obtain ⟨v,hv⟩:=hp b o h;exact ah (hb.block b (aE hv)) o⟩
 fresh b o h:=by
  rcases h with h | ⟨rfl,_⟩
  ·exact .inl h
  ·exact .inr (.inl hg)
 ok b o h:=by
  rcases h with h | ⟨rfl,h⟩
  ·obtain ⟨v,hv⟩:=hp b o h;exact ⟨v,(ah (hb.block b (aE hv)) o).trans hv⟩
  ·exact hc o h
 slots id o h:=by simp [bU,aM,aF] at h
 dom id _:=hd id
 inj i j c d b o h:=by rw [hd i] at h;cases h
theorem vK (L:Lays2.n16 P ρ) (l:List Str) (hb:l.length *16<=140737488355328) {ob:Option Prop}:aw P (ρ.f 16) [.lst .str l none] [] ⟨ob,none,.lst .str l none,[]⟩:=by
 intro w pub e vs hp ht hv hs hd hi
 have he:e=fun _=>none:=funext fun id=>hd id rfl
 subst he
 obtain ⟨v,rfl,hV⟩:=hv.one_inv
 cases hV with
 | lstNil _ _ tok=>
  refine (Any.slices_Clone_string_nil L 0 0 w).mono ?_
  rintro en w' ⟨rfl,rfl⟩
  exact ⟨pub,_,fun b pv u h=>(by cases h),.lstNil _ _ tok,After.below hp (fun _=>rfl) (Below.refl _ _)⟩
 | lstVoid _ a=>
  refine (Any.slices_Clone_string_zero L a 0 w).mono ?_
  rintro en w' ⟨v',rfl,⟨hl,hrow⟩,hn,hbw⟩
  refine ⟨pub,_,fun b pv u h=>(by cases h),?_,After.below hp (fun _=>rfl) hbw⟩
  rcases hrow with ⟨rfl,hz⟩ | ⟨g,cap,cur,rfl,hbase,hg,h1,h2,h3,h4⟩
  ·exact absurd rfl hn
  ·exact .lst .str [] none g 0 cap (fun _ _=>.bool false) (Nat.zero_le _) (by unfold maxLen at h2;unfold b8;omega) (fun id h=>by cases h) (fun i x hx=>by cases hx) (fun i x hx=>by cases hx)
 | lst _ _ _ b off cap vals h1 h2 tok hcell hval=>
  have at_:∀i (hi:i < l.length),w.cell? ⟨b,off+i,none⟩=some (.string ⟨l[i].toArray⟩)/\l[i].length<=b8:=fun i hi=>by
   have hx:l[i]?=some l[i]:=List.getElem?_eq_getElem hi
   obtain ⟨_,c1⟩:=hcell i l[i] hx 0 (.str l[i]) rfl
   have c2:=hval i l[i] hx 0 (.str l[i]) rfl
   obtain ⟨c3,c4⟩:=c2.str_inv
   rw [c3,show off+(i *ae .str+0)=off+i by rw [show ae .str=1 from rfl];omega] at c1
   exact ⟨c1,c4⟩
  refine (Any.slices_Clone_string L b off l.length cap (l.map fun s=>(⟨s.toArray⟩:ByteArray)) w (by simp) hb (fun j hj=>?_)).mono ?_
  ·have hj':j < l.length:=by simpa using hj
   rw [(at_ j hj').1,List.getD_eq_getElem?_getD,List.getElem?_map,List.getElem?_eq_getElem hj']
   rfl
  rintro en w' ⟨v',rfl,⟨hl,hrow⟩,hn,hbw⟩
  rcases hrow with ⟨rfl,hz⟩ | ⟨g,cap',cur,rfl,hbase,hg,k1,k2,k3,k4⟩
  ·exact absurd rfl hn
  have hcur:∀i (hi:i < l.length),cur[i]?=some (.string ⟨l[i].toArray⟩):=fun i hi=>by
   have:(cur.toList.take (l.length *1))[i]?=some (.string ⟨l[i].toArray⟩):=by
    rw [k4,List.getElem?_map,List.getElem?_take]
    simp [hi]
   rw [List.getElem?_take] at this
   split at this
   ·simpa using this
   ·cases this
  refine ⟨fun b o=>pub b o∨(b=g/\o < l.length),_,fun b pv u h=>(by cases h),?_,After.newRow hp (fun _=>rfl) hbw hbase (p:=fun o=>o < l.length) (fun o ho=>⟨_,by rw [aD hg];exact hcur o ho⟩)⟩
  refine .lst .str l none g 0 cap' (fun i _=>.string ⟨(l.getD i []).toArray⟩) k1 (by unfold maxLen at k2;unfold b8;omega) (fun id h=>by cases h) (fun i x hx j c hc=>?_) (fun i x hx j c hc=>?_)
  ·obtain ⟨hi,rfl⟩:=List.getElem?_eq_some_iff.1 hx
   have hj:j=0:=by
    cases j with
    | zero=>rfl
    | succ j=>simp [cells] at hc
   subst hj
   rw [show 0+(i *ae .str+0)=i by rw [show ae .str=1 from rfl];omega]
   refine ⟨.inr ⟨rfl,hi⟩,?_⟩
   show w'.cell? ⟨g,i,none⟩=_
   rw [aD hg,hcur i hi,List.getD_eq_getElem?_getD,List.getElem?_eq_getElem hi]
   rfl
  ·obtain ⟨hi,rfl⟩:=List.getElem?_eq_some_iff.1 hx
   have hj:j=0:=by
    cases j with
    | zero=>rfl
    | succ j=>simp [cells] at hc
   subst hj
   have e1:c=.str l[i]:=by simpa [cells] using hc.symm
   subst e1
   rw [List.getD_eq_getElem?_getD,List.getElem?_eq_getElem hi]
   exact .str _ (at_ i hi).2
def vL:Pat:=p1 (.lst .str) fun l=>⟨some (l.length *16<=140737488355328),none,.lst .str l none,[]⟩
theorem vM {f:Nat} (L:Lays2.n16 P ρ) (hf:ρ.f 16=f) (he:an P f):ag P f vL:=by
 subst hf
 exact ax he fun l _ ho=>vK L l (ho _ rfl)
end Go.AL
end
section
namespace Go.Proofs
open Go.Shelf
def Tryz.lays2_16_ren:Go.Shelf.Ren:=⟨fun | 16=>68 | n=>n,fun | 24=>24 | 9=>9 | 4=>4 | n=>n,fun | n=>n⟩
theorem Tryz.lays2_16:Go.Proofs.Lays2.n16 Tryz.prog Tryz.lays2_16_ren:={
 mixed:=by kernel_rfl
 f16:=Xt Tryz.func68
 t4:=Tryz.underlying4
 a4:=Tryz.isAgg4
 z4:=Tryz.sizeOf4
 v4:=Tryz.zeroValue4
 t9:=Tryz.underlying9
 a9:=Tryz.isAgg9
 z9:=Tryz.sizeOf9
 v9:=Tryz.zeroValue9
 t24:=Tryz.underlying24
 a24:=Tryz.isAgg24
 z24:=Tryz.sizeOf24
 v24:=Tryz.zeroValue24
 i9:=by kernel_rfl}
end Go.Proofs
end
section
namespace Go.AL.Seat
open Go Go.AL Go.Proofs Go.Shelf Go.Pd
variable [Tabs]
theorem kh:ag Tryz.prog 68 vL:=vM Tryz.lays2_16 rfl (an.mk' Tryz.func68 (by kernel_rfl))
end Go.AL.Seat
end
section
namespace Go.Pd
open Go.AL
theorem ke {c:UInt8}:∀(a r:Str),(∀x∈a,x≠c)→splitB c (a++c ::r)=a ::splitB c r
 | [],r,_=>by show (if c=c then _ else _)=_;rw [if_pos rfl]
 | b ::a,r,h=>by
  have ih:=ke a r (fun x hx=>h x (List.mem_cons_of_mem _ hx))
  show (if b=c then _ else match splitB c (a++c ::r) with | []=>[[b]] | p ::ps=>(b ::p) ::ps)=_
  rw [if_neg (h b (List.mem_cons_self ..)),ih]
def rO (c:UInt8):List Str→Str
 | []=>[]
 | [a]=>a
 | a ::b ::r=>a++c ::rO c (b ::r)
theorem mV (c:UInt8):∀s:Str,splitB c s≠[]
 | []=>by simp [splitB]
 | b ::r=>by
  unfold splitB
  split
  ·simp
  ·split <;> simp
end Go.Pd
end
section
open Go Go.Proofs Go.RowKit Go.Pd
namespace Go.AL.Seat
def vS (s:Str):Value:=.string ⟨s.toArray⟩
def eI (acc:List Str) (b:UInt8):List Str:=if b=46 then acc++[[]] else acc.set (acc.length - 1) (acc.getD (acc.length - 1) []++[b])
def cw (s:Str) (k:Nat):List Str:=(s.take k).foldl eI [[]]
theorem gM (s:Str) (k:Nat) (h:k < s.length):cw s (k+1)=eI (cw s k) (s[k]'h):=by
 unfold cw
 rw [List.take_succ_eq_append_getElem h,List.foldl_append];rfl
theorem yK (acc:List Str) (b:UInt8) (h:1<=acc.length):1<=(eI acc b).length/\(eI acc b).length<=acc.length+1:=by
 unfold eI;split
 ·rw [List.length_append];simp
 ·rw [List.length_set];omega
theorem lh (s:Str):∀k,k<=s.length→1<=(cw s k).length/\(cw s k).length<=k+1
 | 0,_=>⟨Nat.le_refl _,Nat.le_refl _⟩
 | k+1,h=>by
  obtain ⟨h1,h2⟩:=lh s k (by omega)
  rw [gM s k (by omega)]
  have:=yK (cw s k) (s[k]'(by omega)) h1
  omega
theorem yL {acc:List Str} {b:UInt8} {m:Nat} (h:∀x∈acc,x.length<=m):∀x∈eI acc b,x.length<=m+1:=by
 intro x hx
 unfold eI at hx
 split at hx
 ·rcases List.mem_append.1 hx with k | k
  ·have:=h x k;omega
  ·simp only [List.mem_singleton] at k;subst k;simp
 ·rcases List.mem_or_eq_of_mem_set hx with k | k
  ·have:=h x k;omega
  ·subst k
   rw [List.length_append]
   rcases Nat.lt_or_ge (acc.length - 1) acc.length with q | q
   ·have:=h (acc.getD (acc.length - 1) []) (by rw [List.getD_eq_getElem?_getD,List.getElem?_eq_getElem q];exact List.getElem_mem q)
    simp only [List.length_singleton];omega
   ·rw [List.getD_eq_getElem?_getD,List.getElem?_eq_none q];simp
theorem lp (s:Str):∀k,k<=s.length→∀x∈cw s k,x.length<=k
 | 0,_=>fun x hx=>by simp [cw] at hx;subst hx;simp
 | k+1,h=>by
  rw [gM s k (by omega)]
  exact yL (lp s k (by omega))
theorem Tryz.info9':(Tryz.prog.info? 9).map (fun i=>(i.zero,i.size,i.bytes))=some (some (.string ByteArray.empty),1,16):=by kernel_rfl
set_option maxHeartbeats 1600000 in
set_option maxRecDepth 1000000 in
theorem BU (s:Str) (w:World) (hs:s.length<=4096) :
  Calls Tryz.prog 135 #[vS s] w fun e w'=>∃v,e=.returned v/\w'.ownsRow w.heap.size 9 1 v (cw s s.length).length ((cw s s.length).map vS)/\Below w.heap.size w w':=by
 obtain ⟨i0,hi,hz0,hz1,hz2⟩:=info_parts Tryz.info9'
 unfold vS
 go_enter Tryz.func135,Tryz.ntmps135
 go_wp2
 go_loopw [3,4] (fun v i wr=>∃k:Nat,k<=s.length/\i=.int .i64 k/\wr.ownsRow w.heap.size 9 1 v (cw s k).length ((cw s k).map vS)/\Below w.heap.size w wr)
  (fun _ i _=>s.length - (RowKit.intOf i).toNat)
 case atStart=>
  exact ⟨0,Nat.zero_le _,rfl,⟨rfl,.inr ⟨w.heap.size,1,#[.string ⟨#[]⟩],rfl,Nat.le_refl _,heap_alloc_new w _,Nat.le_refl _,by decide,rfl,rfl⟩⟩,(Below.refl _ _).alloc (Nat.le_refl _) _⟩
 case round=>
  obtain ⟨k,hk,rfl,hown,hnx⟩:=hrel
  have hpl:=lh s k hk
  obtain ⟨n,hn⟩:∃n,(cw s k).length=n+1:=⟨_,(Nat.succ_pred (by omega)).symm⟩
  rw [hn] at hown
  have hsh:=hown.2
  rcases hsh with ⟨_,h0⟩ | ⟨g,cap,cur,rfl,hg1,_,hg2,hg3,_,_⟩
  ·omega
  have hfz:wr.frozen? ⟨g,n,none⟩=false:=hown.frozenAt n
  by_cases hlt:k < s.length
  ·have hlt':k < (⟨s.toArray⟩:ByteArray).size:=by show k < s.toArray.size;simpa using hlt
   by_cases hd:(s[k]'hlt).toNat=46
   ·have hnext:cw s (k+1)=cw s k++[[]]:=by
     rw [gM s k hlt];unfold eI;rw [if_pos (UInt8.toNat_inj.1 hd)]
    have hd2:((((⟨s.toArray⟩:ByteArray)[k]'hlt').toNat:Int) ==46)=true:=by
     have e:((⟨s.toArray⟩:ByteArray)[k]'hlt').toNat=(s[k]'hlt).toNat:=by rfl
     rw [e,hd];rfl
    go_wp2_with (at_builtin;refine wpList_append_own _ rfl _ _ 24 rfl w.heap.size 9 i0 (.string ByteArray.empty) 1 16 Tryz.underlying24 hi hz0 hz1 hz2 rfl (by decide) _ _ _ rfl (hown.alloc _) ⟨wr.heap.size,0,none⟩ 1 1 [.string ByteArray.empty] rfl rfl ?c1 ?c2 ?c3 ?c4 ?c5 ?_)
    case c1=>
     intro j u hj
     match j,hj with
     | 0,hj=>simp at hj;subst hj;simp [Addr.add];rfl
    case c2=>intro u hu;simp at hu;subst hu;rfl
    case c3=>unfold maxLen;omega
    case c4=>omega
    case c5=>have:=hnx.size;simp;omega
    intro v' w1 hown' hgrow _
    have hown2:w1.ownsRow w.heap.size 9 1 v' (cw s (k+1)).length ((cw s (k+1)).map vS):=by
     rw [hnext,List.length_append,hn,List.map_append];exact hown'
    clear hown'
    go_wp2
    go_roundw
    case rel=>exact ⟨k+1,by omega,by go_num,hown2,(hnx.alloc (by have:=hnx.size;omega) _).grown hgrow (by have:=hnx.size;simp;omega) (by intro q hq;cases hq;exact hg1)⟩
    case measure=>simp [RowKit.intOf];omega
   ·have hd2:((((⟨s.toArray⟩:ByteArray)[k]'hlt').toNat:Int) ==46)=false:=by
     have e:((⟨s.toArray⟩:ByteArray)[k]'hlt').toNat=(s[k]'hlt).toNat:=by rfl
     rw [e];simp;omega
    have hn5:n<=5000:=by omega
    obtain ⟨L,hlast,hLl,hnext⟩:∃L:Str,wr.cell? ⟨g,n,none⟩=some (.string ⟨L.toArray⟩)/\L.length<=5000/\cw s (k+1)=(cw s k).set n (L++[s[k]'hlt]):=by
     refine ⟨(cw s k).getD n [],?_,?_,?_⟩
     ·rw [hown.cellAt n (by omega),List.getElem?_map,List.getElem?_eq_getElem (by omega),List.getD_eq_getElem?_getD,List.getElem?_eq_getElem (by omega)];rfl
     ·have:=lp s k hk ((cw s k).getD n []) (by rw [List.getD_eq_getElem?_getD,List.getElem?_eq_getElem (by omega)];exact List.getElem_mem _)
      omega
     ·rw [gM s k hlt];unfold eI
      rw [if_neg (fun e=>hd (by rw [e];rfl)),hn];rfl
    have hrun:∀wx,(Instr.slice 9 (.string ⟨s.toArray⟩) (some (.int .i64 (k:Int))) (some (.int .i64 ((k:Int)+1))) none).run Tryz.prog wx=.ok (.string ⟨#[s[k]'hlt]⟩) wx:=fun wx=>by
     rw [run_slice_string wx 9 _ .i64 .i64 _ _ Tryz.underlying9 (by omega) (by omega) (by show (k:Int)+1<=(s.toArray.size:Int);simp;omega),ByteArray.extract_mk]
     have e1:((k:Int)+1).toNat - ((k:Int)).toNat=1:=by omega
     rw [e1,Int.toNat_natCast,List.drop_eq_getElem_cons hlt];rfl
    have hadd:∀wx,(Op.stringOp .add (⟨L.toArray⟩:ByteArray) (⟨#[s[k]'hlt]⟩:ByteArray)).run Tryz.prog wx=.ok (.string ⟨(L++[s[k]'hlt]).toArray⟩) wx:=fun wx=>
     run_string_add_lists wx L [s[k]'hlt] (by omega) (by simp)
    go_wp2_with fail
    all_goals (try (exfalso;rename_i hq _;rw [hd2] at hq;cases hq))
    go_region
    all_goals go_wp2
    all_goals go_roundw
    case rel=>
     refine ⟨k+1,by omega,by go_num,?_,(hnx.setCell hg1 _).drew⟩
     rw [hnext,List.length_set,hn,List.map_set]
     exact (hown.stored n _).1.drew
    case measure=>simp [RowKit.intOf];omega
  ·have hkl:k=s.length:=by omega
   subst hkl
   go_wp2_with fail
   go_ret
   exact ⟨_,rfl,by rw [hn];exact hown,hnx⟩
theorem jT:∀(s:Str) (acc:List Str) (p:Str),s.foldl eI (acc++[p])=acc++(match splitB 46 s with | []=>[p] | q ::qs=>(p++q) ::qs)
 | [],acc,p=>by simp [splitB]
 | b ::r,acc,p=>by
  rw [List.foldl_cons]
  by_cases hb:b=46
  ·subst hb
   have e1:eI (acc++[p]) 46=(acc++[p])++[[]]:=by unfold eI;rw [if_pos rfl]
   rw [e1,jT r (acc++[p]) []]
   have hne:=mV 46 r
   have e2:splitB 46 (46 ::r)=[] ::splitB 46 r:=by rw [splitB,if_pos rfl]
   rw [e2]
   cases e:splitB 46 r with
   | nil=>exact absurd e hne
   | cons q qs=>simp
  ·have e1:eI (acc++[p]) b=acc++[p++[b]]:=by
    unfold eI
    rw [if_neg hb]
    simp
   rw [e1,jT r acc (p++[b])]
   have hne:=mV 46 r
   have e2:splitB 46 (b ::r)=match splitB 46 r with | []=>[[b]] | p ::ps=>(b ::p) ::ps:=by rw [splitB,if_neg hb];rfl
   rw [e2]
   cases e:splitB 46 r with
   | nil=>exact absurd e hne
   | cons q qs=>simp
theorem vN (s:Str):cw s s.length=splitB 46 s:=by
 unfold cw
 rw [List.take_length]
 have:=jT s [] []
 simp only [List.nil_append] at this
 rw [this]
 cases e:splitB 46 s with
 | nil=>exact absurd e (mV 46 s)
 | cons q qs=>rfl
variable [Tabs]
theorem qg:ag Tryz.prog 135 (p1 .str fun s=>⟨some (s.length<=4096),none,.lst .str (splitB 46 s) none,[]⟩):=by
 refine ax (an.mk' Tryz.func135 (by kernel_rfl)) fun s _ ho=>?_
 have hlen:s.length<=4096:=ho _ rfl
 intro w pub e vs hp ht hv hs hd hi
 obtain ⟨v,rfl,h1⟩:=VL.one_inv hv
 obtain ⟨rfl,hl⟩:=h1.str_inv
 refine (BU s w hlen).mono ?_
 rintro en w' ⟨v,rfl,hown,hb⟩
 have hpl:=lh s s.length (Nat.le_refl _)
 have hmem:=lp s s.length (Nat.le_refl _)
 rw [vN] at hown hpl hmem
 generalize splitB 46 s=xs at *
 rcases hown.2 with ⟨_,h0⟩ | ⟨g,cap,cur,rfl,hg1,hg,hg2,hg3,hg4,hg5⟩
 ·omega
 have hw1:ae .str=1:=rfl
 refine ⟨fun b o=>pub b o∨(w.heap.size<=b/\∃v,w'.cell? ⟨b,o,none⟩=some v),e,?_⟩
 refine And.intro (fun b pv u h=>by cases h) (And.intro ?_ ?_)
 ·refine ni (vs:=xs.map vS) hg (by rw [hw1];exact hg5) ⟨?_,fun j c u hc hu=>?_⟩ hg2 hg3 (fun i hi=>.inr ⟨hg1,?_⟩) (fun id hid=>by cases hid)
  ·rw [bg,hw1];simp
  ·have e1:aY .str xs=xs.map AV.str:=by
    unfold aY
    rw [List.map_eq_flatMap]
    rfl
   rw [e1,List.getElem?_map,Option.map_eq_some_iff] at hc
   rw [List.getElem?_map,Option.map_eq_some_iff] at hu
   obtain ⟨x,hx,rfl⟩:=hc
   obtain ⟨y,hy,rfl⟩:=hu
   rw [hx] at hy
   cases hy
   exact .str x (by have:=hmem x (List.mem_of_getElem? hx);unfold b8;omega)
  ·have:=hown.cellAt i hi
   rw [this]
   exact ⟨_,List.getElem?_eq_getElem (by rw [hown.1];exact hi)⟩
 ·exact {
   os:=hb.os
   tape:=hb.tape
   output:=hb.output
   size:=hb.size
   block:=fun b h _=>hb.block b h
   cell:=fun b o h _=>ah (hb.block b h) o
   kind:=fun b h _=>⟨aR (hb.block b h),fun o=>aK (hb.block b h) o⟩
   ext:=⟨fun _ c h=>⟨c,h,CLe.refl c⟩,fun _ _ h=>.inl h,fun b o h=>by obtain ⟨v,hv⟩:=hp b o h;exact ah (hb.block b (aE hv)) o⟩
   fresh:=fun b o h=>h.elim .inl (fun k=>.inr (.inl k.1))
   ok:=fun b o h=>by
    rcases h with h | h
    ·obtain ⟨v,hv⟩:=hp b o h;exact ⟨v,(ah (hb.block b (aE hv)) o).trans hv⟩
    ·exact h.2
   slots:=fun id o h=>by simp [bU,aM,aF] at h
   dom:=fun id _=>hd id rfl
   inj:=fun i j c d b o h=>by rw [hd i rfl] at h;cases h}
end Go.AL.Seat
end
section
namespace Go.Pd
open Go.AL
def lenT (t:Trm):Bool:=!decide (t.kind=2) || decide (t.name.length<=4096)
def HP (t:Trm):Bool:=aq t && lenT t
structure TokQ (t:Tokn):Prop where
 name:t.kind=1→al t.text=true
 upper:t.kind=2→bB t.text=true
 num:t.kind=3→lU t.text
 quot:t.kind=4→gC t.text=true
 len:t.kind=4→t.text.length<=4096
 pos:0<=t.pos
section
variable {l:List Tokn}
structure AccT (k:Int) (nm:Str) (t:Trm):Prop where
 kind:t.kind=k
 pkg:t.pkg=[]
 name:t.name=nm
 n:t.n=0
 pos:0<=t.pos
 shapes:t.shapes.all aW=true
 parts:∀x∈t.parts,allT HP x=true
end
end Go.Pd
end
section
namespace Go.Pd
open Go.AL
def shK (t:Tokn):Tokn:=⟨t.kind,t.text,t.pos+2⟩
section
variable {A:List Tokn} {e q:Int}
def TL0 (A:List Tokn) (e:Int):List Tokn:=A++[⟨0,[],e⟩]
def TL1 (A:List Tokn) (q:Int):List Tokn:=⟨6,[40],0⟩ ::(A.map shK++[⟨6,[41],q⟩,⟨0,[],q+1⟩])
structure Rlt (A:List Tokn) (e q:Int) (s s':Par):Prop where
 l0:s.toks=TL0 A e
 l1:s'.toks=TL1 A q
 pos:s'.pos=s.pos+1
 lo:0<=s.pos
 hi:s.pos<=(A.length:Int)
 e0:s.err=0
 e1:s'.err=0
variable {σ:Type} {C:σ→σ→Prop}
end
end Go.Pd
end
section
namespace Go.Pd
open Go.AL
section
variable {s:Str}
structure ClT (P:Tokn) (c c':SC):Prop where
 pos:c'.pos=c.pos+2
 out:c'.out=P ::c.out.map shK
variable {P:Tokn}
end
end Go.Pd
end
section
namespace Go.Pd
open Go.AL
def kt (t:Tokn):Int × Str:=(t.kind,t.text)
section
variable {W:Str}
end
end Go.Pd
end
noncomputable section
namespace Go.AL
open Go.Pd
variable [Tabs]
section
variable {P:Program} {f:Nat}
end
end Go.AL
namespace Go.Pd
open Go.AL
def awS:Str:=[109,111,100,117,108,101,32,112,32,105,109,112,111,114,116,32,113,32,112,105,110,32,49,46,50,46,51,32,114,97,110,103,101,32,94,49,46,48,46,48,32,116,121,112,101,32,65,32,61,32,123,97,58,32,73,110,116,125,32,108,101,116,32,102,32,61,32,102,117,110,32,40,120,58,32,65,41,32,45,62,32,120,46,97,32,101,120,112,111,114,116,32,40,102,44,32,65,41]
def awT:Str:=[109,111,100,117,108,101,32,112,32,105,109,112,111,114,116,32,112,32,112,105,110,32,49,46,48,46,48,32,114,97,110,103,101,32,42,32,101,120,112,111,114,116,32,40,41]
end Go.Pd
end
section
open Go Go.AL Go.Pd
namespace Go.AL.Seat
theorem Ex (c:Int)  :
  if decide ((97:Int)<=c)=true then True/\decide (c<=(122:Int))=bO c/\True else True/\false=bO c/\True:=by
 unfold bO;simp only [jE];split <;> simp [*]
theorem Ey (c:Int)  :
  if decide ((65:Int)<=c)=true then True/\decide (c<=(90:Int))=bS c/\True else True/\false=bS c/\True:=by
 unfold bS;simp only [jE];split <;> simp [*]
theorem Ez (c:Int)  :
  if decide ((48:Int)<=c)=true then True/\decide (c<=(57:Int))=bJ c/\True else True/\false=bJ c/\True:=by
 unfold bJ;simp only [jE];split <;> simp [*]
theorem Gf (c:Int)  :
  let A:=True/\true=dx c/\True;if bO c=true then A else if bS c=true then A else if bJ c=true then A else True/\decide (c=(95:Int))=dx c/\True:=by
 conv=>zeta
 unfold dx;cases bO c <;> cases bS c <;> cases bJ c <;> simp
theorem BV (s:Str) (hs:Wf .str s) :
  let A:=True/\false=cu bO s/\True;let B:=(↑(List.length s):Int);let C:=(0:Int);let D:=s=s/\false=false/\B=B/\True;if decide (s=[])=true then A else if decide ((24:Int)<B)=true then A else (C<=C/\C<B)/\if (!bO (↑(UInt8.toNat (List.getD s (Int.toNat C) (0:UInt8))):Int))=true then A else (∃(x:Nat),(x<=List.length s/\cu bO s=List.all (List.drop x s) fun (c:UInt8)=>dx (bI c))/\C=(↑x:Int)/\D)/\∀(x:Nat),let E:=(↑x:Int);(x<=List.length s/\cu bO s=List.all (List.drop x s) fun (c:UInt8)=>dx (bI c))→if decide (E<B)=true then (C<=E/\E<B)/\if (!dx (↑(UInt8.toNat (List.getD s (Int.toNat E) (0:UInt8))):Int))=true then A else inR IntKind.i64 (E+(1:Int))/\∃(y:Nat),(y<=List.length s/\cu bO s=List.all (List.drop y s) fun (c:UInt8)=>dx (bI c))/\List.length s - y<List.length s - x/\E+(1:Int)=(↑y:Int)/\D else True/\true=cu bO s/\True:=by
 conv=>zeta
 have hlen:=hs.str
 have eb:∀b:UInt8,(b.toNat:Int)=bI b:=fun _=>rfl
 simp only [jE,Int.toNat_natCast,Int.toNat_zero,true_and,and_true,eb,cu]
 generalize bO (bI (s.getD 0 0))=f0
 by_cases h0:s=[]
 ·simp [h0]
 have hpos:0 < s.length:=List.length_pos_iff.2 h0
 by_cases h1:s.length<=24
 ·rw [if_neg h0,if_neg (by omega)]
  refine ⟨by omega,?_⟩
  cases f0 with
  | false=>simp
  | true=>
   simp only [Bool.not_true,Bool.false_eq_true,if_false,h0,h1,decide_false,decide_true,Bool.not_false,Bool.true_and]
   refine ⟨⟨0,⟨by omega,rfl⟩,rfl⟩,?_⟩
   rintro k ⟨h3,h4⟩
   split
   ·have hk:k < s.length:=by omega
    rw [ai s k 0 hk,List.all_cons] at h4
    generalize dx (bI (s.getD k 0))=r at h4 ⊢
    refine ⟨by omega,?_⟩
    cases r with
    | false=>simpa using h4.symm
    | true=>
     simp only [Bool.not_true,Bool.false_eq_true,if_false]
     exact ⟨ar hk hlen,k+1,⟨by omega,by simpa using h4⟩,by omega,by omega⟩
   ·have hk:k=s.length:=by omega
    subst hk
    simpa using h4.symm
 ·rw [if_neg h0,if_pos (by omega)]
  simp [h1]
theorem BW (s:Str) (hs:Wf .str s) :
  let A:=True/\false=cu bS s/\True;let B:=(↑(List.length s):Int);let C:=(0:Int);let D:=s=s/\false=false/\B=B/\True;if decide (s=[])=true then A else if decide ((24:Int)<B)=true then A else (C<=C/\C<B)/\if (!bS (↑(UInt8.toNat (List.getD s (Int.toNat C) (0:UInt8))):Int))=true then A else (∃(x:Nat),(x<=List.length s/\cu bS s=List.all (List.drop x s) fun (c:UInt8)=>dx (bI c))/\C=(↑x:Int)/\D)/\∀(x:Nat),let E:=(↑x:Int);(x<=List.length s/\cu bS s=List.all (List.drop x s) fun (c:UInt8)=>dx (bI c))→if decide (E<B)=true then (C<=E/\E<B)/\if (!dx (↑(UInt8.toNat (List.getD s (Int.toNat E) (0:UInt8))):Int))=true then A else inR IntKind.i64 (E+(1:Int))/\∃(y:Nat),(y<=List.length s/\cu bS s=List.all (List.drop y s) fun (c:UInt8)=>dx (bI c))/\List.length s - y<List.length s - x/\E+(1:Int)=(↑y:Int)/\D else True/\true=cu bS s/\True:=by
 conv=>zeta
 have hlen:=hs.str
 have eb:∀b:UInt8,(b.toNat:Int)=bI b:=fun _=>rfl
 simp only [jE,Int.toNat_natCast,Int.toNat_zero,true_and,and_true,eb,cu]
 generalize bS (bI (s.getD 0 0))=f0
 by_cases h0:s=[]
 ·simp [h0]
 have hpos:0 < s.length:=List.length_pos_iff.2 h0
 by_cases h1:s.length<=24
 ·rw [if_neg h0,if_neg (by omega)]
  refine ⟨by omega,?_⟩
  cases f0 with
  | false=>simp
  | true=>
   simp only [Bool.not_true,Bool.false_eq_true,if_false,h0,h1,decide_false,decide_true,Bool.not_false,Bool.true_and]
   refine ⟨⟨0,⟨by omega,rfl⟩,rfl⟩,?_⟩
   rintro k ⟨h3,h4⟩
   split
   ·have hk:k < s.length:=by omega
    rw [ai s k 0 hk,List.all_cons] at h4
    generalize dx (bI (s.getD k 0))=r at h4 ⊢
    refine ⟨by omega,?_⟩
    cases r with
    | false=>simpa using h4.symm
    | true=>
     simp only [Bool.not_true,Bool.false_eq_true,if_false]
     exact ⟨ar hk hlen,k+1,⟨by omega,by simpa using h4⟩,by omega,by omega⟩
   ·have hk:k=s.length:=by omega
    subst hk
    simpa using h4.symm
 ·rw [if_neg h0,if_pos (by omega)]
  simp [h1]
theorem Gg (s:Str)  :
  let A:=101;let B:=True/\true=lS s/\True;if decide (s=([109,111,100,117,108,A]:Str))=true then B else if decide (s=([105,109,112,111,114,116]:Str))=true then B else if decide (s=([112,105,110]:Str))=true then B else if decide (s=([114,97,110,103,A]:Str))=true then B else if decide (s=([116,121,112,A]:Str))=true then B else if decide (s=([111,112,97,113,117,A]:Str))=true then B else if decide (s=([108,A,116]:Str))=true then B else if decide (s=([105,110]:Str))=true then B else if decide (s=([A,120,112,111,114,116]:Str))=true then B else if decide (s=([102,117,110]:Str))=true then B else if decide (s=([105,102]:Str))=true then B else if decide (s=([116,104,A,110]:Str))=true then B else if decide (s=([A,108,115,A]:Str))=true then B else if decide (s=([99,97,115,A]:Str))=true then B else if decide (s=([111,102]:Str))=true then B else if decide (s=([97,115]:Str))=true then B else if decide (s=([110,A,119]:Str))=true then B else if decide (s=([114,97,119]:Str))=true then B else if decide (s=([116,114,117,A]:Str))=true then B else if decide (s=([102,97,108,115,A]:Str))=true then B else True/\false=lS s/\True:=by
 conv=>zeta
 refine aa (fun h=>?_) (fun h0=>?_)
 ·rw [Xo h];exact ⟨trivial,rfl,trivial⟩
 refine aa (fun h=>?_) (fun h1=>?_)
 ·rw [Xo h];exact ⟨trivial,rfl,trivial⟩
 refine aa (fun h=>?_) (fun h2=>?_)
 ·rw [Xo h];exact ⟨trivial,rfl,trivial⟩
 refine aa (fun h=>?_) (fun h3=>?_)
 ·rw [Xo h];exact ⟨trivial,rfl,trivial⟩
 refine aa (fun h=>?_) (fun h4=>?_)
 ·rw [Xo h];exact ⟨trivial,rfl,trivial⟩
 refine aa (fun h=>?_) (fun h5=>?_)
 ·rw [Xo h];exact ⟨trivial,rfl,trivial⟩
 refine aa (fun h=>?_) (fun h6=>?_)
 ·rw [Xo h];exact ⟨trivial,rfl,trivial⟩
 refine aa (fun h=>?_) (fun h7=>?_)
 ·rw [Xo h];exact ⟨trivial,rfl,trivial⟩
 refine aa (fun h=>?_) (fun h8=>?_)
 ·rw [Xo h];exact ⟨trivial,rfl,trivial⟩
 refine aa (fun h=>?_) (fun h9=>?_)
 ·rw [Xo h];exact ⟨trivial,rfl,trivial⟩
 refine aa (fun h=>?_) (fun h10=>?_)
 ·rw [Xo h];exact ⟨trivial,rfl,trivial⟩
 refine aa (fun h=>?_) (fun h11=>?_)
 ·rw [Xo h];exact ⟨trivial,rfl,trivial⟩
 refine aa (fun h=>?_) (fun h12=>?_)
 ·rw [Xo h];exact ⟨trivial,rfl,trivial⟩
 refine aa (fun h=>?_) (fun h13=>?_)
 ·rw [Xo h];exact ⟨trivial,rfl,trivial⟩
 refine aa (fun h=>?_) (fun h14=>?_)
 ·rw [Xo h];exact ⟨trivial,rfl,trivial⟩
 refine aa (fun h=>?_) (fun h15=>?_)
 ·rw [Xo h];exact ⟨trivial,rfl,trivial⟩
 refine aa (fun h=>?_) (fun h16=>?_)
 ·rw [Xo h];exact ⟨trivial,rfl,trivial⟩
 refine aa (fun h=>?_) (fun h17=>?_)
 ·rw [Xo h];exact ⟨trivial,rfl,trivial⟩
 refine aa (fun h=>?_) (fun h18=>?_)
 ·rw [Xo h];exact ⟨trivial,rfl,trivial⟩
 refine aa (fun h=>?_) (fun h19=>?_)
 ·rw [Xo h];exact ⟨trivial,rfl,trivial⟩
 refine ⟨trivial,?_,trivial⟩
 symm
 refine Xf fun hm=>?_
 unfold GB at hm
 rcases List.mem_cons.1 hm with e | hm
 ·exact h0 (Xd e)
 rcases List.mem_cons.1 hm with e | hm
 ·exact h1 (Xd e)
 rcases List.mem_cons.1 hm with e | hm
 ·exact h2 (Xd e)
 rcases List.mem_cons.1 hm with e | hm
 ·exact h3 (Xd e)
 rcases List.mem_cons.1 hm with e | hm
 ·exact h4 (Xd e)
 rcases List.mem_cons.1 hm with e | hm
 ·exact h5 (Xd e)
 rcases List.mem_cons.1 hm with e | hm
 ·exact h6 (Xd e)
 rcases List.mem_cons.1 hm with e | hm
 ·exact h7 (Xd e)
 rcases List.mem_cons.1 hm with e | hm
 ·exact h8 (Xd e)
 rcases List.mem_cons.1 hm with e | hm
 ·exact h9 (Xd e)
 rcases List.mem_cons.1 hm with e | hm
 ·exact h10 (Xd e)
 rcases List.mem_cons.1 hm with e | hm
 ·exact h11 (Xd e)
 rcases List.mem_cons.1 hm with e | hm
 ·exact h12 (Xd e)
 rcases List.mem_cons.1 hm with e | hm
 ·exact h13 (Xd e)
 rcases List.mem_cons.1 hm with e | hm
 ·exact h14 (Xd e)
 rcases List.mem_cons.1 hm with e | hm
 ·exact h15 (Xd e)
 rcases List.mem_cons.1 hm with e | hm
 ·exact h16 (Xd e)
 rcases List.mem_cons.1 hm with e | hm
 ·exact h17 (Xd e)
 rcases List.mem_cons.1 hm with e | hm
 ·exact h18 (Xd e)
 rcases List.mem_cons.1 hm with e | hm
 ·exact h19 (Xd e)
 exact absurd hm List.not_mem_nil
theorem Gh (s:Str)  :
  if cu bO s=true then True/\(!lS s)=al s/\True else True/\false=al s/\True:=by
 unfold al;cases cu bO s <;> simp
theorem EA (s:Str)  :
  True/\cu bS s=bB s/\True:=by
 simp [bB]
theorem EB (s:Str)  :
  let A:=True/\true=jH s/\True;if decide (s=([73,110,116]:Str))=true then A else if decide (s=([66,111,111,108]:Str))=true then A else if decide (s=([84,101,120,116]:Str))=true then A else True/\decide (s=([65,110,121]:Str))=jH s/\True:=by
 conv=>zeta
 simp only [eq_self,true_and,and_true,jH]
 by_cases a:s=[73,110,116] <;> by_cases b:s=[66,111,111,108] <;> by_cases c:s=[84,101,120,116] <;> by_cases d:s=[65,110,121] <;> simp [a,b,c,d]
theorem BX (a:List Str)  :
  True/\a=a/\True:=by
 trivial
theorem EC (s:Shape) (hs:Wf (.st .shape) s) (ho:s.parts.length *16<=140737488355328) :
  let A:=(↑(List.length s.names):Int);let B:=True/\false=cN s/\True;let C:=List.length s.names=List.length s.parts;let D:=s=s/\false=false/\s.names=s.names/\A=A/\s=s/\True;let E:=(List.mergeSort s.names fun (x y:Str)=>decide (x<=y));if (!decide (A=(↑(List.length s.parts):Int)))=true then B else (∃(x:Nat),(x<=List.length s.names/\C/\cN s=(List.all (List.drop x s.names) al && decide (List.Nodup s.names)))/\(0:Int)=(↑x:Int)/\D)/\∀(x:Nat),let F:=(↑x:Int);x<=List.length s.names/\C/\cN s=(List.all (List.drop x s.names) al && decide (List.Nodup s.names))→if decide (F<A)=true then ((0:Int)<=F/\F<A)/\if (!al (List.getD s.names (Int.toNat F) (dfl Ty.str)))=true then B else inR IntKind.i64 (F+(1:Int))/\∃(y:Nat),(y<=List.length s.names/\C/\cN s=(List.all (List.drop y s.names) al && decide (List.Nodup s.names)))/\List.length s.names - y<List.length s.names - x/\F+(1:Int)=(↑y:Int)/\D else List.length s.names*(16:Nat)<=(140737488355328:Nat)/\List.length E=List.length E/\True/\decide ((↑(List.length (Lib.compact E)):Int)=A)=cN s/\True:=by
 conv=>zeta
 have ln:=hs.names.len
 simp only [Int.toNat_natCast,eq_self,true_and,and_true]
 refine aa (fun h=>?_) (fun h=>?_)
 ·have:s.names.length≠s.parts.length:=by simp at h;omega
  simp [cN,this]
 have hl:s.names.length=s.parts.length:=by simp at h;omega
 refine ⟨⟨0,⟨by omega,hl,by simp [cN,hl]⟩,rfl⟩,?_⟩
 rintro k ⟨h1,_,h3⟩
 refine aa (fun h=>?_) (fun h=>?_)
 ·replace h:=Xo h
  have hk:k < s.names.length:=by omega
  rw [ai s.names k (dfl .str) hk] at h3
  refine ⟨by omega,?_⟩
  simp only [List.all_cons] at h3
  cases e:al (s.names.getD k (dfl .str))
  ·rw [e] at h3;rw [h3];simp
  ·simp only [e,Bool.true_and] at h3
   exact ⟨ar hk ln,k+1,⟨by omega,hl,h3⟩,by omega,by omega⟩
 ·replace h:¬((k:Int) < (s.names.length:Int)):=fun e=>h (Xd e)
  have e:k=s.names.length:=by omega
  subst e
  have hc:=gx s.names
  unfold ea at hc
  refine ⟨by omega,?_⟩
  rw [h3,List.drop_length]
  simp only [List.all_nil,Bool.true_and]
  rw [decide_eq_decide,←hc]
  omega
theorem Gi (s:Shape) (hs:Wf (.st .shape) s) (ho:s.parts.length *16<=140737488355328) :
  let A:=(0:Int);let B:=True;let C:=(↑(List.length s.parts):Int);let D:=B/\false=aV s/\B;let E:=if decide ((↑(List.length s.names):Int)=A)=true then B/\decide (C=A)=aV s/\B else D;let F:=if decide (s.name=[])=true then E else D;let G:=if decide (s.name=[])=true then List.length s.parts*(16:Nat)<=(140737488355328:Nat)/\B/\cN s=aV s/\B else D;let H:=if al s.pkg=true then E else D;let I:=if decide (s.kind=(9:Int))=true then if bB s.name=true then if decide (s.pkg=[])=true then if (!jH s.name)=true then E else H else H else D else if decide (s.kind=(10:Int))=true then if bB s.name=true then H else D else D;if decide (s.pkg=[])=true then if decide (s.kind=(1:Int))=true then F else if decide (s.kind=(2:Int))=true then F else if decide (s.kind=(3:Int))=true then F else if decide (s.kind=(4:Int))=true then F else if decide (s.kind=(5:Int))=true then if decide (s.name=[])=true then if decide ((↑(List.length s.names):Int)=A)=true then B/\decide (C=(1:Int))=aV s/\B else D else D else if decide (s.kind=(6:Int))=true then G else if decide (s.kind=(7:Int))=true then G else if decide (s.kind=(8:Int))=true then if decide (s.name=[])=true then if decide ((↑(List.length s.names):Int)=A)=true then B/\decide (A<C)=aV s/\B else D else D else I else if decide (s.kind=(1:Int))=true then D else if decide (s.kind=(2:Int))=true then D else if decide (s.kind=(3:Int))=true then D else if decide (s.kind=(4:Int))=true then D else if decide (s.kind=(5:Int))=true then D else if decide (s.kind=(6:Int))=true then D else if decide (s.kind=(7:Int))=true then D else if decide (s.kind=(8:Int))=true then D else I:=by
 conv=>zeta
 have n0:((s.names.length:Int)=0)↔s.names=[]:=by rw [←List.length_eq_zero_iff];omega
 have p0:((s.parts.length:Int)=0)↔s.parts=[]:=by rw [←List.length_eq_zero_iff];omega
 have p1:((s.parts.length:Int)=1)↔s.parts.length=1:=by omega
 have p2:(0 < (s.parts.length:Int))↔¬s.parts=[]:=by rw [←List.length_eq_zero_iff];omega
 simp only [n0,p0,p1,p2,decide_eq_true_eq,true_and,and_true,ho]
 have hf:aV s=aV s:=rfl
 conv at hf=>rhs;unfold aV
 revert hf
 generalize aV s=F
 generalize cN s=A
 generalize bB s.name=B
 generalize al s.pkg=C
 generalize jH s.name=D
 generalize s.kind=K
 intro hf
 repeat' (refine aa (fun _=>?_) (fun _=>?_))
 all_goals (subst hf;simp_all)
theorem yM (n:Nat) (s:Shape) (hs:Wf (.st .shape) s) (hn:sz s<=n+1) (hb:n<=1000000) :
  let A:=True/\false=allS aV s/\True;let B:=(↑(List.length s.parts):Int);let C:=s=s/\false=false/\s.parts=s.parts/\B=B/\s=s/\True;let D:=dfl (Ty.st SN.shape);List.length s.parts*(16:Nat)<=(140737488355328:Nat)/\if (!aV s)=true then A else (∃(x:Nat),(x<=List.length s.parts/\allS aV s=allL aV (List.drop x s.parts))/\(0:Int)=(↑x:Int)/\C)/\∀(x:Nat),let E:=(↑x:Int);let F:=List.getD s.parts (Int.toNat E) D;x<=List.length s.parts/\allS aV s=allL aV (List.drop x s.parts)→if decide (E<B)=true then ((0:Int)<=E/\E<B)/\sz F<=n/\if (!allS aV F)=true then A else inR IntKind.i64 (E+(1:Int))/\∃(y:Nat),(y<=List.length s.parts/\allS aV s=allL aV (List.drop y s.parts))/\List.length s.parts - y<List.length s.parts - x/\E+(1:Int)=(↑y:Int)/\C else True/\true=allS aV s/\True:=by
 conv=>zeta
 have ln:=hs.parts.len
 have hz:=gz s
 have hl:=lT s.parts
 simp only [Int.toNat_natCast,eq_self,true_and,and_true]
 refine ⟨by omega,aa (fun h=>?_) (fun h=>?_)⟩
 ·rw [eC];simp at h;simp [h]
 refine ⟨⟨0,⟨by omega,by rw [eC];simp at h;simp [h]⟩,rfl⟩,?_⟩
 rintro k ⟨h1,h3⟩
 refine aa (fun h=>?_) (fun h=>?_)
 ·replace h:=Xo h
  have hk:k < s.parts.length:=by omega
  have hm:=dA (aL s.parts k (dfl (.st .shape)) hk)
  rw [ai s.parts k (dfl (.st .shape)) hk] at h3
  simp only [allL] at h3
  refine ⟨by omega,by omega,?_⟩
  cases e:allS aV (s.parts.getD k (dfl (.st .shape)))
  ·rw [e] at h3;rw [h3];simp
  ·simp only [e,Bool.true_and] at h3
   exact ⟨ar hk ln,k+1,⟨by omega,h3⟩,by omega,by omega⟩
 ·replace h:¬((k:Int) < (s.parts.length:Int)):=fun e=>h (Xd e)
  have e:k=s.parts.length:=by omega
  subst e
  rw [h3,List.drop_length];rfl
theorem ED (s:Shape)  :
  let A:=True;if (!decide (sz s<=(400:Nat)))=true then A/\(3:Int)=bj s/\A else if decide ((40:Int)<if sz s<=(400:Nat) then deepS s (1:Int) else (0:Int))=true then A/\(91:Int)=bj s/\A else sz s<=(400:Nat)/\if (!allS aV s)=true then A/\(70:Int)=bj s/\A else A/\(0:Int)=bj s/\A:=by
 conv=>zeta
 unfold bj
 by_cases h1:sz s<=400
 ·rw [if_neg (by simp [h1]),if_pos h1,if_neg (show ¬400 < sz s by omega)]
  by_cases h2:(40:Int) < deepS s 1
  ·rw [if_pos (by simp [h2]),if_pos h2];exact ⟨trivial,rfl,trivial⟩
  ·rw [if_neg (by simp [h2]),if_neg h2]
   refine ⟨h1,?_⟩
   cases allS aV s <;> simp
 ·rw [if_pos (by simp [h1]),if_pos (show 400 < sz s by omega)];exact ⟨trivial,rfl,trivial⟩
theorem Gj (n:Nat) (s:Shape) (m:Int) (hs:Wf (.st .shape) s) (ho:sz s<=n+1/\0<=m/\m<=1000000) :
  let A:=(1:Int);let B:=(0:Int);let C:=s=s/\m=m/\B=B/\s=s/\True;let D:=(↑(List.length s.parts):Int);let E:=dfl (Ty.st SN.shape);(∃(x:Nat × Int),(x.1<=List.length s.parts/\A<=x.2/\x.2<=m+A/\sizeL (List.drop x.1 s.parts) x.2 m=sizeF s m)/\A=x.2/\B=(↑x.1:Int)/\C)/\∀(x:Nat × Int),let F:=(↑x.1:Int);let G:=m - x.2;let H:=List.getD s.parts (Int.toNat F) E;let I:=True/\x.2=sizeF s m/\True;x.1<=List.length s.parts/\A<=x.2/\x.2<=m+A/\sizeL (List.drop x.1 s.parts) x.2 m=sizeF s m→if decide (F<D)=true then if decide (x.2<=m)=true then (B<=F/\F<D)/\inR IntKind.i64 G/\(sz H<=n/\B<=m - x.2/\m - x.2<=(1000000:Int))/\inR IntKind.i64 (x.2+sizeF H G)/\inR IntKind.i64 (F+A)/\∃(y:Nat × Int),(y.1<=List.length s.parts/\A<=y.2/\y.2<=m+A/\sizeL (List.drop y.1 s.parts) y.2 m=sizeF s m)/\List.length s.parts - y.1<List.length s.parts - x.1/\x.2+sizeF H G=y.2/\F+A=(↑y.1:Int)/\C else I else I:=by
 conv=>zeta
 have ln:=hs.parts.len
 have hz:=gz s
 obtain ⟨ho1,ho2,ho3⟩:=ho
 have h0:sizeL s.parts 1 m=sizeF s m:=by cases s;rfl
 simp only [Int.toNat_natCast,eq_self,true_and,and_true]
 refine ⟨⟨(0,1),⟨Nat.zero_le _,by omega,by omega,h0⟩,rfl,rfl⟩,?_⟩
 rintro ⟨k,c⟩ ⟨h1,h2,h3,h4⟩
 simp only at h1 h2 h3 h4 ⊢
 refine aa (fun hk=>?_) (fun hk=>?_)
 ·replace hk:=Xo hk
  have hk:k < s.parts.length:=by omega
  have hm:=dA (aL s.parts k (dfl (.st .shape)) hk)
  rw [ai s.parts k (dfl (.st .shape)) hk] at h4
  simp only [sizeL] at h4
  refine aa (fun hc=>?_) (fun hc=>?_)
  ·replace hc:=Xo hc
   rw [if_pos hc] at h4
   have hb:=sizeF_bd (s.parts.getD k (dfl (.st .shape))) (m - c) (by omega)
   exact ⟨by omega,aJ (by omega) (by omega),by omega,aJ (by omega) (by omega),ar hk ln,(k+1,_),⟨by omega,by simp only;omega,by simp only;omega,h4⟩,by simp only;omega,rfl,rfl⟩
  ·rw [if_neg (fun e=>hc (Xd e))] at h4
   exact h4
 ·replace hk:¬((k:Int) < (s.parts.length:Int)):=fun e=>hk (Xd e)
  have e:k=s.parts.length:=by omega
  subst e
  rw [List.drop_length] at h4
  exact h4
theorem BY (c:Int)  :
  if decide ((97:Int)<=c)=true then True/\decide (c<=(122:Int))=bO c/\True else True/\false=bO c/\True:=by
 simp only [true_and,and_true]
 unfold bO
 by_cases h:(97:Int)<=c
 ·rw [if_pos (Xd h)];simp [h]
 ·rw [if_neg (by simpa using h)];simp [h]
theorem BZ (c:Int)  :
  if decide ((65:Int)<=c)=true then True/\decide (c<=(90:Int))=bS c/\True else True/\false=bS c/\True:=by
 simp only [true_and,and_true]
 unfold bS
 by_cases h:(65:Int)<=c
 ·rw [if_pos (Xd h)];simp [h]
 ·rw [if_neg (by simpa using h)];simp [h]
theorem C0 (c:Int)  :
  if decide ((48:Int)<=c)=true then True/\decide (c<=(57:Int))=bJ c/\True else True/\false=bJ c/\True:=by
 simp only [true_and,and_true]
 unfold bJ
 by_cases h:(48:Int)<=c
 ·rw [if_pos (Xd h)];simp [h]
 ·rw [if_neg (by simpa using h)];simp [h]
theorem EE (s:Str) (hs:Wf .str s) :
  let A:=(0:Int);let B:=s=s/\A=A/\True;let C:=(↑(List.length s):Int);let D:=(0:UInt8);let E:=(1:Int);let F:=(↑(dc s):Int);(∃(x:Nat),(x<=List.length s/\dc s=x+dc (List.drop x s))/\A=(↑x:Int)/\B)/\∀(x:Nat),let G:=(↑x:Int);let H:=A<=G/\G<C;let I:=(↑(UInt8.toNat (List.getD s (Int.toNat G) D)):Int);let J:=inR IntKind.i64 (G+E)/\∃(y:Nat),(y<=List.length s/\dc s=y+dc (List.drop y s))/\List.length s - y<List.length s - x/\G+E=(↑y:Int)/\B;let K:=True/\G=F/\True;x<=List.length s/\dc s=x+dc (List.drop x s)→if decide (G<C)=true then H/\if bO I=true then J else H/\if bS I=true then J else H/\if bJ I=true then J else H/\if decide (I=(95:Int))=true then J else K else K:=by
 conv=>zeta
 have ln:=hs.str
 have eb:∀b:UInt8,(b.toNat:Int)=bI b:=fun _=>rfl
 simp only [Int.toNat_natCast,eq_self,true_and,and_true,eb]
 refine ⟨⟨0,⟨Nat.zero_le _,by simp⟩,rfl⟩,?_⟩
 rintro k ⟨h1,h2⟩
 refine aa (fun h=>?_) (fun h=>?_)
 ·replace h:=Xo h
  have hk:k < s.length:=by omega
  rw [ai s k 0 hk] at h2
  simp only [dc] at h2
  have fin:dx (bI (s.getD k 0))=true→(inR IntKind.i64 ((k:Int)+1)/\∃y:Nat,(y<=s.length/\dc s=y+dc (s.drop y))/\s.length - y < s.length - k/\(k:Int)+1=(y:Int)):=by
   intro e
   rw [if_pos e] at h2
   exact ⟨ar hk ln,k+1,⟨by omega,by omega⟩,by omega,by omega⟩
  have hr:dx (bI (s.getD k 0))=(bO (bI (s.getD k 0)) || bS (bI (s.getD k 0)) || bJ (bI (s.getD k 0)) || decide (bI (s.getD k 0)=95)):=rfl
  refine ⟨by omega,aa (fun a=>fin (by rw [hr,a];simp)) (fun a=>⟨by omega,aa (fun b=>fin (by rw [hr,b];simp)) (fun b=>⟨by omega,aa (fun c=>fin (by rw [hr,c];simp)) (fun c=>⟨by omega,aa (fun d=>fin (by rw [hr,d];simp)) (fun d=>?_)⟩)⟩)⟩)⟩
  rw [if_neg ?_] at h2
  ·omega
  ·rw [hr];simp only [Bool.not_eq_true] at a b c d;rw [a,b,c,d];simp
 ·replace h:¬((k:Int) < (s.length:Int)):=fun e=>h (Xd e)
  have e:k=s.length:=by omega
  subst e
  rw [List.drop_length] at h2
  simp only [dc] at h2
  omega
theorem EF (s:Str) (l:List Str) (hl:Wf (.lst .str) l) :
  let A:=s=s/\l=l/\True;let B:=(↑(List.length l):Int);(∃(x:Nat),(x<=List.length l/\decide (s∈l)=decide (s∈List.drop x l))/\(0:Int)=(↑x:Int)/\A)/\∀(x:Nat),let C:=(↑x:Int);x<=List.length l/\decide (s∈l)=decide (s∈List.drop x l)→if decide (C<B)=true then ((0:Int)<=C/\C<B)/\if decide (s=List.getD l (Int.toNat C) (dfl Ty.str))=true then True/\true=decide (s∈l)/\True else inR IntKind.i64 (C+(1:Int))/\∃(y:Nat),(y<=List.length l/\decide (s∈l)=decide (s∈List.drop y l))/\List.length l - y<List.length l - x/\C+(1:Int)=(↑y:Int)/\A else True/\false=decide (s∈l)/\True:=by
 conv=>zeta
 have ln:=hl.len
 simp only [Int.toNat_natCast,eq_self,true_and,and_true]
 refine ⟨⟨0,⟨Nat.zero_le _,by simp⟩,rfl⟩,?_⟩
 rintro k ⟨h1,h2⟩
 refine aa (fun h=>?_) (fun h=>?_)
 ·replace h:=Xo h
  have hk:k < l.length:=by omega
  rw [ai l k (dfl .str) hk] at h2
  refine ⟨by omega,aa (fun a=>?_) (fun a=>?_)⟩
  ·rw [h2,Xo a];simp
  ·refine ⟨ar hk ln,k+1,⟨by omega,?_⟩,by omega,by omega⟩
   rw [h2,decide_eq_decide,List.mem_cons]
   constructor
   ·rintro (h | h)
    ·exact absurd (Xd h) a
    ·exact h
   ·exact Or.inr
 ·replace h:¬((k:Int) < (l.length:Int)):=fun e=>h (Xd e)
  have e:k=l.length:=by omega
  subst e
  rw [h2,List.drop_length];simp
theorem EG (s:Str)  :
  let A:=101;True/\decide (s∈[([109,111,100,117,108,A]:Str),([105,109,112,111,114,116]:Str),([112,105,110]:Str),([114,97,110,103,A]:Str),([116,121,112,A]:Str),([111,112,97,113,117,A]:Str),([108,A,116]:Str),([105,110]:Str),([A,120,112,111,114,116]:Str),([102,117,110]:Str),([105,102]:Str),([116,104,A,110]:Str),([A,108,115,A]:Str),([99,97,115,A]:Str),([111,102]:Str),([97,115]:Str),([110,A,119]:Str),([114,97,119]:Str),([116,114,117,A]:Str),([102,97,108,115,A]:Str)])=lS s/\True:=by
 conv=>zeta
 exact ⟨trivial,rfl,trivial⟩
theorem EH (s:Str)  :
  let A:=(↑(List.length s):Int);let B:=(0:Int);let C:=True/\false=al s/\True;if (!decide (s=[]))=true then if decide (A<=(24:Int))=true then (B<=B/\B<A)/\if bO (↑(UInt8.toNat (List.getD s (Int.toNat B) (0:UInt8))):Int)=true then if decide ((↑(dc s):Int)=A)=true then True/\(!lS s)=al s/\True else C else C else C else C:=by
 conv=>zeta
 have eb:∀b:UInt8,(b.toNat:Int)=bI b:=fun _=>rfl
 simp only [Int.toNat_natCast,Int.toNat_zero,eq_self,true_and,and_true,eb]
 have hF:al s=(!decide (s=[]) && decide (s.length<=24) && bO (bI (s.getD 0 0)) && decide (dc s=s.length) && !lS s):=by unfold al;rw [nE]
 refine aa (fun a=>?_) (fun a=>?_)
 ·have a':decide (s=[])=false:=by simpa using a
  have hpos:0 < s.length:=List.length_pos_iff.2 (of_decide_eq_false a')
  refine aa (fun b=>?_) (fun b=>?_)
  ·have b':s.length<=24:=by have:=Xo b;omega
   refine ⟨by omega,aa (fun c=>?_) (fun c=>?_)⟩
   ·refine aa (fun d=>?_) (fun d=>?_)
    ·have d':dc s=s.length:=by have:=Xo d;omega
     rw [hF,a',c,d'];simp [b']
    ·have d':¬dc s=s.length:=fun e=>d (Xd (by omega))
     rw [hF];simp [d']
   ·simp only [Bool.not_eq_true] at c
    rw [hF,c];simp
  ·have b':¬s.length<=24:=fun e=>b (Xd (by omega))
   rw [hF];simp [b']
 ·have a':decide (s=[])=true:=by simpa using a
  rw [hF,a'];simp
theorem C1 (s:Str)  :
  let A:=(↑(List.length s):Int);let B:=(0:Int);let C:=True/\false=bB s/\True;if (!decide (s=[]))=true then if decide (A<=(24:Int))=true then (B<=B/\B<A)/\if bS (↑(UInt8.toNat (List.getD s (Int.toNat B) (0:UInt8))):Int)=true then True/\decide ((↑(dc s):Int)=A)=bB s/\True else C else C else C:=by
 conv=>zeta
 have eb:∀b:UInt8,(b.toNat:Int)=bI b:=fun _=>rfl
 simp only [Int.toNat_natCast,Int.toNat_zero,eq_self,true_and,and_true,eb]
 have hF:bB s=(!decide (s=[]) && decide (s.length<=24) && bS (bI (s.getD 0 0)) && decide (dc s=s.length)):=by unfold bB;rw [nE]
 refine aa (fun a=>?_) (fun a=>?_)
 ·have a':decide (s=[])=false:=by simpa using a
  have hpos:0 < s.length:=List.length_pos_iff.2 (of_decide_eq_false a')
  refine aa (fun b=>?_) (fun b=>?_)
  ·have b':s.length<=24:=by have:=Xo b;omega
   refine ⟨by omega,aa (fun c=>?_) (fun c=>?_)⟩
   ·rw [hF,a',c]
    simp [b',Int.ofNat_inj]
   ·simp only [Bool.not_eq_true] at c
    rw [hF,c];simp
  ·have b':¬s.length<=24:=fun e=>b (Xd (by omega))
   rw [hF];simp [b']
 ·have a':decide (s=[])=true:=by simpa using a
  rw [hF,a'];simp
theorem C2 (ns:List Str) (n:Int) (hl:Wf (.lst .str) ns) :
  let A:=(0:Int);let B:=True;let C:=ns=ns/\n=n/\B;let D:=(↑(List.length ns):Int);let E:=dfl Ty.str;let F:=B/\false=fO ns n/\B;let G:=ns=ns/\n=n/\true=true/\false=false/\B;let H:=(1:Int);(∃(x:Nat),let I:=List.take x ns;(x<=List.length ns/\List.all I al=true/\List.Nodup I)/\A=(↑x:Int)/\C)/\∀(x:Nat),let I:=List.take x ns;let J:=(↑x:Int);let K:=A<=J/\J<D;let L:=Int.toNat J;x<=List.length ns/\List.all I al=true/\List.Nodup I→if decide (J<D)=true then K/\if (!al (List.getD ns L E))=true then F else (∃(x_1:Nat),let M:=(↑x_1:Int);(M<=J/\¬List.getD ns L E∈List.take x_1 ns)/\A=M/\J=J/\G)/\∀(x_1:Nat),let M:=(↑x_1:Int);M<=J/\¬List.getD ns L E∈List.take x_1 ns→if decide (M<J)=true then (A<=M/\M<D)/\K/\if decide (List.getD ns (Int.toNat M) E=List.getD ns L E)=true then F else inR IntKind.i64 (M+H)/\∃(y:Nat),((↑y:Int)<=J/\¬List.getD ns L E∈List.take y ns)/\Int.toNat J - y<Int.toNat J - x_1/\M+H=(↑y:Int)/\J=J/\G else inR IntKind.i64 (J+H)/\∃(y:Nat),let N:=List.take y ns;(y<=List.length ns/\List.all N al=true/\List.Nodup N)/\List.length ns - y<List.length ns - x/\J+H=(↑y:Int)/\C else B/\decide (D=n)=fO ns n/\B:=by
 conv=>zeta
 have ln:=hl.len
 simp only [Int.toNat_natCast,eq_self,true_and,and_true]
 refine ⟨⟨0,⟨Nat.zero_le _,by simp,by simp⟩,rfl⟩,?_⟩
 rintro k ⟨h1,h2,h3⟩
 refine aa (fun h=>?_) (fun h=>?_)
 ·replace h:=Xo h
  have hk:k < ns.length:=by omega
  have hmem:=aL ns k (dfl .str) hk
  have ht:=bw ns k (dfl .str) hk
  refine ⟨by omega,aa (fun a=>?_) (fun a=>?_)⟩
  ·have a':ns.all al=false:=by
    rw [Bool.eq_false_iff]
    intro e
    have:=List.all_eq_true.1 e _ hmem
    rw [this] at a
    simp at a
   unfold fO
   rw [a']
   simp
  ·have a':al (ns.getD k (dfl .str))=true:=by simpa using a
   refine ⟨⟨0,⟨by omega,by simp⟩,rfl⟩,?_⟩
   rintro j ⟨j1,j2⟩
   refine aa (fun b=>?_) (fun b=>?_)
   ·replace b:=Xo b
    have hj:j < k:=by omega
    have hjn:j < ns.length:=by omega
    have htj:=bw ns j (dfl .str) hjn
    refine ⟨by omega,by omega,aa (fun c=>?_) (fun c=>?_)⟩
    ·replace c:=Xo c
     have hnd:¬ns.Nodup:=by
      intro hn
      rw [List.nodup_iff_pairwise_ne] at hn
      have:=List.pairwise_iff_getElem.1 hn j k hjn hk hj
      rw [List.getD_eq_getElem?_getD,List.getD_eq_getElem?_getD,List.getElem?_eq_getElem hjn,List.getElem?_eq_getElem hk] at c
      exact this c
     unfold fO
     simp [hnd]
    ·refine ⟨ar hjn ln,j+1,⟨by omega,?_⟩,by omega,by omega⟩
     rw [htj,List.mem_append,List.mem_singleton,not_or]
     exact ⟨j2,fun e=>c (Xd e.symm)⟩
   ·have hj:j=k:=by
     have:¬((j:Int) < (k:Int)):=fun e=>b (Xd e)
     omega
    subst hj
    refine ⟨ar hk ln,j+1,⟨by omega,?_,?_⟩,by omega,by omega⟩
    ·rw [ht,List.all_append,h2];simpa using a'
    ·rw [ht,List.nodup_append]
     refine ⟨h3,by simp,fun x hx y hy=>?_⟩
     rw [List.mem_singleton] at hy
     subst hy
     intro e
     subst e
     exact j2 hx
 ·replace h:¬((k:Int) < (ns.length:Int)):=fun e=>h (Xd e)
  have e:k=ns.length:=by omega
  subst e
  rw [List.take_length] at h2 h3
  unfold fO
  rw [h2]
  simp [h3]
theorem EI (s:Shape) (hs:Wf (.st .shape) s) :
  let A:=(↑(List.length s.names):Int);let B:=(0:Int);let C:=True;let D:=(↑(List.length s.parts):Int);let E:=C/\decide (D=B)=aV s/\C;let F:=C/\false=aV s/\C;let G:=if decide (A=B)=true then E else F;let H:=if bB s.name=true then G else F;let I:=if bB s.name=true then F else F;let J:=if al s.pkg=true then H else if decide (s.pkg=[])=true then if decide (s.kind=(9:Int))=true then I else I else I;let K:=if decide (s.name=([73,110,116]:Str))=true then J else if decide (s.name=([66,111,111,108]:Str))=true then J else if decide (s.name=([84,101,120,116]:Str))=true then J else if al s.pkg=true then H else if decide (s.pkg=[])=true then if decide (s.kind=(9:Int))=true then if bB s.name=true then if (!decide (s.name=([65,110,121]:Str)))=true then G else F else F else I else I;let L:=C/\fO s.names D=aV s/\C;let M:=(1:Int);if decide (s.kind=(9:Int))=true then K else if decide (s.kind=(10:Int))=true then K else if (!decide (s.pkg=[]))=true then F else if (!decide (s.name=[]))=true then F else if decide (s.kind=(6:Int))=true then L else if decide (s.kind=(7:Int))=true then L else if decide (B<A)=true then F else if decide (s.kind=(8:Int))=true then C/\decide (M<=D)=aV s/\C else if decide (s.kind=(5:Int))=true then C/\decide (D=M)=aV s/\C else if decide (M<=s.kind)=true then if decide (s.kind<=(4:Int))=true then E else F else F:=by
 conv=>zeta
 have n0:((s.names.length:Int)=0)↔s.names=[]:=by rw [←List.length_eq_zero_iff];omega
 have n1:(0 < (s.names.length:Int))↔¬s.names=[]:=by rw [←List.length_eq_zero_iff];omega
 have p0:((s.parts.length:Int)=0)↔s.parts=[]:=by rw [←List.length_eq_zero_iff];omega
 have p1:((s.parts.length:Int)=1)↔s.parts.length=1:=by omega
 have p2:(1<=(s.parts.length:Int))↔¬s.parts=[]:=by rw [←List.length_eq_zero_iff];omega
 have hn:fO s.names (s.parts.length:Int)=cN s:=by
  unfold fO cN
  rw [decide_eq_decide.2 (show ((s.names.length:Int)=(s.parts.length:Int))↔s.names.length=s.parts.length by omega)]
 simp only [n0,n1,p0,p1,p2,hn,decide_eq_true_eq,true_and,and_true]
 have hf:aV s=aV s:=rfl
 conv at hf=>rhs;unfold aV
 unfold jH at hf
 have hk:(s.kind=1∨s.kind=2∨s.kind=3∨s.kind=4)↔(1<=s.kind/\s.kind<=4):=by omega
 simp only [hk] at hf
 clear hk n0 n1 p0 p1 p2 hn
 revert hf
 generalize aV s=F
 generalize cN s=A
 generalize bB s.name=B
 generalize al s.pkg=C
 generalize s.kind=K
 intro hf
 repeat' (refine aa (fun _=>?_) (fun _=>?_))
 all_goals (subst hf;(try simp_all);try (intros;omega))
theorem EJ (n:Nat) (s:Shape) (hs:Wf (.st .shape) s) (hn:sz s<=n+1) :
  let A:=True/\false=allS aV s/\True;let B:=s=s/\false=false/\s=s/\True;let C:=(↑(List.length s.parts):Int);let D:=dfl (Ty.st SN.shape);if (!aV s)=true then A else (∃(x:Nat),(x<=List.length s.parts/\allS aV s=allL aV (List.drop x s.parts))/\(0:Int)=(↑x:Int)/\B)/\∀(x:Nat),let E:=(↑x:Int);let F:=List.getD s.parts (Int.toNat E) D;x<=List.length s.parts/\allS aV s=allL aV (List.drop x s.parts)→if decide (E<C)=true then ((0:Int)<=E/\E<C)/\sz F<=n/\if (!allS aV F)=true then A else inR IntKind.i64 (E+(1:Int))/\∃(y:Nat),(y<=List.length s.parts/\allS aV s=allL aV (List.drop y s.parts))/\List.length s.parts - y<List.length s.parts - x/\E+(1:Int)=(↑y:Int)/\B else True/\true=allS aV s/\True:=by
 conv=>zeta
 have ln:=hs.parts.len
 have hz:=gz s
 simp only [Int.toNat_natCast,eq_self,true_and,and_true]
 refine aa (fun h=>?_) (fun h=>?_)
 ·have h:aV s=false:=by simpa using h
  rw [eC,h];rfl
 have h:aV s=true:=by simpa using h
 refine ⟨⟨0,⟨Nat.zero_le _,by rw [eC,h];rfl⟩,rfl⟩,?_⟩
 rintro k ⟨h1,h3⟩
 refine aa (fun h=>?_) (fun h=>?_)
 ·replace h:=Xo h
  have hk:k < s.parts.length:=by omega
  have hm:=dA (aL s.parts k (dfl (.st .shape)) hk)
  rw [ai s.parts k (dfl (.st .shape)) hk] at h3
  simp only [allL] at h3
  refine ⟨by omega,by omega,?_⟩
  cases e:allS aV (s.parts.getD k (dfl (.st .shape)))
  ·rw [e] at h3;rw [h3];simp
  ·simp only [e,Bool.true_and] at h3
   exact ⟨ar hk ln,k+1,⟨by omega,h3⟩,by omega,by omega⟩
 ·replace h:¬((k:Int) < (s.parts.length:Int)):=fun e=>h (Xd e)
  have e:k=s.parts.length:=by omega
  subst e
  rw [h3,List.drop_length];rfl
theorem Gk (n:Nat) (s:Shape) (hs:Wf (.st .shape) s) (hn:sz s<=n+1) (hb:n<=1000000) :
  let A:=(0:Int);let B:=(↑(maxDeep s.parts):Int);let C:=s=s/\A=A/\s=s/\True;let D:=(↑(List.length s.parts):Int);let E:=dfl (Ty.st SN.shape);let F:=(1:Int);(∃(x:Nat × Int),(x.1<=List.length s.parts/\A<=x.2/\max x.2 (↑(maxDeep (List.drop x.1 s.parts)):Int)=B)/\A=x.2/\A=(↑x.1:Int)/\C)/\∀(x:Nat × Int),let G:=(↑x.1:Int);let H:=List.getD s.parts (Int.toNat G) E;let I:=(↑(deepF H):Int);let J:=inR IntKind.i64 (G+F);x.1<=List.length s.parts/\A<=x.2/\max x.2 (↑(maxDeep (List.drop x.1 s.parts)):Int)=B→if decide (G<D)=true then (A<=G/\G<D)/\sz H<=n/\if decide (x.2<I)=true then J/\∃(y:Nat × Int),(y.1<=List.length s.parts/\A<=y.2/\max y.2 (↑(maxDeep (List.drop y.1 s.parts)):Int)=B)/\List.length s.parts - y.1<List.length s.parts - x.1/\I=y.2/\G+F=(↑y.1:Int)/\C else J/\∃(y:Nat × Int),(y.1<=List.length s.parts/\A<=y.2/\max y.2 (↑(maxDeep (List.drop y.1 s.parts)):Int)=B)/\List.length s.parts - y.1<List.length s.parts - x.1/\x.2=y.2/\G+F=(↑y.1:Int)/\C else inR IntKind.i64 (x.2+F)/\True/\x.2+F=(↑(deepF s):Int)/\True:=by
 conv=>zeta
 have ln:=hs.parts.len
 have hz:=gz s
 have hd:deepF s=maxDeep s.parts+1:=by cases s;rfl
 have hds:=maxDeep_sz s.parts
 simp only [Int.toNat_natCast,eq_self,true_and,and_true]
 refine ⟨⟨(0,0),⟨Nat.zero_le _,by simp,by simp only [List.drop_zero];omega⟩,rfl,rfl⟩,?_⟩
 rintro ⟨k,c⟩ ⟨h1,h2,h3⟩
 simp only at h1 h2 h3 ⊢
 refine aa (fun h=>?_) (fun h=>?_)
 ·replace h:=Xo h
  have hk:k < s.parts.length:=by omega
  have hm:=dA (aL s.parts k (dfl (.st .shape)) hk)
  rw [ai s.parts k (dfl (.st .shape)) hk] at h3
  simp only [maxDeep] at h3
  refine ⟨by omega,by omega,aa (fun a=>?_) (fun a=>?_)⟩
  ·replace a:=Xo a
   exact ⟨ar hk ln,(k+1,(deepF (s.parts.getD k (dfl (.st .shape))):Int)),⟨by omega,by simp only;omega,by simp only;omega⟩,by simp only;omega,rfl,rfl⟩
  ·replace a:¬c < (deepF (s.parts.getD k (dfl (.st .shape))):Int):=fun e=>a (Xd e)
   exact ⟨ar hk ln,(k+1,c),⟨by omega,by simp only;omega,by simp only;omega⟩,by simp only;omega,rfl,rfl⟩
 ·replace h:¬((k:Int) < (s.parts.length:Int)):=fun e=>h (Xd e)
  have e:k=s.parts.length:=by omega
  subst e
  rw [List.drop_length] at h3
  simp only [maxDeep] at h3
  exact ⟨aJ (by omega) (by omega),by omega⟩
theorem C3 (s:Shape) (hs:Wf (.st .shape) s) :
  let A:=(400:Int);let B:=True;let C:=sz s<=(400:Nat);(sz s<=sz s/\(0:Int)<=A/\A<=(1000000:Int))/\if decide (A<sizeF s A)=true then B/\(3:Int)=bj s/\B else C/\if decide ((40:Int)<(↑(deepF s):Int))=true then B/\(91:Int)=bj s/\B else C/\if (!allS aV s)=true then B/\(70:Int)=bj s/\B else B/\(0:Int)=bj s/\B:=by
 conv=>zeta
 simp only [eq_self,true_and,and_true]
 rw [H8]
 refine ⟨⟨Nat.le_refl _,by omega,by omega⟩,aa (fun h=>?_) (fun h=>?_)⟩
 ·rw [if_pos (Xo h)]
 ·have h':¬(400:Int) < sizeF s 400:=fun e=>h (Xd e)
  have hs4:sz s<=400:=by rw [sizeF_eq s 400 (by omega)] at h';omega
  rw [if_neg h']
  refine ⟨hs4,aa (fun g=>?_) (fun g=>⟨hs4,?_⟩)⟩
  ·rw [if_pos (Xo g)]
  ·rw [if_neg (fun e=>g (Xd e))]
   cases allS aV s <;> simp
theorem C4 (n:Nat) (a b:Shape) (ha:Wf (.st .shape) a) (hb:Wf (.st .shape) b) (hn:sz a<=n+1) :
  let A:=True/\false=eqS a b/\True;let B:=(↑(List.length a.names):Int);let C:=(↑(List.length b.names):Int);let D:=(↑(List.length a.parts):Int);let E:=(↑(List.length b.parts):Int);let F:=List.length a.names=List.length b.names;let G:=List.length a.parts=List.length b.parts;let H:=(0:Int);let I:=false=false/\a=a/\b=b/\True;let J:=a=a/\b=b/\I;let K:=(1:Int);let L:=a=a/\b=b/\false=false/\I;let M:=dfl (Ty.st SN.shape);if (!decide (a.kind=b.kind))=true then A else if (!decide (a.pkg=b.pkg))=true then A else if (!decide (a.name=b.name))=true then A else if (!decide (B=C))=true then A else if (!decide (D=E))=true then A else (∃(x:Nat),(x<=List.length a.names/\F/\G/\eqS a b=(decide (List.drop x a.names=List.drop x b.names) && eqL a.parts b.parts))/\H=(↑x:Int)/\J)/\∀(x:Nat),let N:=(↑x:Int);x<=List.length a.names/\F/\G/\eqS a b=(decide (List.drop x a.names=List.drop x b.names) && eqL a.parts b.parts)→if decide (N<B)=true then (H<=N/\N<B)/\(H<=N/\N<C)/\if (!decide (List.getD a.names (Int.toNat N) (dfl Ty.str)=List.getD b.names (Int.toNat N) (dfl Ty.str)))=true then A else inR IntKind.i64 (N+K)/\∃(y:Nat),(y<=List.length a.names/\F/\G/\eqS a b=(decide (List.drop y a.names=List.drop y b.names) && eqL a.parts b.parts))/\List.length a.names - y<List.length a.names - x/\N+K=(↑y:Int)/\J else (∃(x_1:Nat),(x_1<=List.length a.parts/\G/\eqS a b=eqL (List.drop x_1 a.parts) (List.drop x_1 b.parts))/\H=(↑x_1:Int)/\N=N/\L)/\∀(x_1:Nat),let O:=(↑x_1:Int);let P:=List.getD a.parts (Int.toNat O) M;x_1<=List.length a.parts/\G/\eqS a b=eqL (List.drop x_1 a.parts) (List.drop x_1 b.parts)→if decide (O<D)=true then (H<=O/\O<D)/\(H<=O/\O<E)/\sz P<=n/\if (!eqS P (List.getD b.parts (Int.toNat O) M))=true then A else inR IntKind.i64 (O+K)/\∃(y:Nat),(y<=List.length a.parts/\G/\eqS a b=eqL (List.drop y a.parts) (List.drop y b.parts))/\List.length a.parts - y<List.length a.parts - x_1/\O+K=(↑y:Int)/\N=N/\L else True/\true=eqS a b/\True:=by
 conv=>zeta
 have lna:=ha.names.len
 have lpa:=ha.parts.len
 have hz:=gz a
 have he:eqS a b=(decide (a.kind=b.kind) && decide (a.pkg=b.pkg) && decide (a.name=b.name) && decide (a.names=b.names) && eqL a.parts b.parts):=by cases a;cases b;rfl
 simp only [Int.toNat_natCast,eq_self,true_and,and_true]
 refine aa (fun h=>?_) (fun h1=>aa (fun h=>?_) (fun h2=>aa (fun h=>?_) (fun h3=>aa (fun h=>?_) (fun h4=>aa (fun h=>?_) (fun h5=>?_)))))
 ·rw [he];simp only [Bool.not_eq_true'] at h;rw [h];simp
 ·rw [he];simp only [Bool.not_eq_true'] at h;rw [h];simp
 ·rw [he];simp only [Bool.not_eq_true'] at h;rw [h];simp
 ·have:¬a.names=b.names:=by intro e;rw [e] at h;simp at h
  rw [he];simp [this]
 ·have:a.parts.length≠b.parts.length:=by intro e;rw [e] at h;simp at h
  rw [he,ow this];simp
 have l4:a.names.length=b.names.length:=by simp at h4;omega
 have l5:a.parts.length=b.parts.length:=by simp at h5;omega
 have he':eqS a b=(decide (a.names=b.names) && eqL a.parts b.parts):=by
  rw [he];simp only [Bool.not_eq_true,Bool.not_eq_false'] at h1 h2 h3;rw [h1,h2,h3];simp
 refine ⟨⟨0,⟨Nat.zero_le _,l4,l5,by simpa using he'⟩,rfl⟩,?_⟩
 rintro k ⟨k1,_,_,k4⟩
 refine aa (fun h=>?_) (fun h=>?_)
 ·replace h:=Xo h
  have hk:k < a.names.length:=by omega
  have hk':k < b.names.length:=by omega
  rw [ai a.names k (dfl .str) hk,ai b.names k (dfl .str) hk'] at k4
  refine ⟨by omega,by omega,aa (fun c=>?_) (fun c=>?_)⟩
  ·have c':¬a.names.getD k (dfl .str)=b.names.getD k (dfl .str):=by simpa using c
   rw [k4]
   have:¬(a.names.getD k (dfl .str) ::a.names.drop (k+1)=b.names.getD k (dfl .str) ::b.names.drop (k+1)):=fun e=>c' (List.cons.inj e).1
   simp only [this,decide_false,Bool.false_and]
  ·have c':a.names.getD k (dfl .str)=b.names.getD k (dfl .str):=by simpa using c
   refine ⟨ar hk lna,k+1,⟨by omega,l4,l5,?_⟩,by omega,by omega⟩
   rw [k4,c']
   congr 1
   rw [decide_eq_decide]
   simp
 ·replace h:¬((k:Int) < (a.names.length:Int)):=fun e=>h (Xd e)
  have e:k=a.names.length:=by omega
  subst e
  have k4':eqS a b=eqL a.parts b.parts:=by rw [k4,List.drop_length,l4,List.drop_length];simp
  refine ⟨⟨0,⟨Nat.zero_le _,l5,by simpa using k4'⟩,rfl⟩,?_⟩
  rintro j ⟨j1,_,j3⟩
  refine aa (fun h=>?_) (fun h=>?_)
  ·replace h:=Xo h
   have hj:j < a.parts.length:=by omega
   have hj':j < b.parts.length:=by omega
   have hm:=dA (aL a.parts j (dfl (.st .shape)) hj)
   rw [ai a.parts j (dfl (.st .shape)) hj,ai b.parts j (dfl (.st .shape)) hj'] at j3
   simp only [eqL] at j3
   refine ⟨by omega,by omega,by omega,aa (fun c=>?_) (fun c=>?_)⟩
   ·have c':eqS (a.parts.getD j (dfl (.st .shape))) (b.parts.getD j (dfl (.st .shape)))=false:=by simpa using c
    rw [j3,c'];rfl
   ·have c':eqS (a.parts.getD j (dfl (.st .shape))) (b.parts.getD j (dfl (.st .shape)))=true:=by simpa using c
    rw [c',Bool.true_and] at j3
    exact ⟨ar hj lpa,j+1,⟨by omega,l5,j3⟩,by omega,by omega⟩
  ·replace h:¬((j:Int) < (a.parts.length:Int)):=fun e=>h (Xd e)
   have e:j=a.parts.length:=by omega
   subst e
   rw [j3,List.drop_length,l5,List.drop_length];rfl
theorem vO (s:Str) (hs:Wf .str s) :
  let A:=(List.all s fun (c:UInt8)=>bJ (bI c));let B:=(0:Int);let C:=s=s/\True;let D:=(↑(List.length s):Int);let E:=True/\false=aI s/\True;(∃(x:Nat),(x<=List.length s/\A=List.all (List.drop x s) fun (c:UInt8)=>bJ (bI c))/\B=(↑x:Int)/\C)/\∀(x:Nat),let F:=(↑x:Int);let G:=B<=F/\F<D;let H:=(↑(UInt8.toNat (List.getD s (Int.toNat F) (0:UInt8))):Int);(x<=List.length s/\A=List.all (List.drop x s) fun (c:UInt8)=>bJ (bI c))→if decide (F<D)=true then G/\if decide (H<(48:Int))=true then E else G/\if decide ((57:Int)<H)=true then E else inR IntKind.i64 (F+(1:Int))/\∃(y:Nat),(y<=List.length s/\A=List.all (List.drop y s) fun (c:UInt8)=>bJ (bI c))/\List.length s - y<List.length s - x/\F+(1:Int)=(↑y:Int)/\C else True/\(!decide (s=[]))=aI s/\True:=by
 conv=>zeta
 have ln:=hs.str
 have eb:∀b:UInt8,(b.toNat:Int)=bI b:=fun _=>rfl
 simp only [eb,Int.toNat_natCast]
 refine ⟨⟨0,⟨Nat.zero_le _,rfl⟩,rfl,?_⟩,?_⟩
 ·exact Xr
 rintro k ⟨h1,h2⟩
 refine aa (fun h=>?_) (fun h=>?_)
 ·have hk:k < s.length:=by have:=Xo h;omega
  rw [ai s k 0 hk,List.all_cons] at h2
  have l0:(0:Int)<=(k:Int)/\(k:Int) < (s.length:Int):=⟨by omega,by omega⟩
  have bad:bJ (bI (s.getD k 0))=false→false=aI s:=fun e=>by
   unfold aI
   rw [h2,e,Bool.false_and,Bool.and_false]
  refine ⟨l0,aa (fun a=>⟨trivial,?_,trivial⟩) (fun a=>⟨l0,aa (fun b=>⟨trivial,?_,trivial⟩) (fun b=>?_)⟩)⟩
  ·have a:=Xo a
   refine bad ?_
   unfold bJ
   rw [Xf (by omega),Bool.false_and]
  ·have b:=Xo b
   refine bad ?_
   unfold bJ
   rw [Bool.and_comm,Xf (by omega),Bool.false_and]
  ·have a:¬bI (s.getD k 0) < 48:=fun e=>a (Xd e)
   have b:¬57 < bI (s.getD k 0):=fun e=>b (Xd e)
   have hd:bJ (bI (s.getD k 0))=true:=by
    unfold bJ
    rw [Xd (by omega),Bool.true_and,Xd (by omega)]
   rw [hd,Bool.true_and] at h2
   refine ⟨ar hk ln,k+1,⟨by omega,h2⟩,by omega,rfl,?_⟩
   exact Xr
 ·have hk:s.length<=k:=by
   have:¬(k:Int) < (s.length:Int):=fun e=>h (Xd e)
   omega
  rw [List.drop_eq_nil_of_le hk] at h2
  refine ⟨trivial,?_,trivial⟩
  unfold aI
  rw [h2]
  exact (Bool.and_true _).symm
theorem C5 (s:Str) (hs:Wf .str s) :
  let A:=(List.all s fun (c:UInt8)=>dF (bI c));let B:=(0:Int);let C:=True;let D:=s=s/\C;let E:=(↑(List.length s):Int);let F:=(0:UInt8);let G:=(45:Int);let H:=(48:Int);let I:=C/\false=bP s/\C;let J:=(57:Int);let K:=(1:Int);let L:=C/\true=bP s/\C;(∃(x:Nat),(x<=List.length s/\A=List.all (List.drop x s) fun (c:UInt8)=>dF (bI c))/\B=(↑x:Int)/\D)/\∀(x:Nat),let M:=(↑x:Int);let N:=B<=M/\M<E;let O:=(↑(UInt8.toNat (List.getD s (Int.toNat M) F)):Int);let P:=inR IntKind.i64 (M+K)/\∃(y:Nat),(y<=List.length s/\A=List.all (List.drop y s) fun (c:UInt8)=>dF (bI c))/\List.length s - y<List.length s - x/\M+K=(↑y:Int)/\D;let Q:=N/\if (!decide (O=G))=true then N/\if decide (O<H)=true then I else N/\if decide (J<O)=true then I else P else P;let R:=if (!decide (O<=(90:Int)))=true then Q else P;(x<=List.length s/\A=List.all (List.drop x s) fun (c:UInt8)=>dF (bI c))→if decide (M<E)=true then N/\if decide ((97:Int)<=O)=true then N/\N/\if decide ((65:Int)<=O)=true then N/\if (!decide (O<=(122:Int)))=true then R else P else if (!decide (O<=(122:Int)))=true then Q else P else N/\if decide ((65:Int)<=O)=true then N/\R else Q else if (!decide (s=[]))=true then if (!aI s)=true then L else if decide (s=([48]:Str))=true then L else (B<=B/\B<E)/\C/\(!decide ((↑(UInt8.toNat (List.getD s (Int.toNat B) F)):Int)=H))=bP s/\C else I:=by
 conv=>zeta
 have ln:=hs.str
 have eb:∀b:UInt8,(b.toNat:Int)=bI b:=fun _=>rfl
 simp only [eb,Int.toNat_natCast,Int.toNat_zero]
 refine ⟨⟨0,⟨Nat.zero_le _,rfl⟩,rfl,?_⟩,?_⟩
 ·exact Xr
 rintro k ⟨h1,h2⟩
 refine aa (fun h=>?_) (fun h=>?_)
 ·have hk:k < s.length:=by have:=Xo h;omega
  clear h
  rw [ai s k 0 hk,List.all_cons] at h2
  have l0:(0:Int)<=(k:Int)/\(k:Int) < (s.length:Int):=⟨by omega,by omega⟩
  have bad:¬((48<=bI (s.getD k 0)/\bI (s.getD k 0)<=57)∨(97<=bI (s.getD k 0)/\bI (s.getD k 0)<=122)∨(65<=bI (s.getD k 0)/\bI (s.getD k 0)<=90)∨bI (s.getD k 0)=45)→false=bP s:=fun e=>by
   have e:dF (bI (s.getD k 0))=false:=Bool.eq_false_iff.2 (fun q=>e ((jN _).1 q))
   unfold bP
   rw [h2,e,Bool.false_and,Bool.and_false]
  have good:((48<=bI (s.getD k 0)/\bI (s.getD k 0)<=57)∨(97<=bI (s.getD k 0)/\bI (s.getD k 0)<=122)∨(65<=bI (s.getD k 0)/\bI (s.getD k 0)<=90)∨bI (s.getD k 0)=45)→(s.all fun c=>dF (bI c))=(s.drop (k+1)).all fun c=>dF (bI c):=fun e=>by
   rw [h2,(jN _).2 e,Bool.true_and]
  clear h2 h1
  repeat' (first | refine ⟨l0,?_⟩ | refine aa (fun q=>?_) (fun q=>?_))
  all_goals simp only [decide_eq_true_eq,Bool.not_eq_true',decide_eq_false_iff_not] at *
  all_goals first
   | exact ⟨trivial,bad (by omega),trivial⟩
   | (refine ⟨ar hk ln,k+1,⟨by omega,good (by omega)⟩,by omega,(by first | rfl | trivial),?_⟩;exact Xr)
 ·have hk:s.length<=k:=by
   have:¬(k:Int) < (s.length:Int):=fun e=>h (Xd e)
   omega
  rw [List.drop_eq_nil_of_le hk] at h2
  have h2:(s.all fun c=>dF (bI c))=true:=h2
  have e:bP s=(!decide (s=[]) && !(aI s && decide (bI (s.getD 0 0)=48) && !decide (s=[48]))):=by
   unfold bP
   rw [h2,Bool.and_true]
  rw [e]
  clear e h2 h h1
  refine aa (fun a=>aa (fun b=>?_) (fun b=>aa (fun c=>?_) (fun c=>?_))) (fun a=>?_)
  ·rw [Bool.not_eq_true'] at b
   rw [a,b,Bool.false_and,Bool.false_and]
   exact ⟨trivial,rfl,trivial⟩
  ·rw [a,c,Bool.not_true,Bool.and_false]
   exact ⟨trivial,rfl,trivial⟩
  ·have a':¬s=[]:=by simpa using a
   have hp:=List.length_pos_iff.2 a'
   have b:aI s=true:=by simpa using b
   rw [a,b,Bool.eq_false_iff.2 c,Bool.true_and,Bool.true_and,Bool.not_false,Bool.and_true]
   exact ⟨⟨Int.le_refl 0,by omega⟩,trivial,rfl,trivial⟩
  ·rw [Bool.eq_false_iff.2 a,Bool.false_and]
   exact ⟨trivial,rfl,trivial⟩
theorem yN (v:Vers) (hv:Wf (.st .version) v) :
  let A:=(0:Int);let B:=True/\(40:Int)=bf v/\True;let C:=(999999:Int);let D:=True/\A=bf v/\True;let E:=(46:UInt8);let F:=splitB E v.pre;let G:=v=v/\false=false/\false=false/\splitB E v.pre=splitB E v.pre/\v=v/\True;let H:=(↑(List.length F):Int);if decide (v.major<A)=true then B else if decide (C<v.major)=true then B else if decide (v.minor<A)=true then B else if decide (C<v.minor)=true then B else if decide (v.patch<A)=true then B else if decide (C<v.patch)=true then B else if decide ((24:Int)<(↑(List.length v.pre):Int))=true then B else if decide (v.pre=[])=true then D else List.length v.pre<=(4096:Nat)/\(∃(x:Nat),(x<=List.length F/\List.all F bP=List.all (List.drop x F) bP)/\A=(↑x:Int)/\G)/\∀(x:Nat),let I:=(↑x:Int);x<=List.length F/\List.all F bP=List.all (List.drop x F) bP→if decide (I<H)=true then (A<=I/\I<H)/\if (!bP (List.getD F (Int.toNat I) (dfl Ty.str)))=true then B else inR IntKind.i64 (I+(1:Int))/\∃(y:Nat),(y<=List.length F/\List.all F bP=List.all (List.drop y F) bP)/\List.length F - y<List.length F - x/\I+(1:Int)=(↑y:Int)/\G else D:=by
 conv=>zeta
 refine aa (fun a=>?_) (fun a=>aa (fun b=>?_) (fun b=>aa (fun c=>?_) (fun c=>aa (fun d=>?_) (fun d=>aa (fun e=>?_) (fun e=>aa (fun f=>?_) (fun f=>aa (fun g=>?_) (fun g=>aa (fun h=>?_) (fun h=>?_))))))))
 ·refine ⟨trivial,?_,trivial⟩
  unfold bf
  rw [if_pos (by have:=Xo a;omega)]
 ·refine ⟨trivial,?_,trivial⟩
  unfold bf
  rw [if_pos (by have:=Xo b;omega)]
 ·refine ⟨trivial,?_,trivial⟩
  unfold bf
  rw [if_pos (by have:=Xo c;omega)]
 ·refine ⟨trivial,?_,trivial⟩
  unfold bf
  rw [if_pos (by have:=Xo d;omega)]
 ·refine ⟨trivial,?_,trivial⟩
  unfold bf
  rw [if_pos (by have:=Xo e;omega)]
 ·refine ⟨trivial,?_,trivial⟩
  unfold bf
  rw [if_pos (by have:=Xo f;omega)]
 all_goals
  have hn:¬(v.major < 0∨999999 < v.major∨v.minor < 0∨999999 < v.minor∨v.patch < 0∨999999 < v.patch):=by
   have a:¬v.major < 0:=fun q=>a (Xd q)
   have b:¬999999 < v.major:=fun q=>b (Xd q)
   have c:¬v.minor < 0:=fun q=>c (Xd q)
   have d:¬999999 < v.minor:=fun q=>d (Xd q)
   have e:¬v.patch < 0:=fun q=>e (Xd q)
   have f:¬999999 < v.patch:=fun q=>f (Xd q)
   omega
 ·refine ⟨trivial,?_,trivial⟩
  unfold bf
  rw [if_neg hn,if_pos (by have:=Xo g;omega)]
 ·refine ⟨trivial,?_,trivial⟩
  have g:¬(24:Int) < (v.pre.length:Int):=fun e=>g (Xd e)
  unfold bf
  rw [if_neg hn,if_neg (by omega),if_pos (Xo h)]
 have g:¬(24:Int) < (v.pre.length:Int):=fun e=>g (Xd e)
 have hg:bf v=if (splitB 46 v.pre).all bP=true then 0 else 40:=by
  unfold bf
  rw [if_neg hn,if_neg (by omega),if_neg (fun q=>h (Xd q))]
 have hs:=cr 46 v.pre
 refine ⟨by omega,⟨0,⟨Nat.zero_le _,rfl⟩,rfl,?_⟩,?_⟩
 ·exact Xr
 rintro k ⟨k1,k2⟩
 refine aa (fun m=>?_) (fun m=>?_)
 ·have m:=Xo m
  have hk:k < (splitB 46 v.pre).length:=by omega
  rw [ai (splitB 46 v.pre) k (dfl Ty.str) hk,List.all_cons] at k2
  simp only [Int.toNat_natCast]
  refine ⟨⟨by omega,m⟩,aa (fun n=>?_) (fun n=>?_)⟩
  ·have n:bP ((splitB 46 v.pre).getD k (dfl Ty.str))=false:=by simpa using n
   rw [n,Bool.false_and] at k2
   rw [hg,if_neg (by rw [k2];exact Bool.false_ne_true)]
   exact ⟨trivial,rfl,trivial⟩
  ·have n:bP ((splitB 46 v.pre).getD k (dfl Ty.str))=true:=by simpa using n
   rw [n,Bool.true_and] at k2
   refine ⟨aJ (by omega) (by omega),k+1,⟨by omega,k2⟩,by omega,rfl,?_⟩
   exact Xr
 ·have hk:(splitB 46 v.pre).length<=k:=by
   have:¬(k:Int) < ((splitB 46 v.pre).length:Int):=fun e=>m (Xd e)
   omega
  rw [List.drop_eq_nil_of_le hk] at k2
  have k2:(splitB 46 v.pre).all bP=true:=k2
  rw [hg,if_pos k2]
  exact ⟨trivial,rfl,trivial⟩
theorem EK (p:Int)  :
  let A:=True;let B:=A/\false=dB p/\A;if decide ((0:Int)<=p)=true then if decide (p<=(1114111:Int))=true then if decide (p<(55296:Int))=true then A/\true=dB p/\A else A/\decide ((57343:Int)<p)=dB p/\A else B else B:=by
 conv=>zeta
 unfold dB
 by_cases a:0<=p <;> by_cases b:p<=1114111 <;> by_cases c:p < 55296 <;> simp [a,b,c]
theorem EL (p:Int) (ho:0<=p/\p<=1114111) :
  let A:=(128:Int);let B:=True;let C:=(fun (n:Int)=>UInt8.ofNat (Int.toNat n));let D:=(64:Int);let E:=(0:Int);let F:=D≠E;let G:=Int.tdiv p D;let H:=F/\inR IntKind.i64 G;let I:=(192:Int)+Int.tdiv p D;let J:=F/\inR IntKind.i64 (Int.tmod p D);let K:=A+Int.tmod p D;let L:=inR IntKind.i64 (K);let M:=inR IntKind.u8 (K);let N:=(4096:Int);let O:=Int.tdiv p N;let P:=N≠E/\inR IntKind.i64 O;let Q:=(224:Int)+Int.tdiv p N;let R:=F/\inR IntKind.i64 (Int.tmod G D);let S:=A+Int.tmod G D;let T:=inR IntKind.i64 (S);let U:=inR IntKind.u8 (S);let V:=(262144:Int);let W:=(240:Int)+Int.tdiv p V;let X:=A+Int.tmod O D;if decide (p<A)=true then inR IntKind.u8 p/\B/\List.map C [p]=cv p/\B else if decide (p<(2048:Int))=true then H/\inR IntKind.i64 (I)/\inR IntKind.u8 (I)/\J/\L/\M/\B/\List.map C [I,K]=cv p/\B else if decide (p<(65536:Int))=true then P/\inR IntKind.i64 (Q)/\inR IntKind.u8 (Q)/\H/\R/\T/\U/\J/\L/\M/\B/\List.map C [Q,S,K]=cv p/\B else (V≠E/\inR IntKind.i64 (Int.tdiv p V))/\inR IntKind.i64 (W)/\inR IntKind.u8 (W)/\P/\(F/\inR IntKind.i64 (Int.tmod O D))/\inR IntKind.i64 (X)/\inR IntKind.u8 (X)/\H/\R/\T/\U/\J/\L/\M/\B/\List.map C [W,X,S,K]=cv p/\B:=by
 conv=>zeta
 obtain ⟨h1,h2⟩:=ho
 have t1:Int.tdiv p 64=p / 64:=Int.tdiv_eq_ediv_of_nonneg h1
 have t2:Int.tdiv p 4096=p / 4096:=Int.tdiv_eq_ediv_of_nonneg h1
 have t3:Int.tdiv p 262144=p / 262144:=Int.tdiv_eq_ediv_of_nonneg h1
 have m0:Int.tmod p 64=p % 64:=Int.tmod_eq_emod_of_nonneg h1
 have m1:Int.tmod (p / 64) 64=p / 64 % 64:=Int.tmod_eq_emod_of_nonneg (by omega)
 have m2:Int.tmod (p / 4096) 64=p / 4096 % 64:=Int.tmod_eq_emod_of_nonneg (by omega)
 simp only [t1,t2,t3,m0,m1,m2]
 have u8:∀n:Int,0<=n→n<=255→inR IntKind.u8 n:=fun n a b=>⟨a,b⟩
 have i64:∀n:Int,-10000000<=n→n<=10000000→inR IntKind.i64 n:=fun n a b=>aJ (by omega) (by omega)
 unfold cv iv
 refine aa (fun a=>?_) (fun a=>?_)
 ·have a:=Xo a
  rw [if_pos a]
  exact ⟨u8 _ (by omega) (by omega),trivial,rfl,trivial⟩
 have a:¬p < 128:=fun e=>a (Xd e)
 rw [if_neg a]
 refine aa (fun b=>?_) (fun b=>?_)
 ·have b:=Xo b
  rw [if_pos b]
  repeat (first | exact trivial | refine ⟨by first | rfl | trivial | (exact ⟨by decide,i64 _ (by omega) (by omega)⟩) | (exact i64 _ (by omega) (by omega)) | (exact u8 _ (by omega) (by omega)),?_⟩)
 have b:¬p < 2048:=fun e=>b (Xd e)
 rw [if_neg b]
 refine aa (fun d=>?_) (fun d=>?_)
 ·have d:=Xo d
  rw [if_pos d]
  repeat (first | exact trivial | refine ⟨by first | rfl | trivial | (exact ⟨by decide,i64 _ (by omega) (by omega)⟩) | (exact i64 _ (by omega) (by omega)) | (exact u8 _ (by omega) (by omega)),?_⟩)
 ·have d:¬p < 65536:=fun e=>d (Xd e)
  rw [if_neg d]
  repeat (first | exact trivial | refine ⟨by first | rfl | trivial | (exact ⟨by decide,i64 _ (by omega) (by omega)⟩) | (exact i64 _ (by omega) (by omega)) | (exact u8 _ (by omega) (by omega)),?_⟩)
theorem EM (s:Str) (hs:Wf .str s) :
  let A:=(0:Int);let B:=fC s;let C:=True/\A=B.1/\A=B.2/\True;let D:=(↑(List.length s):Int);let E:=A<=A/\A<D;let F:=(0:UInt8);let G:=(↑(UInt8.toNat (List.getD s (Int.toNat A) F)):Int);let H:=inR IntKind.i64 G;let I:=(240:Int);let J:=(↑(bK s):Int);let K:=false=false/\True;let L:=s=s/\A=A/\A=A/\K;let M:=(224:Int);let N:=(192:Int);let O:=(1:Int);let P:=(1:Nat);let Q:=(-300:Int);let R:=(300:Int);let S:=(2:Nat);let T:=(-20000:Int);let U:=(20000:Int);let V:=(3:Nat);let W:=(-1300000:Int);let X:=(1300000:Int);let Y:=(4:Nat);let Z:=(-90000000:Int);let a:=(90000000:Int);let b:=J=J/\s=s/\A=A/\A=A/\false=false/\K;let c:=(64:Int);if decide (s=[])=true then C else E/\H/\(E/\if decide (I<=G)=true then E/\H/\inR IntKind.i64 (G - I)/\(4:Int)=J/\G - I=eJ s/\L else E/\if decide (M<=G)=true then E/\H/\inR IntKind.i64 (G - M)/\(3:Int)=J/\G - M=eJ s/\L else E/\if decide (N<=G)=true then E/\H/\inR IntKind.i64 (G - N)/\(2:Int)=J/\G - N=eJ s/\L else O=J/\G=eJ s/\L)/\if decide (D<J)=true then C else (∃(x:Nat),(P<=x/\x<=bK s/\(x=P→Q<=aO s x/\aO s x<=R)/\(x=S→T<=aO s x/\aO s x<=U)/\(x=V→W<=aO s x/\aO s x<=X)/\(x=Y→Z<=aO s x/\aO s x<=a))/\O=(↑x:Int)/\eJ s=aO s x/\b)/\∀(x:Nat),let d:=(↑x:Int);let e:=(↑(UInt8.toNat (List.getD s (Int.toNat d) F)):Int);P<=x/\x<=bK s/\(x=P→Q<=aO s x/\aO s x<=R)/\(x=S→T<=aO s x/\aO s x<=U)/\(x=V→W<=aO s x/\aO s x<=X)/\(x=Y→Z<=aO s x/\aO s x<=a)→if decide (d<J)=true then inR IntKind.i64 (aO s x*c)/\(A<=d/\d<D)/\inR IntKind.i64 e/\inR IntKind.i64 (aO s x*c+e)/\inR IntKind.i64 (aO s x*c+e - (128:Int))/\inR IntKind.i64 (d+O)/\∃(y:Nat),(P<=y/\y<=bK s/\(y=P→Q<=aO s y/\aO s y<=R)/\(y=S→T<=aO s y/\aO s y<=U)/\(y=V→W<=aO s y/\aO s y<=X)/\(y=Y→Z<=aO s y/\aO s y<=a))/\bK s - y<bK s - x/\d+O=(↑y:Int)/\aO s x*c+e - (128:Int)=aO s y/\b else if (!dB (aO s x))=true then C else (A<=aO s x/\aO s x<=(1114111:Int))/\(A<=A/\A<=J/\J<=D)/\if (!decide (cv (aO s x)=List.drop (Int.toNat A) (List.take (Int.toNat J) s)))=true then C else True/\aO s x=B.1/\J=B.2/\True:=by
 conv=>zeta
 have ln:=hs.str
 refine aa (fun h=>?_) (fun h=>?_)
 ·have h:=Xo h
  subst h
  exact ⟨trivial,rfl,rfl,trivial⟩
 have hne:s≠[]:=fun e=>h (Xd e)
 have hpos:=List.length_pos_iff.2 hne
 have eb:∀b:UInt8,(b.toNat:Int)=bI b:=fun _=>rfl
 simp only [eb,Int.toNat_zero,Int.toNat_natCast]
 obtain ⟨n1,n2⟩:=GD (s.getD 0 0)
 have i64:∀n:Int,-10000000000<=n→n<=10000000000→inR IntKind.i64 n:=fun n a b=>aJ (by omega) (by omega)
 have l0:(0:Int)<=0/\(0:Int) < (s.length:Int):=⟨by omega,by omega⟩
 have hL:bK s=if 240<=bI (s.getD 0 0) then 4 else if 224<=bI (s.getD 0 0) then 3 else if 192<=bI (s.getD 0 0) then 2 else 1:=rfl
 have h0:eJ s=if 240<=bI (s.getD 0 0) then bI (s.getD 0 0) - 240 else if 224<=bI (s.getD 0 0) then bI (s.getD 0 0) - 224 else if 192<=bI (s.getD 0 0) then bI (s.getD 0 0) - 192 else bI (s.getD 0 0):=rfl
 refine ⟨l0,i64 _ (by omega) (by omega),⟨l0,aa (fun a=>?_) (fun a=>⟨l0,aa (fun b=>?_) (fun b=>⟨l0,aa (fun c=>?_) (fun c=>?_)⟩)⟩)⟩,?_⟩
 ·have a:=Xo a
  rw [if_pos a] at hL h0
  refine ⟨l0,i64 _ (by omega) (by omega),i64 _ (by omega) (by omega),by rw [hL];rfl,h0.symm,?_⟩
  exact Xr
 ·have a:¬240<=bI (s.getD 0 0):=fun e=>a (Xd e)
  have b:=Xo b
  rw [if_neg a,if_pos b] at hL h0
  refine ⟨l0,i64 _ (by omega) (by omega),i64 _ (by omega) (by omega),by rw [hL];rfl,h0.symm,?_⟩
  exact Xr
 ·have a:¬240<=bI (s.getD 0 0):=fun e=>a (Xd e)
  have b:¬224<=bI (s.getD 0 0):=fun e=>b (Xd e)
  have c:=Xo c
  rw [if_neg a,if_neg b,if_pos c] at hL h0
  refine ⟨l0,i64 _ (by omega) (by omega),i64 _ (by omega) (by omega),by rw [hL];rfl,h0.symm,?_⟩
  exact Xr
 ·have a:¬240<=bI (s.getD 0 0):=fun e=>a (Xd e)
  have b:¬224<=bI (s.getD 0 0):=fun e=>b (Xd e)
  have c:¬192<=bI (s.getD 0 0):=fun e=>c (Xd e)
  rw [if_neg a,if_neg b,if_neg c] at hL h0
  refine ⟨by rw [hL];rfl,h0.symm,?_⟩
  exact Xr
 have hb0:-300<=eJ s/\eJ s<=300:=by rw [h0];(repeat' split) <;> omega
 have hb1:1<=bK s/\bK s<=4:=by rw [hL];(repeat' split) <;> omega
 clear hL h0 n1 n2
 refine aa (fun a=>?_) (fun a=>?_)
 ·have a:=Xo a
  have e:fC s=(0,0):=by unfold fC;rw [if_neg hne,if_pos (by omega)]
  rw [e]
  exact ⟨trivial,rfl,rfl,trivial⟩
 have a:¬(s.length:Int) < (bK s:Int):=fun e=>a (Xd e)
 have hF:fC s=if dB (aO s (bK s))=true/\cv (aO s (bK s))=s.take (bK s) then (aO s (bK s),(bK s:Int)) else (0,0):=by unfold fC;rw [if_neg hne,if_neg (by omega)]
 refine ⟨⟨1,⟨Nat.le_refl _,hb1.1,fun _=>hb0,fun e=>by omega,fun e=>by omega,fun e=>by omega⟩,?_⟩,?_⟩
 ·exact Xr
 rintro k ⟨k1,k2,k3,k4,k5,k6⟩
 refine aa (fun b=>?_) (fun b=>?_)
 ·have b:k < bK s:=by have:=Xo b;omega
  obtain ⟨m1,m2⟩:=GD (s.getD k 0)
  have hf:aO s (k+1)=aO s k *64+bI (s.getD k 0) - 128:=by
   obtain ⟨j,rfl⟩:∃j,k=j+1:=⟨k - 1,by omega⟩
   rfl
  have hk:k=1∨k=2∨k=3:=by omega
  have hb:-1300000<=aO s k/\aO s k<=1300000:=by
   rcases hk with e | e | e
   ·have:=k3 e;omega
   ·have:=k4 e;omega
   ·exact k5 e
  refine ⟨i64 _ (by omega) (by omega),⟨by omega,by omega⟩,i64 _ (by omega) (by omega),i64 _ (by omega) (by omega),i64 _ (by omega) (by omega),i64 _ (by omega) (by omega),k+1,⟨by omega,by omega,fun e=>by omega,fun e=>by have:=k3 (by omega);omega,fun e=>by have:=k4 (by omega);omega,fun e=>by have:=k5 (by omega);omega⟩,by omega,by omega,hf.symm,?_⟩
  exact Xr
 ·have b:k=bK s:=by
   have:¬((k:Int) < (bK s:Int)):=fun e=>b (Xd e)
   omega
  subst b
  simp only [List.drop_zero]
  refine aa (fun c=>?_) (fun c=>?_)
  ·rw [if_neg (fun e=>by rw [e.1] at c;cases c)] at hF
   rw [hF]
   exact ⟨trivial,rfl,rfl,trivial⟩
  have c:dB (aO s (bK s))=true:=by simpa using c
  have c':=c
  unfold dB at c'
  simp only [Bool.and_eq_true,decide_eq_true_eq] at c'
  refine ⟨⟨c'.1.1,c'.1.2⟩,⟨by omega,by omega,by omega⟩,aa (fun d=>?_) (fun d=>?_)⟩
  ·have d:¬cv (aO s (bK s))=s.take (bK s):=by simpa using d
   rw [if_neg (fun e=>d e.2)] at hF
   rw [hF]
   exact ⟨trivial,rfl,rfl,trivial⟩
  ·have d:cv (aO s (bK s))=s.take (bK s):=by simpa using d
   rw [if_pos ⟨c,d⟩] at hF
   rw [hF]
   exact ⟨trivial,rfl,rfl,trivial⟩
theorem C6 (n:Nat) (t:Trm) (m:Int) (hs:Wf (.st .term) t) (hz:szT t<=n+1) (h0:0<=m) (h1:m<=1000000) :
  let A:=(1:Int);let B:=(0:Int);let C:=(↑(List.length t.parts):Int);let D:=t=t/\m=m/\B=B/\B=B/\t.parts=t.parts/\C=C/\t=t/\True;let E:=countT t m;let F:=dfl (Ty.st SN.term);(∃(x:Nat × Int × Int),(x.1<=List.length t.parts/\A<=x.2.1/\x.2.1<=m+A/\B<=x.2.2/\x.2.2+A<=x.2.1/\countL (List.drop x.1 t.parts) m x.2.1 x.2.2=countL t.parts m A B)/\A=x.2.1/\B=x.2.2/\B=(↑x.1:Int)/\D)/\∀(x:Nat × Int × Int),let G:=(↑x.1:Int);let H:=inR IntKind.i64 (x.2.2+A)/\True/\x.2.1=E.1/\x.2.2+A=E.2/\True;let I:=m - x.2.1;let J:=List.getD t.parts (Int.toNat G) F;let K:=countT J I;x.1<=List.length t.parts/\A<=x.2.1/\x.2.1<=m+A/\B<=x.2.2/\x.2.2+A<=x.2.1/\countL (List.drop x.1 t.parts) m x.2.1 x.2.2=countL t.parts m A B→if decide (G<C)=true then (B<=G/\G<C)/\if decide (m<x.2.1)=true then H else inR IntKind.i64 I/\(szT J<=n/\B<=m - x.2.1/\m - x.2.1<=(1000000:Int))/\inR IntKind.i64 (x.2.1+K.1)/\inR IntKind.i64 (G+A)/\∃(y:Nat × Int × Int),(y.1<=List.length t.parts/\A<=y.2.1/\y.2.1<=m+A/\B<=y.2.2/\y.2.2+A<=y.2.1/\countL (List.drop y.1 t.parts) m y.2.1 y.2.2=countL t.parts m A B)/\List.length t.parts - y.1<List.length t.parts - x.1/\x.2.1+K.1=y.2.1/\max x.2.2 K.2=y.2.2/\G+A=(↑y.1:Int)/\D else H:=by
 conv=>zeta
 have ln:=hs.term_parts.len
 rw [Bp]
 refine ⟨⟨(0,1,0),⟨Nat.zero_le _,by decide,by show (1:Int)<=m+1;omega,by decide,by decide,rfl⟩,rfl,rfl,rfl,?_⟩,?_⟩
 ·exact Xr
 rintro ⟨k,a,d⟩ ⟨h1,h2,h3,h4,h5,h6⟩
 simp only [Int.toNat_natCast] at h1 h2 h3 h4 h5 h6 ⊢
 refine aa (fun h=>?_) (fun h=>?_)
 ·replace h:=Xo h
  have hk:k < t.parts.length:=by omega
  rw [ai t.parts k (dfl (.st .term)) hk,countL] at h6
  refine ⟨by omega,aa (fun c=>?_) (fun c=>?_)⟩
  ·replace c:=Xo c
   rw [if_pos c] at h6
   rw [←h6]
   refine ⟨aJ (by omega) (by omega),?_⟩
   exact Xr
  ·replace c:¬m < a:=fun e=>c (Xd e)
   rw [if_neg c] at h6
   have hm:=dI (aL t.parts k (dfl (.st .term)) hk)
   have he:=eD t
   have hb:=countT_bound (t.parts.getD k (dfl (.st .term))) (m - a) (by omega)
   refine ⟨aJ (by omega) (by omega),⟨by omega,by omega,by omega⟩,aJ (by omega) (by omega),ar hk ln,(k+1,_,_),⟨by show k+1<=_;omega,?_,?_,?_,?_,h6⟩,by show _ - (k+1) < _;omega,rfl,rfl,by show _=((k+1:Nat):Int);omega,?_⟩
   ·show (1:Int)<=a+_;omega
   ·show a+_<=m+1;omega
   ·show (0:Int)<=max d _;omega
   ·show max d _+1<=a+_;omega
   exact Xr
 ·replace h:¬((k:Int) < (t.parts.length:Int)):=fun e=>h (Xd e)
  have e:k=t.parts.length:=by omega
  subst e
  rw [List.drop_length,countL] at h6
  rw [←h6]
  refine ⟨aJ (by omega) (by omega),?_⟩
  exact Xr
theorem yO  (x:Str)  :
  True/\(!al x)=!al x/\True:=by
 exact ⟨trivial,by trivial,trivial⟩
theorem yP  (l:List Str)  (hl:Wf (.lst .str) l) :
  let A:=(0:Nat);let B:=(↑(List.length l):Int);let C:=l=l/\B=B/\True;(∃(x:Nat),(x<=List.length l/\bd al (List.drop x l) x=bd al l A)/\(0:Int)=(↑x:Int)/\C)/\∀(x:Nat),let D:=(↑x:Int);x<=List.length l/\bd al (List.drop x l) x=bd al l A→if decide (D<B)=true then ((0:Int)<=D/\D<B)/\if (!al (List.getD l (Int.toNat D) (dfl Ty.str)))=true then True/\D=bd al l A/\True else inR IntKind.i64 (D+(1:Int))/\∃(y:Nat),(y<=List.length l/\bd al (List.drop y l) y=bd al l A)/\List.length l - y<List.length l - x/\D+(1:Int)=(↑y:Int)/\C else True/\(-1:Int)=bd al l A/\True:=by
 conv=>zeta
 have ln:=hl.len
 simp only [Int.toNat_natCast]
 refine ⟨⟨0,⟨Nat.zero_le _,by simp⟩,rfl,by trivial,by trivial,trivial⟩,?_⟩
 rintro k ⟨h1,h2⟩
 refine aa (fun h=>?_) (fun h=>?_)
 ·replace h:=Xo h
  have hk:k < l.length:=by omega
  rw [ai l k (dfl .str) hk,bd] at h2
  refine ⟨by omega,aa (fun c=>?_) (fun c=>?_)⟩
  ·have c:al (l.getD k (dfl .str))=false:=by simpa using c
   rw [c,if_neg Bool.false_ne_true] at h2
   rw [←h2]
   exact ⟨trivial,rfl,trivial⟩
  ·have c:al (l.getD k (dfl .str))=true:=by simpa using c
   rw [if_pos c] at h2
   refine ⟨ar hk ln,k+1,⟨by omega,h2⟩,by omega,by omega,by trivial,by trivial,trivial⟩
 ·replace h:¬((k:Int) < (l.length:Int)):=fun e=>h (Xd e)
  have e:k=l.length:=by omega
  subst e
  rw [List.drop_length,bd] at h2
  rw [←h2]
  exact ⟨trivial,rfl,trivial⟩
theorem yQ  (l:List Str)  :
  True/\decide ((0:Int)<=bd al l (0:Nat))=!List.all l al/\True:=by
 exact ⟨trivial,im al l 0,trivial⟩
theorem EN  (l:List Str)  :
  True/\(!!List.all l al)=List.all l al/\True:=by
 exact ⟨trivial,Bool.not_not _,trivial⟩
theorem EO (l:List Str) (ho:l.length *16<=140737488355328) :
  let A:=(List.mergeSort l fun (x y:Str)=>decide (x<=y));let B:=List.all l al && decide (List.Nodup l);List.length l*(16:Nat)<=(140737488355328:Nat)/\if List.all l al=true then List.length A=List.length A/\True/\decide ((↑(List.length (Lib.compact A)):Int)=(↑(List.length l):Int))=B/\True else True/\false=B/\True:=by
 conv=>zeta
 have hc:=gx l
 unfold ea at hc
 refine ⟨ho,aa (fun h=>?_) (fun h=>?_)⟩
 ·refine ⟨by trivial,trivial,?_,trivial⟩
  rw [h,Bool.true_and,decide_eq_decide,←hc]
  omega
 ·have h:l.all al=false:=by simpa using h
  exact ⟨trivial,by rw [h];rfl,trivial⟩
theorem yR (n:Nat) (x:Shape)  (ho:sz x<=n) :
  sz x<=n/\True/\(!allS aj x)=!allS aj x/\True:=by
 exact ⟨ho,trivial,by trivial,trivial⟩
theorem yS (n:Nat) (l:List Shape)  (hl:Wf (.lst (.st .shape)) l) (ho:∀x∈l,sz x<=n) :
  let A:=allS aj;let B:=(0:Nat);let C:=(↑(List.length l):Int);let D:=l=l/\C=C/\True;let E:=dfl (Ty.st SN.shape);(∃(x:Nat),(x<=List.length l/\bd A (List.drop x l) x=bd A l B)/\(0:Int)=(↑x:Int)/\D)/\∀(x:Nat),let F:=(↑x:Int);let G:=List.getD l (Int.toNat F) E;x<=List.length l/\bd A (List.drop x l) x=bd A l B→if decide (F<C)=true then ((0:Int)<=F/\F<C)/\sz G<=n/\if (!allS aj G)=true then True/\F=bd A l B/\True else inR IntKind.i64 (F+(1:Int))/\∃(y:Nat),(y<=List.length l/\bd A (List.drop y l) y=bd A l B)/\List.length l - y<List.length l - x/\F+(1:Int)=(↑y:Int)/\D else True/\(-1:Int)=bd A l B/\True:=by
 conv=>zeta
 have ln:=hl.len
 simp only [Int.toNat_natCast]
 refine ⟨⟨0,⟨Nat.zero_le _,by simp⟩,rfl,by trivial,by trivial,trivial⟩,?_⟩
 rintro k ⟨h1,h2⟩
 refine aa (fun h=>?_) (fun h=>?_)
 ·replace h:=Xo h
  have hk:k < l.length:=by omega
  rw [ai l k (dfl (.st .shape)) hk,bd] at h2
  refine ⟨by omega,ho _ (aL l k _ hk),aa (fun c=>?_) (fun c=>?_)⟩
  ·have c:(allS aj) (l.getD k (dfl (.st .shape)))=false:=by simpa using c
   rw [c,if_neg Bool.false_ne_true] at h2
   rw [←h2]
   exact ⟨trivial,rfl,trivial⟩
  ·have c:(allS aj) (l.getD k (dfl (.st .shape)))=true:=by simpa using c
   rw [if_pos c] at h2
   refine ⟨ar hk ln,k+1,⟨by omega,h2⟩,by omega,by omega,by trivial,by trivial,trivial⟩
 ·replace h:¬((k:Int) < (l.length:Int)):=fun e=>h (Xd e)
  have e:k=l.length:=by omega
  subst e
  rw [List.drop_length,bd] at h2
  rw [←h2]
  exact ⟨trivial,rfl,trivial⟩
theorem yT (n:Nat) (l:List Shape)  (ho:∀x∈l,sz x<=n) :
  (∀(x:Shape),x∈l→sz x<=n)/\True/\decide ((0:Int)<=bd (allS aj) l (0:Nat))=!List.all l (allS aj)/\True:=by
 exact ⟨ho,trivial,im (allS aj) l 0,trivial⟩
theorem EP (n:Nat) (l:List Shape)  (ho:∀x∈l,sz x<=n) :
  (∀(x:Shape),x∈l→sz x<=n)/\True/\(!!List.all l (allS aj))=List.all l (allS aj)/\True:=by
 exact ⟨ho,trivial,Bool.not_not _,trivial⟩
theorem Gl (n:Nat) (s:Shape) (ho:sz s<=n+1) :
  if (!decide (s.kind=(10:Int)))=true then (∀(x:Shape),x∈s.parts→sz x<=n)/\True/\List.all s.parts (allS aj)=allS aj s/\True else True/\false=allS aj s/\True:=by
 have e0:allS aj s=(aj s && s.parts.all (allS aj)):=by rw [eC,gA]
 have h0:=gz s
 have hm:∀x∈s.parts,sz x<=n:=fun x hx=>by have:=dA hx;omega
 rw [e0]
 refine aa (fun h=>?_) (fun h=>?_)
 ·have h:aj s=true:=h
  rw [h,Bool.true_and]
  exact ⟨hm,trivial,rfl,trivial⟩
 ·have h:aj s=false:=by simpa [aj] using h
  rw [h]
  exact ⟨trivial,rfl,trivial⟩
theorem C7 (s:Shape)  :
  let A:=(decide (bj s=(0:Int)) && allS aj s);if decide (bj s=(0:Int))=true then sz s<=(400:Nat)/\True/\allS aj s=A/\True else True/\false=A/\True:=by
 conv=>zeta
 refine aa (fun h=>?_) (fun h=>?_)
 ·have h:bj s=0:=by simpa using h
  refine ⟨?_,trivial,by simp [h],trivial⟩
  unfold bj at h
  by_cases c:400 < sz s
  ·rw [if_pos c] at h;exact absurd h (by decide)
  ·omega
 ·have h:¬bj s=0:=by simpa using h
  exact ⟨trivial,by simp [h],trivial⟩
theorem Ho (t:Trm)  :
  let A:=(↑(List.length t.names):Int);let B:=(↑(List.length t.vars):Int);let C:=(↑(List.length t.shapes):Int);let D:=(↑(List.length t.parts):Int);True/\A=A/\B=B/\C=C/\D=D/\True:=by
 conv=>zeta
 exact Xr
theorem ER (s:Str) (hs:Wf .str s) :
  let A:=cn s;let B:=(↑(List.length A):Int);let C:=s=s/\cn s=cn s/\B=B/\True;let D:=dfl (Ty.int IntKind.u8);let E:=(1:Int);(∃(x:Nat),(x<=List.length s/\List.all s cJ=List.all (List.drop x s) cJ)/\(0:Int)=(↑x:Int)/\C)/\∀(x:Nat),let F:=(↑x:Int);let G:=Int.toNat F;let H:=inR IntKind.i64 (F+E)/\∃(y:Nat),(y<=List.length s/\List.all s cJ=List.all (List.drop y s) cJ)/\List.length s - y<List.length s - x/\F+E=(↑y:Int)/\C;x<=List.length s/\List.all s cJ=List.all (List.drop x s) cJ→if decide (F<B)=true then ((0:Int)<=F/\F<B)/\if decide (List.getD A G D<(32:Int))=true then if (!decide (List.getD A G D=(10:Int)))=true then if (!decide (List.getD A G D=(9:Int)))=true then True/\false=gC s/\True else H else H else H else True/\Option.isNone (jK s)=gC s/\True:=by
 conv=>zeta
 have ln:=hs.str
 have hbl:(cn s).length=s.length:=List.length_map _
 simp only [hbl,Int.toNat_natCast]
 refine ⟨⟨0,⟨Nat.zero_le _,rfl⟩,?_⟩,?_⟩
 ·exact Xr
 rintro k ⟨h1,h2⟩
 refine aa (fun h=>?_) (fun h=>?_)
 ·have hk:k < s.length:=by have:=Xo h;omega
  rw [ai s k 0 hk,List.all_cons] at h2
  have hq:=rF (s.getD k 0)
  simp only [uW s k hk]
  have yes:¬(bI (s.getD k 0) < 32/\bI (s.getD k 0)≠10/\bI (s.getD k 0)≠9)→s.all cJ=(s.drop (k+1)).all cJ:=fun e=>by
   have:cJ (s.getD k 0)=true:=by
    cases hh:cJ (s.getD k 0) with
    | true=>rfl
    | false=>exact absurd (hq.1 hh) e
   rw [h2,this,Bool.true_and]
  refine ⟨⟨by omega,by omega⟩,?_⟩
  repeat' (refine aa (fun _=>?_) (fun _=>?_))
  all_goals (simp only [decide_eq_true_eq,Bool.not_eq_true',decide_eq_false_iff_not] at *)
  all_goals first
   | (refine ⟨trivial,?_,trivial⟩;unfold gC;rw [h2,hq.2 (by omega),Bool.false_and,Bool.false_and])
   | (refine ⟨ar hk ln,k+1,⟨by omega,yes (by omega)⟩,by omega,by omega,?_⟩;exact Xr)
 ·have hk:k=s.length:=by
   have:¬((k:Int) < (s.length:Int)):=fun e=>h (Xd e)
   omega
  refine ⟨trivial,?_,trivial⟩
  unfold gC
  rw [h2,hk,List.drop_length]
  rfl
theorem vP  (x:Shape)  :
  True/\(!(decide (bj x=(0:Int)) && allS aj x))=!aW x/\True:=by
 exact ⟨trivial,by trivial,trivial⟩
theorem vQ  (l:List Shape)  (hl:Wf (.lst (.st .shape)) l) :
  let A:=(0:Nat);let B:=(↑(List.length l):Int);let C:=l=l/\B=B/\True;(∃(x:Nat),(x<=List.length l/\bd aW (List.drop x l) x=bd aW l A)/\(0:Int)=(↑x:Int)/\C)/\∀(x:Nat),let D:=(↑x:Int);x<=List.length l/\bd aW (List.drop x l) x=bd aW l A→if decide (D<B)=true then ((0:Int)<=D/\D<B)/\if (!aW (List.getD l (Int.toNat D) (dfl (Ty.st SN.shape))))=true then True/\D=bd aW l A/\True else inR IntKind.i64 (D+(1:Int))/\∃(y:Nat),(y<=List.length l/\bd aW (List.drop y l) y=bd aW l A)/\List.length l - y<List.length l - x/\D+(1:Int)=(↑y:Int)/\C else True/\(-1:Int)=bd aW l A/\True:=by
 conv=>zeta
 have ln:=hl.len
 simp only [Int.toNat_natCast]
 refine ⟨⟨0,⟨Nat.zero_le _,by simp⟩,rfl,by trivial,by trivial,trivial⟩,?_⟩
 rintro k ⟨h1,h2⟩
 refine aa (fun h=>?_) (fun h=>?_)
 ·replace h:=Xo h
  have hk:k < l.length:=by omega
  rw [ai l k (dfl (.st .shape)) hk,bd] at h2
  refine ⟨by omega,aa (fun c=>?_) (fun c=>?_)⟩
  ·have c:aW (l.getD k (dfl (.st .shape)))=false:=by simpa using c
   rw [c,if_neg Bool.false_ne_true] at h2
   rw [←h2]
   exact ⟨trivial,rfl,trivial⟩
  ·have c:aW (l.getD k (dfl (.st .shape)))=true:=by simpa using c
   rw [if_pos c] at h2
   refine ⟨ar hk ln,k+1,⟨by omega,h2⟩,by omega,by omega,by trivial,by trivial,trivial⟩
 ·replace h:¬((k:Int) < (l.length:Int)):=fun e=>h (Xd e)
  have e:k=l.length:=by omega
  subst e
  rw [List.drop_length,bd] at h2
  rw [←h2]
  exact ⟨trivial,rfl,trivial⟩
theorem vR  (l:List Shape)  :
  True/\decide ((0:Int)<=bd aW l (0:Nat))=!List.all l aW/\True:=by
 exact ⟨trivial,im aW l 0,trivial⟩
theorem C8  (l:List Shape)  :
  True/\(!!List.all l aW)=List.all l aW/\True:=by
 exact ⟨trivial,Bool.not_not _,trivial⟩
theorem ES (t:Trm) (ht:Wf (.st .term) t) (ho:t.names.length<=8796093022208) :
  let A:=(0:Int);let B:=(↑(List.length t.names):Int);let C:=(↑(List.length t.vars):Int);let D:=(↑(List.length t.shapes):Int);let E:=(↑(List.length t.parts):Int);let F:=True;let G:=t=t/\false=false/\t=t/\B=B/\C=C/\D=D/\E=E/\F;let H:=true=!fI t/\G;let I:=(1:Int);let J:=(!List.all t.shapes aW)=!fI t/\G;let K:=if (!decide (t.pkg=[]))=true then if (!decide (t.kind=(5:Int)))=true then H else J else J;let L:=F/\false=aq t/\F;let M:=F/\(decide (B=A) && (decide (C=A) && (decide (D=A) && (decide (E=A) && true))))=aq t/\F;let N:=if decide (t.name=[])=true then M else L;let O:=List.length t.names*(16:Nat)<=(140737488355328:Nat);let P:=decide (E=I) && true;let Q:=decide (E=E) && true;let R:=F/\(decide (B=A) && (decide (C=A) && (decide (D=A) && P)))=aq t/\F;let S:=if al t.name=true then R else L;let T:=inR IntKind.i64 (B+I);let U:=if bB t.name=true then R else L;(if decide (t.pos<A)=true then H else if (!decide (t.n=A))=true then if (!decide (t.kind=I))=true then H else K else K)/\if (!fI t)=true then L else if decide (t.kind=I)=true then if decide (t.name=[])=true then if decide (A<=t.n)=true then if decide (t.n<=(999999999999999:Int))=true then M else L else L else L else if decide (t.kind=(2:Int))=true then if gC t.name=true then M else L else if decide (t.kind=(3:Int))=true then N else if decide (t.kind=(4:Int))=true then N else if decide (t.kind=(5:Int))=true then if al t.name=true then if decide (t.pkg=[])=true then M else if al t.pkg=true then M else L else L else if decide (t.kind=(6:Int))=true then if decide (t.name=[])=true then if decide (B<=(4096:Int))=true then O/\if (List.all t.names al && decide (List.Nodup t.names))=true then F/\(decide (B=B) && (decide (C=A) && (decide (D=B) && P)))=aq t/\F else L else L else L else if decide (t.kind=(7:Int))=true then if decide (t.name=[])=true then if decide (A<E)=true then F/\(decide (B=A) && (decide (C=A) && (decide (D=A) && Q)))=aq t/\F else L else L else if decide (t.kind=(8:Int))=true then if decide (t.name=[])=true then O/\if (List.all t.names al && decide (List.Nodup t.names))=true then F/\(decide (B=B) && (decide (C=A) && (decide (D=A) && (decide (E=B) && true))))=aq t/\F else L else L else if decide (t.kind=(9:Int))=true then S else if decide (t.kind=(10:Int))=true then S else if decide (t.kind=(11:Int))=true then if decide (t.name=[])=true then F/\(decide (B=A) && (decide (C=A) && (decide (D=I) && Q)))=aq t/\F else L else if decide (t.kind=(12:Int))=true then if decide (t.name=[])=true then F/\(decide (B=A) && (decide (C=A) && (decide (D=I) && (decide (E=(3:Int)) && true))))=aq t/\F else L else if decide (t.kind=(13:Int))=true then if decide (t.name=[])=true then O/\if (List.all t.names al && decide (List.Nodup t.names))=true then if List.all t.vars al=true then T/\T/\F/\(decide (B=B) && (decide (C=B) && (decide (D=B+I) && (decide (E=B+I) && true))))=aq t/\F else L else L else L else if decide (t.kind=(14:Int))=true then if al t.name=true then F/\(decide (B=A) && (decide (C=A) && (decide (D=A) && (decide (E=(2:Int)) && true))))=aq t/\F else L else if decide (t.kind=(15:Int))=true then if decide (t.name=[])=true then F/\(decide (B=A) && (decide (C=A) && (decide (D=I) && P)))=aq t/\F else L else if decide (t.kind=(16:Int))=true then U else if decide (t.kind=(17:Int))=true then U else L:=by
 conv=>zeta
 refine ⟨?_,aa (fun h=>?_) (fun h=>?_)⟩
 ·unfold fI
  repeat' (refine aa (fun _=>?_) (fun _=>?_))
  all_goals simp_all
 ·have h:fI t=false:=by simpa using h
  unfold aq
  rw [h]
  exact ⟨trivial,rfl,trivial⟩
 have h:fI t=true:=by simpa using h
 have e0:aq t=je t:=by unfold aq;rw [h,Bool.true_and]
 rw [e0]
 clear h e0
 unfold je dy jO
 simp only [dnZ,dn1,dn2,dn3,dnN,dnS,dnL,dnP]
 generalize t.names.all al=na
 generalize t.vars.all al=va
 repeat' (first | refine aa (fun _=>?_) (fun _=>?_) | refine ⟨by omega,?_⟩ | refine ⟨aJ (by omega) (by omega),?_⟩ | fail)
 all_goals (refine ⟨trivial,?_,trivial⟩;try simp_all)
 all_goals first | (simp only [Bool.and_assoc];done) | (intros;omega)
theorem vT (n:Nat) (x:Trm)  (ho:szT x<=n/\bT x=true) :
  (szT x<=n/\bT x=true)/\True/\(!allT aq x)=!allT aq x/\True:=by
 exact ⟨ho,trivial,by trivial,trivial⟩
theorem vU (n:Nat) (l:List Trm)  (hl:Wf (.lst (.st .term)) l) (ho:∀x∈l,szT x<=n/\bT x=true) :
  let A:=allT aq;let B:=(0:Nat);let C:=(↑(List.length l):Int);let D:=l=l/\C=C/\True;let E:=dfl (Ty.st SN.term);(∃(x:Nat),(x<=List.length l/\bd A (List.drop x l) x=bd A l B)/\(0:Int)=(↑x:Int)/\D)/\∀(x:Nat),let F:=(↑x:Int);let G:=List.getD l (Int.toNat F) E;x<=List.length l/\bd A (List.drop x l) x=bd A l B→if decide (F<C)=true then ((0:Int)<=F/\F<C)/\(szT G<=n/\bT G=true)/\if (!allT aq G)=true then True/\F=bd A l B/\True else inR IntKind.i64 (F+(1:Int))/\∃(y:Nat),(y<=List.length l/\bd A (List.drop y l) y=bd A l B)/\List.length l - y<List.length l - x/\F+(1:Int)=(↑y:Int)/\D else True/\(-1:Int)=bd A l B/\True:=by
 conv=>zeta
 have ln:=hl.len
 simp only [Int.toNat_natCast]
 refine ⟨⟨0,⟨Nat.zero_le _,by simp⟩,rfl,by trivial,by trivial,trivial⟩,?_⟩
 rintro k ⟨h1,h2⟩
 refine aa (fun h=>?_) (fun h=>?_)
 ·replace h:=Xo h
  have hk:k < l.length:=by omega
  rw [ai l k (dfl (.st .term)) hk,bd] at h2
  refine ⟨by omega,ho _ (aL l k _ hk),aa (fun c=>?_) (fun c=>?_)⟩
  ·have c:(allT aq) (l.getD k (dfl (.st .term)))=false:=by simpa using c
   rw [c,if_neg Bool.false_ne_true] at h2
   rw [←h2]
   exact ⟨trivial,rfl,trivial⟩
  ·have c:(allT aq) (l.getD k (dfl (.st .term)))=true:=by simpa using c
   rw [if_pos c] at h2
   refine ⟨ar hk ln,k+1,⟨by omega,h2⟩,by omega,by omega,by trivial,by trivial,trivial⟩
 ·replace h:¬((k:Int) < (l.length:Int)):=fun e=>h (Xd e)
  have e:k=l.length:=by omega
  subst e
  rw [List.drop_length,bd] at h2
  rw [←h2]
  exact ⟨trivial,rfl,trivial⟩
theorem vV (n:Nat) (l:List Trm)  (ho:∀x∈l,szT x<=n/\bT x=true) :
  (∀(x:Trm),x∈l→szT x<=n/\bT x=true)/\True/\decide ((0:Int)<=bd (allT aq) l (0:Nat))=!List.all l (allT aq)/\True:=by
 exact ⟨ho,trivial,im (allT aq) l 0,trivial⟩
theorem C9 (n:Nat) (l:List Trm)  (ho:∀x∈l,szT x<=n/\bT x=true) :
  (∀(x:Trm),x∈l→szT x<=n/\bT x=true)/\True/\(!!List.all l (allT aq))=List.all l (allT aq)/\True:=by
 exact ⟨ho,trivial,Bool.not_not _,trivial⟩
theorem Ca (n:Nat) (t:Trm) (ho:szT t<=n+1/\bT t=true) :
  List.length t.names<=(8796093022208:Nat)/\if aq t=true then (∀(x:Trm),x∈t.parts→szT x<=n/\bT x=true)/\True/\List.all t.parts (allT aq)=allT aq t/\True else True/\false=allT aq t/\True:=by
 obtain ⟨h1,h2⟩:=ho
 have e0:allT aq t=(aq t && t.parts.all (allT aq)):=by rw [allT_eq,allTL_all]
 have h0:=eD t
 rw [e0]
 refine ⟨xZ h2,aa (fun h=>?_) (fun h=>?_)⟩
 ·rw [h,Bool.true_and]
  exact ⟨fun x hx=>⟨by have:=dI hx;omega,Bx h2 hx⟩,trivial,rfl,trivial⟩
 ·have h:aq t=false:=by simpa using h
  rw [h]
  exact ⟨trivial,rfl,trivial⟩
theorem Cb (x:Trm) (ho:bT x=true) :
  let A:=szT x<=szT x;let B:=(4096:Int);let C:=True;(A/\(0:Int)<=B/\B<=(1000000:Int))/\if decide (B<(countT x B).1)=true then C/\(3:Int)=bD x/\C else if decide ((40:Int)<(countT x B).2)=true then C/\(91:Int)=bD x/\C else (A/\bT x=true)/\if (!allT aq x)=true then C/\(80:Int)=bD x/\C else C/\(0:Int)=bD x/\C:=by
 conv=>zeta
 refine ⟨⟨Nat.le_refl _,by omega,by omega⟩,aa (fun h=>?_) (fun h=>?_)⟩
 ·replace h:=Xo h
  unfold bD
  rw [if_pos h]
  exact ⟨trivial,rfl,trivial⟩
 have h:¬_:=fun e=>h (Xd e)
 have e1:bD x=if 40 < (countT x 4096).2 then 91 else if allT aq x=true then 0 else 80:=by unfold bD;rw [if_neg h]
 refine aa (fun k=>?_) (fun k=>?_)
 ·rw [if_pos (Xo k)] at e1
  rw [e1]
  exact ⟨trivial,rfl,trivial⟩
 rw [if_neg (fun e=>k (Xd e))] at e1
 refine ⟨⟨Nat.le_refl _,ho⟩,aa (fun j=>?_) (fun j=>?_)⟩
 ·have j:allT aq x=false:=by simpa using j
  rw [j,if_neg Bool.false_ne_true] at e1
  rw [e1]
  exact ⟨trivial,rfl,trivial⟩
 ·have j:allT aq x=true:=by simpa using j
  rw [if_pos j] at e1
  rw [e1]
  exact ⟨trivial,rfl,trivial⟩
theorem Cc (ns:List Str) (b:Bool) (hl:Wf (.lst .str) ns) :
  let A:=(0:Int);let B:=True;let C:=ns=ns/\b=b/\B;let D:=(↑(List.length ns):Int);let E:=dfl Ty.str;let F:=B/\false=dC ns b/\B;let G:=b=false;let H:=(0:Nat);let I:=ns=ns/\b=b/\true=true/\false=false/\B;let J:=(1:Int);(∃(x:Nat),let K:=List.take x ns;(x<=List.length ns/\List.all K al=true/\(b=true→List.Nodup K))/\A=(↑x:Int)/\C)/\∀(x:Nat),let K:=List.take x ns;let L:=(↑x:Int);let M:=A<=L/\L<D;let N:=Int.toNat L;let O:=inR IntKind.i64 (L+J)/\∃(y:Nat),let P:=List.take y ns;(y<=List.length ns/\List.all P al=true/\(b=true→List.Nodup P))/\List.length ns - y<List.length ns - x/\L+J=(↑y:Int)/\C;x<=List.length ns/\List.all K al=true/\(b=true→List.Nodup K)→if decide (L<D)=true then M/\if (!al (List.getD ns N E))=true then F else (∃(x_1:Nat),let P:=(↑x_1:Int);(P<=L/\(b=true→¬List.getD ns N E∈List.take x_1 ns)/\(G→x_1=H))/\A=P/\L=L/\I)/\∀(x_1:Nat),let P:=(↑x_1:Int);P<=L/\(b=true→¬List.getD ns N E∈List.take x_1 ns)/\(G→x_1=H)→if decide (P<L)=true then if b=true then (A<=P/\P<D)/\M/\if decide (List.getD ns (Int.toNat P) E=List.getD ns N E)=true then F else inR IntKind.i64 (P+J)/\∃(y:Nat),((↑y:Int)<=L/\(b=true→¬List.getD ns N E∈List.take y ns)/\(G→y=H))/\Int.toNat L - y<Int.toNat L - x_1/\P+J=(↑y:Int)/\L=L/\I else O else O else B/\true=dC ns b/\B:=by
 conv=>zeta
 have ln:=hl.len
 simp only [Int.toNat_natCast,eq_self,true_and,and_true]
 refine ⟨⟨0,⟨Nat.zero_le _,by simp,by simp⟩,rfl⟩,?_⟩
 rintro k ⟨h1,h2,h3⟩
 refine aa (fun h=>?_) (fun h=>?_)
 ·replace h:=Xo h
  have hk:k < ns.length:=by omega
  have hmem:=aL ns k (dfl .str) hk
  have ht:=bw ns k (dfl .str) hk
  refine ⟨by omega,aa (fun a=>?_) (fun a=>?_)⟩
  ·have a':ns.all al=false:=by
    rw [Bool.eq_false_iff]
    intro e
    have:=List.all_eq_true.1 e _ hmem
    rw [this] at a
    simp at a
   unfold dC
   rw [a']
   simp
  ·have a':al (ns.getD k (dfl .str))=true:=by simpa using a
   refine ⟨⟨0,⟨by omega,by simp,fun _=>rfl⟩,rfl⟩,?_⟩
   rintro j ⟨j1,j2,j3⟩
   have nextk:(b=true→j=k)→inR IntKind.i64 ((k:Int)+1)/\∃y:Nat,(y<=ns.length/\(ns.take y).all al=true/\(b=true→(ns.take y).Nodup))/\ns.length - y < ns.length - k/\(k:Int)+1=(y:Int):=by
    intro hjk
    refine ⟨ar hk ln,k+1,⟨by omega,?_,fun hb=>?_⟩,by omega,by omega⟩
    ·rw [ht,List.all_append,h2];simpa using a'
    ·obtain rfl:=hjk hb
     rw [ht,List.nodup_append]
     refine ⟨h3 hb,by simp,fun x hx y hy=>?_⟩
     rw [List.mem_singleton] at hy
     subst hy
     intro e
     subst e
     exact j2 hb hx
   refine aa (fun b1=>?_) (fun b1=>?_)
   ·replace b1:=Xo b1
    have hj:j < k:=by omega
    have hjn:j < ns.length:=by omega
    have htj:=bw ns j (dfl .str) hjn
    refine aa (fun hb=>?_) (fun hb=>?_)
    ·refine ⟨by omega,by omega,aa (fun c=>?_) (fun c=>?_)⟩
     ·replace c:=Xo c
      have hnd:¬ns.Nodup:=by
       intro hn
       rw [List.nodup_iff_pairwise_ne] at hn
       have:=List.pairwise_iff_getElem.1 hn j k hjn hk hj
       rw [List.getD_eq_getElem?_getD,List.getD_eq_getElem?_getD,List.getElem?_eq_getElem hjn,List.getElem?_eq_getElem hk] at c
       exact this c
      unfold dC
      simp [hnd,hb]
     ·refine ⟨ar hjn ln,j+1,⟨by omega,fun _=>?_,fun q=>by rw [hb] at q;cases q⟩,by omega,by omega⟩
      rw [htj,List.mem_append,List.mem_singleton,not_or]
      exact ⟨j2 hb,fun e=>c (Xd e.symm)⟩
    ·exact nextk (fun q=>absurd q hb)
   ·refine nextk (fun _=>?_)
    have:¬((j:Int) < (k:Int)):=fun e=>b1 (Xd e)
    omega
 ·replace h:¬((k:Int) < (ns.length:Int)):=fun e=>h (Xd e)
  have e:k=ns.length:=by omega
  subst e
  rw [List.take_length] at h2 h3
  unfold dC
  rw [h2]
  cases b
  ·simp
  ·simp [h3]
theorem yU (n:Nat) (s:Shape) (hs:Wf (.st .shape) s) (hn:sz s<=n+1) :
  let A:=s=s/\s=s/\True;let B:=(↑(List.length s.parts):Int);let C:=dfl (Ty.st SN.shape);(∃(x:Nat),(x<=List.length s.parts/\allS aj s=(aj s && allL aj (List.drop x s.parts)))/\(0:Int)=(↑x:Int)/\A)/\∀(x:Nat),let D:=(↑x:Int);let E:=List.getD s.parts (Int.toNat D) C;x<=List.length s.parts/\allS aj s=(aj s && allL aj (List.drop x s.parts))→if decide (D<B)=true then ((0:Int)<=D/\D<B)/\sz E<=n/\if (!allS aj E)=true then True/\true=!allS aj s/\True else inR IntKind.i64 (D+(1:Int))/\∃(y:Nat),(y<=List.length s.parts/\allS aj s=(aj s && allL aj (List.drop y s.parts)))/\List.length s.parts - y<List.length s.parts - x/\D+(1:Int)=(↑y:Int)/\A else True/\decide (s.kind=(10:Int))=!allS aj s/\True:=by
 conv=>zeta
 have ln:=hs.parts.len
 have hz:=gz s
 simp only [Int.toNat_natCast,eq_self,true_and,and_true]
 refine ⟨⟨0,⟨Nat.zero_le _,by rw [eC];rfl⟩,rfl⟩,?_⟩
 rintro k ⟨h1,h3⟩
 refine aa (fun h=>?_) (fun h=>?_)
 ·replace h:=Xo h
  have hk:k < s.parts.length:=by omega
  have hm:=dA (aL s.parts k (dfl (.st .shape)) hk)
  rw [ai s.parts k (dfl (.st .shape)) hk] at h3
  simp only [allL] at h3
  refine ⟨by omega,by omega,aa (fun e=>?_) (fun e=>?_)⟩
  ·have e:allS aj (s.parts.getD k (dfl (.st .shape)))=false:=by simpa using e
   rw [e] at h3;rw [h3];simp
  ·have e:allS aj (s.parts.getD k (dfl (.st .shape)))=true:=by simpa using e
   rw [e,Bool.true_and] at h3
   exact ⟨ar hk ln,k+1,⟨by omega,h3⟩,by omega,by omega⟩
 ·replace h:¬((k:Int) < (s.parts.length:Int)):=fun e=>h (Xd e)
  have e:k=s.parts.length:=by omega
  subst e
  rw [h3,List.drop_length]
  simp [allL,aj]
theorem yV (l:List Shape) (hl:Wf (.lst (.st .shape)) l) :
  let A:=(0:Int);let B:=l=l/\True;let C:=(↑(List.length l):Int);let D:=dfl (Ty.st SN.shape);let E:=True/\false=List.all l aW/\True;(∃(x:Nat),(x<=List.length l/\List.all l aW=List.all (List.drop x l) aW)/\A=(↑x:Int)/\B)/\∀(x:Nat),let F:=(↑x:Int);let G:=A<=F/\F<C;let H:=List.getD l (Int.toNat F) D;x<=List.length l/\List.all l aW=List.all (List.drop x l) aW→if decide (F<C)=true then G/\if (!decide (bj H=A))=true then E else G/\sz H<=(400:Nat)/\if (!allS aj H)=true then E else inR IntKind.i64 (F+(1:Int))/\∃(y:Nat),(y<=List.length l/\List.all l aW=List.all (List.drop y l) aW)/\List.length l - y<List.length l - x/\F+(1:Int)=(↑y:Int)/\B else True/\true=List.all l aW/\True:=by
 conv=>zeta
 have ln:=hl.len
 simp only [Int.toNat_natCast,eq_self,true_and,and_true]
 refine ⟨⟨0,⟨Nat.zero_le _,rfl⟩,rfl⟩,?_⟩
 rintro k ⟨h1,h3⟩
 refine aa (fun h=>?_) (fun h=>?_)
 ·replace h:=Xo h
  have hk:k < l.length:=by omega
  rw [ai l k (dfl (.st .shape)) hk,List.all_cons] at h3
  have ht:aW (l.getD k (dfl (.st .shape)))=(decide (bj (l.getD k (dfl (.st .shape)))=0) && allS aj (l.getD k (dfl (.st .shape)))):=rfl
  refine ⟨by omega,aa (fun c=>?_) (fun c=>?_)⟩
  ·have c:¬bj (l.getD k (dfl (.st .shape)))=0:=by simpa using c
   rw [ht,Xf c,Bool.false_and,Bool.false_and] at h3
   rw [h3]
  ·have c:bj (l.getD k (dfl (.st .shape)))=0:=by simpa using c
   have hz:sz (l.getD k (dfl (.st .shape)))<=400:=by
    unfold bj at c
    by_cases q:400 < sz (l.getD k (dfl (.st .shape)))
    ·rw [if_pos q] at c;exact absurd c (by decide)
    ·omega
   rw [ht,Xd c,Bool.true_and] at h3
   refine ⟨by omega,hz,aa (fun e=>?_) (fun e=>?_)⟩
   ·have e:allS aj (l.getD k (dfl (.st .shape)))=false:=by simpa using e
    rw [e,Bool.false_and] at h3
    rw [h3]
   ·have e:allS aj (l.getD k (dfl (.st .shape)))=true:=by simpa using e
    rw [e,Bool.true_and] at h3
    exact ⟨ar hk ln,k+1,⟨by omega,h3⟩,by omega,by omega⟩
 ·replace h:¬((k:Int) < (l.length:Int)):=fun e=>h (Xd e)
  have e:k=l.length:=by omega
  subst e
  rw [h3,List.drop_length];rfl
theorem Cd (t:Trm) (n v s p:Int)  :
  let A:=True/\false=fw t n v s p/\True;if decide ((↑(List.length t.names):Int)=n)=true then if decide ((↑(List.length t.vars):Int)=v)=true then if decide ((↑(List.length t.shapes):Int)=s)=true then True/\decide ((↑(List.length t.parts):Int)=p)=fw t n v s p/\True else A else A else A:=by
 conv=>zeta
 unfold fw
 repeat' (refine aa (fun _=>?_) (fun _=>?_))
 all_goals simp_all
theorem yW (s:Str) (hs:Wf .str s) (ho:s.length<=2000000) :
  let A:=(0:Int);let B:=A=A/\A=A/\True;let C:=(↑(List.length s):Int);let D:=List.take (Int.toNat C) s;let E:=gQ s;(∃(x:Nat × Nat × List Int),(x.2.1<=List.length s/\List.length s - x.2.1<x.1/\List.length x.2.2<=x.2.1/\j6 s x.1 x.2.1 x.2.2=gQ s)/\A=(↑x.2.1:Int)/\x.2.2=[]/\s=s/\List.length x.2.2=(0:Nat)/\B)/\∀(x:Nat × Nat × List Int),let F:=(↑x.2.1:Int);let G:=fC (List.drop (Int.toNat F) D);x.2.1<=List.length s/\List.length s - x.2.1<x.1/\List.length x.2.2<=x.2.1/\j6 s x.1 x.2.1 x.2.2=gQ s→if decide (F<C)=true then (A<=F/\F<=C/\C<=C)/\if decide (G.2=A)=true then True/\E.1=[]/\(30:Int)=E.2.err/\F=E.2.pos/\True else (List.length x.2.2=List.length x.2.2/\(List.length x.2.2+List.length [G.1])*(8:Nat)<=(140737488355328:Nat))/\inR IntKind.i64 (F+G.2)/\∃(y:Nat × Nat × List Int),(y.2.1<=List.length s/\List.length s - y.2.1<y.1/\List.length y.2.2<=y.2.1/\j6 s y.1 y.2.1 y.2.2=gQ s)/\List.length s - y.2.1<List.length s - x.2.1/\F+G.2=(↑y.2.1:Int)/\x.2.2++[G.1]=y.2.2/\s=s/\List.length (x.2.2++[G.1])=List.length y.2.2/\B else True/\x.2.2=E.1/\A=E.2.err/\A=E.2.pos/\True:=by
 conv=>zeta
 have ln:=hs.str
 simp only [Int.toNat_natCast,eq_self,true_and,and_true,List.take_length,vg]
 refine ⟨⟨(s.length+1,0,[]),⟨Nat.zero_le _,by simp,by simp,rfl⟩,by simp,rfl,rfl⟩,?_⟩
 rintro ⟨f,i,acc⟩ ⟨h1,h2,h3,h4⟩
 simp only at h1 h2 h3 h4 ⊢
 obtain ⟨g,rfl⟩:∃g,f=g+1:=⟨f - 1,by omega⟩
 rw [j6] at h4
 refine aa (fun h=>?_) (fun h=>?_)
 ·replace h:=Xo h
  have hk:i < s.length:=by omega
  rw [if_pos hk] at h4
  refine ⟨by omega,aa (fun e=>?_) (fun e=>?_)⟩
  ·have e:gB (s.drop i)=0:=by have:=Xo e;omega
   rw [if_pos e] at h4
   rw [←h4]
   exact ⟨rfl,rfl,rfl⟩
  ·have e:¬gB (s.drop i)=0:=fun q=>e (Xd (by omega))
   rw [if_neg e] at h4
   have hu:=Ap (s:=s) (n:=i) h1
   refine ⟨by simp only [List.length_singleton];omega,aJ (by omega) (by omega),(g,i+gB (s.drop i),acc++[(fC (s.drop i)).1]),⟨hu,by simp only;omega,by simp only [List.length_append,List.length_singleton];omega,h4⟩,by simp only;omega,by simp only;omega,rfl,rfl⟩
 ·have hk:¬i < s.length:=fun e=>h (Xd (by omega))
  rw [if_neg hk] at h4
  rw [←h4]
  exact ⟨rfl,rfl,rfl⟩
theorem ET (s:Str) (hs:Wf .str s) (ho:s.length<=2000000) :
  let A:=(0:Int);let B:=s=s/\True;let C:=(↑(List.length s):Int);let D:=(0:UInt8);let E:=(1:Int);(∃(x:Nat),(x<=List.length s/\List.all s cJ=List.all (List.drop x s) cJ)/\A=(↑x:Int)/\B)/\∀(x:Nat),let F:=(↑x:Int);let G:=A<=F/\F<C;let H:=(↑(UInt8.toNat (List.getD s (Int.toNat F) D)):Int);let I:=inR IntKind.i64 (F+E)/\∃(y:Nat),(y<=List.length s/\List.all s cJ=List.all (List.drop y s) cJ)/\List.length s - y<List.length s - x/\F+E=(↑y:Int)/\B;x<=List.length s/\List.all s cJ=List.all (List.drop x s) cJ→if decide (F<C)=true then G/\if decide (H<(32:Int))=true then G/\if (!decide (H=(9:Int)))=true then G/\if (!decide (H=(10:Int)))=true then True/\false=gC s/\True else I else I else I else List.length s<=(2000000:Nat)/\True/\decide ((gQ s).2.err=A)=gC s/\True:=by
 conv=>zeta
 have ln:=hs.str
 simp only [Int.toNat_natCast,eq_self,true_and,and_true]
 refine ⟨⟨0,⟨Nat.zero_le _,rfl⟩,rfl⟩,?_⟩
 rintro k ⟨h1,h3⟩
 refine aa (fun h=>?_) (fun h=>?_)
 ·replace h:=Xo h
  have hk:k < s.length:=by omega
  rw [ai s k 0 hk,List.all_cons] at h3
  have hq:=rF (s.getD k 0)
  have eb:(UInt8.toNat (s.getD k 0):Int)=bI (s.getD k 0):=rfl
  clear eb
  have nx:cJ (s.getD k 0)=true→inR IntKind.i64 ((k:Int)+1)/\∃y:Nat,(y<=s.length/\s.all cJ=(s.drop y).all cJ)/\s.length - y < s.length - k/\(k:Int)+1=(y:Int):=by
   intro q
   rw [q,Bool.true_and] at h3
   exact ⟨ar hk ln,k+1,⟨by omega,h3⟩,by omega,by omega⟩
  have nq:¬(bI (s.getD k 0) < 32/\bI (s.getD k 0)≠10/\bI (s.getD k 0)≠9)→cJ (s.getD k 0)=true:=fun e=>by
   cases q:cJ (s.getD k 0)
   ·exact absurd (hq.1 q) e
   ·rfl
  refine ⟨by omega,aa (fun a=>?_) (fun a=>?_)⟩
  ·replace a:=Xo a
   refine ⟨by omega,aa (fun c=>?_) (fun c=>?_)⟩
   ·have c:¬(UInt8.toNat (s.getD k 0):Int)=9:=by simpa using c
    refine ⟨by omega,aa (fun d=>?_) (fun d=>?_)⟩
    ·have d:¬(UInt8.toNat (s.getD k 0):Int)=10:=by simpa using d
     rw [hq.2 ⟨a,d,c⟩,Bool.false_and] at h3
     unfold gC
     rw [h3]
     rfl
    ·have d:(UInt8.toNat (s.getD k 0):Int)=10:=by simpa using d
     exact nx (nq (fun e=>e.2.1 d))
   ·have c:(UInt8.toNat (s.getD k 0):Int)=9:=by simpa using c
    exact nx (nq (fun e=>e.2.2 c))
  ·exact nx (nq (fun e=>a (Xd e.1)))
 ·have e:k=s.length:=by
   have:¬((k:Int) < (s.length:Int)):=fun e=>h (Xd e)
   omega
  subst e
  rw [List.drop_length] at h3
  exact ⟨ho,yn h3⟩
theorem EU (t:Trm) (ht:Wf (.st .term) t) (ho:t.name.length<=2000000/\t.names.length<=2000000) :
  let A:=(0:Int);let B:=True;let C:=B/\false=aq t/\B;let D:=(1:Int);let E:=B/\fw t A A A A=aq t/\B;let F:=if decide (t.name=[])=true then E else C;let G:=(↑(List.length t.names):Int);let H:=(↑(List.length t.parts):Int);let I:=B/\fw t A A A D=aq t/\B;let J:=if al t.name=true then I else C;let K:=inR IntKind.i64 (G+D);let L:=if bB t.name=true then I else C;let M:=if decide (t.kind=D)=true then if decide (t.name=[])=true then if decide (A<=t.n)=true then if decide (t.n<=(999999999999999:Int))=true then E else C else C else C else if decide (t.kind=(2:Int))=true then List.length t.name<=(2000000:Nat)/\if gC t.name=true then E else C else if decide (t.kind=(3:Int))=true then F else if decide (t.kind=(4:Int))=true then F else if decide (t.kind=(5:Int))=true then if al t.name=true then if decide (t.pkg=[])=true then E else if al t.pkg=true then E else C else C else if decide (t.kind=(6:Int))=true then if decide (t.name=[])=true then if decide (G<=(4096:Int))=true then B/\fw t G A G D=aq t/\B else C else C else if decide (t.kind=(7:Int))=true then if decide (t.name=[])=true then if decide (D<=H)=true then B/\fw t A A A H=aq t/\B else C else C else if decide (t.kind=(8:Int))=true then if decide (t.name=[])=true then B/\fw t G A A G=aq t/\B else C else if decide (t.kind=(9:Int))=true then J else if decide (t.kind=(10:Int))=true then J else if decide (t.kind=(11:Int))=true then if decide (t.name=[])=true then B/\fw t A A D H=aq t/\B else C else if decide (t.kind=(12:Int))=true then if decide (t.name=[])=true then B/\fw t A A D (3:Int)=aq t/\B else C else if decide (t.kind=(13:Int))=true then if decide (t.name=[])=true then K/\K/\B/\fw t G G (G+D) (G+D)=aq t/\B else C else if decide (t.kind=(14:Int))=true then if al t.name=true then B/\fw t A A A (2:Int)=aq t/\B else C else if decide (t.kind=(15:Int))=true then if decide (t.name=[])=true then B/\fw t A A D D=aq t/\B else C else if decide (t.kind=(16:Int))=true then L else if decide (t.kind=(17:Int))=true then L else C;let N:=if (!decide (t.kind=(5:Int)))=true then if (!decide (t.pkg=[]))=true then C else M else M;if decide (t.pos<A)=true then C else if (!dC t.names true)=true then C else if (!dC t.vars false)=true then C else if (!List.all t.shapes aW)=true then C else if (!decide (t.kind=D))=true then if (!decide (t.n=A))=true then C else N else N:=by
 conv=>zeta
 have dnQ:∀n:Nat,decide ((1:Int)<=(n:Int))=decide (0 < n):=fun n=>decide_eq_decide.2 (by omega)
 have b1:je t=false→aq t=false:=fun e=>by unfold aq;rw [e,Bool.and_false]
 have b2:fI t=false→aq t=false:=fun e=>by unfold aq;rw [e,Bool.false_and]
 simp only [eq_self,true_and,and_true]
 refine aa (fun h=>?_) (fun h1=>?_)
 ·symm;apply b2;unfold fI;have:=Xo h;rw [Xf (by omega)];rfl
 replace h1:¬t.pos < 0:=fun e=>h1 (Xd e)
 refine aa (fun h=>?_) (fun h2=>?_)
 ·exact (yo (by simpa using h)).symm
 have h2:dC t.names true=true:=by simpa using h2
 refine aa (fun h=>?_) (fun h3=>?_)
 ·exact (BH (by simpa using h)).symm
 have h3:dC t.vars false=true:=by simpa using h3
 have h3:t.vars.all al=true:=by unfold dC at h3;rw [Bool.and_eq_true] at h3;exact h3.1
 have h2:jO t.names=true:=by unfold dC at h2;unfold jO;simpa using h2
 refine aa (fun h=>?_) (fun h4=>?_)
 ·have h:t.shapes.all aW=false:=by simpa using h
  symm;apply b2;unfold fI;rw [h,Bool.and_false]
 have h4:t.shapes.all aW=true:=by simpa using h4
 have hd:fI t=((decide (t.n=0) || decide (t.kind=1)) && (decide (t.pkg=[]) || decide (t.kind=5))):=by
  unfold fI;rw [Xd (by omega),h4,Bool.true_and,Bool.and_true]
 have hb:fI t=true→aq t=je t:=fun e=>by unfold aq;rw [e,Bool.true_and]
 clear h1 h4
 have eb:((decide (t.n=0) || decide (t.kind=1)) && (decide (t.pkg=[]) || decide (t.kind=5)))=true→aq t=je t:=fun e=>hb (hd.trans e)
 have e5:((decide (t.n=0) || decide (t.kind=1)) && (decide (t.pkg=[]) || decide (t.kind=5)))=false→aq t=false:=fun e=>b2 (hd.trans e)
 clear hd hb b1 b2
 refine aa (fun k1=>?_) (fun k1=>?_)
 ·have k1:¬t.kind=1:=by simpa using k1
  refine aa (fun k2=>?_) (fun k2=>?_)
  ·have k2:¬t.n=0:=by simpa using k2
   symm;apply e5;rw [Xf k1,Xf k2];rfl
  have k2:t.n=0:=by simpa using k2
  refine aa (fun k3=>?_) (fun k3=>?_)
  ·have k3:¬t.kind=5:=by simpa using k3
   refine aa (fun k4=>?_) (fun k4=>?_)
   ·have k4:¬t.pkg=[]:=by simpa using k4
    symm;apply e5;rw [Xf k3,Xf k4,Bool.or_false,Bool.and_false]
   ·have k4:t.pkg=[]:=by simpa using k4
    rw [eb (by rw [Xd k2,Xd k4];rfl)]
    clear eb e5
    unfold je fw dy
    rw [h2,h3]
    simp only [dnZ,dn1,dn2,dn3,dnN,dnS,dnL,dnP,dnQ]
    clear h2 h3
    repeat' (first | refine aa (fun _=>?_) (fun _=>?_) | refine ⟨aJ (by omega) (by have:=ho.2;omega),?_⟩ | refine And.intro ho.1 ?_ | fail)
    all_goals (first | (simp_all;done) | (simp_all;intros;omega))
  ·have k3:t.kind=5:=by simpa using k3
   rw [eb (by rw [Xd k2,Xd k3,Bool.or_true];rfl)]
   clear eb e5
   unfold je fw dy
   rw [h2,h3]
   simp only [dnZ,dn1,dn2,dn3,dnN,dnS,dnL,dnP,dnQ]
   clear h2 h3
   repeat' (first | refine aa (fun _=>?_) (fun _=>?_) | refine ⟨aJ (by omega) (by have:=ho.2;omega),?_⟩ | refine And.intro ho.1 ?_ | fail)
   all_goals (first | (simp_all;done) | (simp_all;intros;omega))
 ·have k1:t.kind=1:=by simpa using k1
  refine aa (fun k3=>?_) (fun k3=>?_)
  ·have k3:¬t.kind=5:=by simpa using k3
   refine aa (fun k4=>?_) (fun k4=>?_)
   ·have k4:¬t.pkg=[]:=by simpa using k4
    symm;apply e5;rw [Xf k3,Xf k4,Bool.or_false,Bool.and_false]
   ·have k4:t.pkg=[]:=by simpa using k4
    rw [eb (by rw [Xd k1,Xd k4,Bool.or_true];rfl)]
    clear eb e5
    unfold je fw dy
    rw [h2,h3]
    simp only [dnZ,dn1,dn2,dn3,dnN,dnS,dnL,dnP,dnQ]
    clear h2 h3
    repeat' (first | refine aa (fun _=>?_) (fun _=>?_) | refine ⟨aJ (by omega) (by have:=ho.2;omega),?_⟩ | refine And.intro ho.1 ?_ | fail)
    all_goals (first | (simp_all;done) | (simp_all;intros;omega))
  ·have k3:t.kind=5:=by simpa using k3
   rw [k1] at k3
   exact absurd k3 (by decide)
theorem Ce (n:Nat) (t:Trm) (ht:Wf (.st .term) t) (hn:szT t<=n+1) (ho:cR t=true) :
  let A:=(2000000:Nat);let B:=True/\false=allT aq t/\True;let C:=t=t/\false=false/\t=t/\True;let D:=(↑(List.length t.parts):Int);let E:=dfl (Ty.st SN.term);(List.length t.name<=A/\List.length t.names<=A)/\if (!aq t)=true then B else (∃(x:Nat),(x<=List.length t.parts/\allT aq t=allTL aq (List.drop x t.parts))/\(0:Int)=(↑x:Int)/\C)/\∀(x:Nat),let F:=(↑x:Int);let G:=List.getD t.parts (Int.toNat F) E;x<=List.length t.parts/\allT aq t=allTL aq (List.drop x t.parts)→if decide (F<D)=true then ((0:Int)<=F/\F<D)/\(szT G<=n/\cR G=true)/\if (!allT aq G)=true then B else inR IntKind.i64 (F+(1:Int))/\∃(y:Nat),(y<=List.length t.parts/\allT aq t=allTL aq (List.drop y t.parts))/\List.length t.parts - y<List.length t.parts - x/\F+(1:Int)=(↑y:Int)/\C else True/\true=allT aq t/\True:=by
 conv=>zeta
 have ln:=ht.term_parts.len
 have hz:=eD t
 simp only [Int.toNat_natCast,eq_self,true_and,and_true]
 refine ⟨yq ho,?_⟩
 refine aa (fun h=>?_) (fun h=>?_)
 ·have h:aq t=false:=by simpa using h
  rw [allT_eq,h];rfl
 have h:aq t=true:=by simpa using h
 refine ⟨⟨0,⟨Nat.zero_le _,by rw [allT_eq,h];rfl⟩,rfl⟩,?_⟩
 rintro k ⟨h1,h3⟩
 refine aa (fun h=>?_) (fun h=>?_)
 ·replace h:=Xo h
  have hk:k < t.parts.length:=by omega
  have hm:=dI (aL t.parts k (dfl (.st .term)) hk)
  rw [ai t.parts k (dfl (.st .term)) hk] at h3
  simp only [allTL] at h3
  refine ⟨by omega,⟨by omega,yp ho (aL t.parts k (dfl (.st .term)) hk)⟩,?_⟩
  cases e:allT aq (t.parts.getD k (dfl (.st .term)))
  ·rw [e] at h3;rw [h3];simp
  ·simp only [e,Bool.true_and] at h3
   exact ⟨ar hk ln,k+1,⟨by omega,h3⟩,by omega,by omega⟩
 ·replace h:¬((k:Int) < (t.parts.length:Int)):=fun e=>h (Xd e)
  have e:k=t.parts.length:=by omega
  subst e
  rw [h3,List.drop_length];rfl
end Go.AL.Seat
end
