/-
  The table of types of this seat; it fits the program. No condition.
-/
import Derived.Test.YtjemjblnddfdbaaGreatProg
import Derived.Test.YtjemjblnddfdbaaGreatAlP
set_option linter.unusedVariables false
set_option linter.unusedSimpArgs false
set_option linter.unnecessarySimpa false
set_option linter.deprecated false
open Go Go.AL Go.Proofs
namespace Go.AL.Seat

def r2 : TR := ⟨.int .i64, 1, 8, [.int .i64 0], some (.int .i64)⟩
def r3 : TR := ⟨.int .i64, 1, 8, [.int .i64 0], some (.int .i64)⟩
def r4 : TR := ⟨.bool, 1, 1, [.bool false], some .bool⟩
def r5 : TR := ⟨.int .u8, 1, 1, [.int .u8 0], some (.int .u8)⟩
def r6 : TR := ⟨.int .u8, 1, 1, [.int .u8 0], some (.int .u8)⟩
def r7 : TR := ⟨.strct true [(0, 2), (1, 3), (2, 4), (3, 6)], 4, 24, [.int .i64 0, .int .i64 0, .bool false, .int .u8 0], none⟩
def r8 : TR := ⟨.strct true [(0, 2), (1, 3), (2, 4), (3, 6)], 4, 24, [.int .i64 0, .int .i64 0, .bool false, .int .u8 0], none⟩
def r9 : TR := ⟨.str, 1, 16, [.str []], some .str⟩
def r10 : TR := ⟨.str, 1, 16, [.str []], some .str⟩
def r11 : TR := ⟨.str, 1, 16, [.str []], some .str⟩
def r12 : TR := ⟨.int .u64, 1, 8, [.int .u64 0], some (.int .u64)⟩
def r13 : TR := ⟨.strct false [(0, 9), (1, 12)], 2, 24, [.str [], .int .u64 0], none⟩
def r14 : TR := ⟨.strct false [(0, 9), (1, 12)], 2, 24, [.str [], .int .u64 0], none⟩
def r15 : TR := ⟨.ptr 132, 1, 8, [.nilp], none⟩
def r16 : TR := ⟨.ptr 135, 1, 8, [.nilp], none⟩
def r17 : TR := ⟨.ptr 143, 1, 8, [.nilp], none⟩
def r18 : TR := ⟨.strct false [(0, 17)], 1, 8, [.nilp], none⟩
def r19 : TR := ⟨.strct false [(0, 17)], 1, 8, [.nilp], none⟩
def r20 : TR := ⟨.iface, 1, 16, [.nilif], none⟩
def r21 : TR := ⟨.int .i32, 1, 4, [.int .i32 0], some (.int .i32)⟩
def r22 : TR := ⟨.slice 35, 1, 24, [.nils], some (.lst (.st .item))⟩
def r26 : TR := ⟨.slice 39, 1, 24, [.nils], some (.lst (.st .change))⟩
def r30 : TR := ⟨.slice 9, 1, 24, [.nils], some (.lst .str)⟩
def r31 : TR := ⟨.slice 33, 1, 24, [.nils], some (.lst (.st .shape))⟩
def r32 : TR := ⟨.strct false [(0, 3), (1, 9), (2, 9), (3, 30), (4, 31)], 5, 88, [.int .i64 0, .str [], .str [], .nils, .nils], none⟩
def r33 : TR := ⟨.strct false [(0, 3), (1, 9), (2, 9), (3, 30), (4, 31)], 5, 88, [.int .i64 0, .str [], .str [], .nils, .nils], some (.st .shape)⟩
def r34 : TR := ⟨.strct false [(0, 3), (1, 9), (2, 33)], 7, 112, [.int .i64 0, .str [], .int .i64 0, .str [], .str [], .nils, .nils], none⟩
def r35 : TR := ⟨.strct false [(0, 3), (1, 9), (2, 33)], 7, 112, [.int .i64 0, .str [], .int .i64 0, .str [], .str [], .nils, .nils], some (.st .item)⟩
def r38 : TR := ⟨.strct true [(0, 3), (1, 9)], 2, 24, [.int .i64 0, .str []], none⟩
def r39 : TR := ⟨.strct true [(0, 3), (1, 9)], 2, 24, [.int .i64 0, .str []], some (.st .change)⟩
def r40 : TR := ⟨.map 9 3, 1, 8, [.undef], none⟩
def r51 : TR := ⟨.ptr 54, 1, 8, [.nilp], none⟩
def r52 : TR := ⟨.slice 5, 1, 24, [.nils], some (.lst (.int .u8))⟩
def r53 : TR := ⟨.strct false [(0, 51), (1, 52)], 2, 32, [.nilp, .nils], none⟩
def r54 : TR := ⟨.strct false [(0, 51), (1, 52)], 2, 32, [.nilp, .nils], none⟩
def r55 : TR := ⟨.iface, 1, 16, [.nilif], none⟩
def r56 : TR := ⟨.iface, 1, 16, [.nilif], none⟩
def r65 : TR := ⟨.ptr 5, 1, 8, [.nilp], none⟩
def r69 : TR := ⟨.int .u64, 1, 8, [.int .u64 0], some (.int .u64)⟩
def r70 : TR := ⟨.int .i64, 1, 8, [.int .i64 0], some (.int .i64)⟩
def r77 : TR := ⟨.int .i64, 1, 8, [.int .i64 0], some (.int .i64)⟩
def r85 : TR := ⟨.int .u32, 1, 4, [.int .u32 0], some (.int .u32)⟩
def r87 : TR := ⟨.int .u64, 1, 8, [.int .u64 0], some (.int .u64)⟩
def r94 : TR := ⟨.slice 3, 1, 24, [.nils], some (.lst (.int .i64))⟩
def r101 : TR := ⟨.int .u64, 1, 8, [.int .u64 0], some (.int .u64)⟩
def r105 : TR := ⟨.ptr 3, 1, 8, [.nilp], none⟩
def r107 : TR := ⟨.strct false [], 0, 0, [], none⟩
def r108 : TR := ⟨.strct false [], 0, 0, [], none⟩
def r113 : TR := ⟨.ptr 101, 1, 8, [.nilp], none⟩
def r131 : TR := ⟨.strct false [(0, 17), (1, 17), (2, 17), (3, 9)], 4, 40, [.nilp, .nilp, .nilp, .str []], none⟩
def r132 : TR := ⟨.strct false [(0, 17), (1, 17), (2, 17), (3, 9)], 4, 40, [.nilp, .nilp, .nilp, .str []], none⟩
def r137 : TR := ⟨.int .u8, 1, 1, [.int .u8 0], some (.int .u8)⟩
def r138 : TR := ⟨.int .u8, 1, 1, [.int .u8 0], some (.int .u8)⟩
def r140 : TR := ⟨.int .i32, 1, 4, [.int .i32 0], some (.int .i32)⟩
def r141 : TR := ⟨.int .i32, 1, 4, [.int .i32 0], some (.int .i32)⟩
def r142 : TR := ⟨.strct false [(0, 12), (1, 12), (2, 85), (3, 137), (4, 5), (5, 5), (6, 138), (7, 139), (8, 65), (9, 140), (10, 141)], 11, 48, [.int .u64 0, .int .u64 0, .int .u32 0, .int .u8 0, .int .u8 0, .int .u8 0, .int .u8 0, .undef, .nilp, .int .i32 0, .int .i32 0], none⟩
def r143 : TR := ⟨.strct false [(0, 12), (1, 12), (2, 85), (3, 137), (4, 5), (5, 5), (6, 138), (7, 139), (8, 65), (9, 140), (10, 141)], 11, 48, [.int .u64 0, .int .u64 0, .int .u32 0, .int .u8 0, .int .u8 0, .int .u8 0, .int .u8 0, .undef, .nilp, .int .i32 0, .int .i32 0], none⟩
def tbl : List (Nat × TR) := [(2, r2), (3, r3), (4, r4), (5, r5), (6, r6), (7, r7), (8, r8), (9, r9), (10, r10), (11, r11), (12, r12), (13, r13), (14, r14), (15, r15), (16, r16), (17, r17), (18, r18), (19, r19), (20, r20), (21, r21), (22, r22), (26, r26), (30, r30), (31, r31), (32, r32), (33, r33), (34, r34), (35, r35), (38, r38), (39, r39), (40, r40), (51, r51), (52, r52), (53, r53), (54, r54), (55, r55), (56, r56), (65, r65), (69, r69), (70, r70), (77, r77), (85, r85), (87, r87), (94, r94), (101, r101), (105, r105), (107, r107), (108, r108), (113, r113), (131, r131), (132, r132), (137, r137), (138, r138), (140, r140), (141, r141), (142, r142), (143, r143)]
theorem ok2 : TRok Tryz.prog 2 r2 := TRok.mk' (by kernel_rfl) (by kernel_rfl) (by kernel_rfl) (by kernel_rfl) (by kernel_rfl)
theorem ok3 : TRok Tryz.prog 3 r3 := TRok.mk' (by kernel_rfl) (by kernel_rfl) (by kernel_rfl) (by kernel_rfl) (by kernel_rfl)
theorem ok4 : TRok Tryz.prog 4 r4 := TRok.mk' (by kernel_rfl) (by kernel_rfl) (by kernel_rfl) (by kernel_rfl) (by kernel_rfl)
theorem ok5 : TRok Tryz.prog 5 r5 := TRok.mk' (by kernel_rfl) (by kernel_rfl) (by kernel_rfl) (by kernel_rfl) (by kernel_rfl)
theorem ok6 : TRok Tryz.prog 6 r6 := TRok.mk' (by kernel_rfl) (by kernel_rfl) (by kernel_rfl) (by kernel_rfl) (by kernel_rfl)
theorem ok7 : TRok Tryz.prog 7 r7 := TRok.mk' (by kernel_rfl) (by kernel_rfl) (by kernel_rfl) (by kernel_rfl) (by kernel_rfl)
theorem ok8 : TRok Tryz.prog 8 r8 := TRok.mk' (by kernel_rfl) (by kernel_rfl) (by kernel_rfl) (by kernel_rfl) (by kernel_rfl)
theorem ok9 : TRok Tryz.prog 9 r9 := TRok.mk' (by kernel_rfl) (by kernel_rfl) (by kernel_rfl) (by kernel_rfl) (by kernel_rfl)
theorem ok10 : TRok Tryz.prog 10 r10 := TRok.mk' (by kernel_rfl) (by kernel_rfl) (by kernel_rfl) (by kernel_rfl) (by kernel_rfl)
theorem ok11 : TRok Tryz.prog 11 r11 := TRok.mk' (by kernel_rfl) (by kernel_rfl) (by kernel_rfl) (by kernel_rfl) (by kernel_rfl)
theorem ok12 : TRok Tryz.prog 12 r12 := TRok.mk' (by kernel_rfl) (by kernel_rfl) (by kernel_rfl) (by kernel_rfl) (by kernel_rfl)
theorem ok13 : TRok Tryz.prog 13 r13 := TRok.mk' (by kernel_rfl) (by kernel_rfl) (by kernel_rfl) (by kernel_rfl) (by kernel_rfl)
theorem ok14 : TRok Tryz.prog 14 r14 := TRok.mk' (by kernel_rfl) (by kernel_rfl) (by kernel_rfl) (by kernel_rfl) (by kernel_rfl)
theorem ok15 : TRok Tryz.prog 15 r15 := TRok.mk' (by kernel_rfl) (by kernel_rfl) (by kernel_rfl) (by kernel_rfl) (by kernel_rfl)
theorem ok16 : TRok Tryz.prog 16 r16 := TRok.mk' (by kernel_rfl) (by kernel_rfl) (by kernel_rfl) (by kernel_rfl) (by kernel_rfl)
theorem ok17 : TRok Tryz.prog 17 r17 := TRok.mk' (by kernel_rfl) (by kernel_rfl) (by kernel_rfl) (by kernel_rfl) (by kernel_rfl)
theorem ok18 : TRok Tryz.prog 18 r18 := TRok.mk' (by kernel_rfl) (by kernel_rfl) (by kernel_rfl) (by kernel_rfl) (by kernel_rfl)
theorem ok19 : TRok Tryz.prog 19 r19 := TRok.mk' (by kernel_rfl) (by kernel_rfl) (by kernel_rfl) (by kernel_rfl) (by kernel_rfl)
theorem ok20 : TRok Tryz.prog 20 r20 := TRok.mk' (by kernel_rfl) (by kernel_rfl) (by kernel_rfl) (by kernel_rfl) (by kernel_rfl)
theorem ok21 : TRok Tryz.prog 21 r21 := TRok.mk' (by kernel_rfl) (by kernel_rfl) (by kernel_rfl) (by kernel_rfl) (by kernel_rfl)
theorem ok22 : TRok Tryz.prog 22 r22 := TRok.mk' (by kernel_rfl) (by kernel_rfl) (by kernel_rfl) (by kernel_rfl) (by kernel_rfl)
theorem ok26 : TRok Tryz.prog 26 r26 := TRok.mk' (by kernel_rfl) (by kernel_rfl) (by kernel_rfl) (by kernel_rfl) (by kernel_rfl)
theorem ok30 : TRok Tryz.prog 30 r30 := TRok.mk' (by kernel_rfl) (by kernel_rfl) (by kernel_rfl) (by kernel_rfl) (by kernel_rfl)
theorem ok31 : TRok Tryz.prog 31 r31 := TRok.mk' (by kernel_rfl) (by kernel_rfl) (by kernel_rfl) (by kernel_rfl) (by kernel_rfl)
theorem ok32 : TRok Tryz.prog 32 r32 := TRok.mk' (by kernel_rfl) (by kernel_rfl) (by kernel_rfl) (by kernel_rfl) (by kernel_rfl)
theorem ok33 : TRok Tryz.prog 33 r33 := TRok.mk' (by kernel_rfl) (by kernel_rfl) (by kernel_rfl) (by kernel_rfl) (by kernel_rfl)
theorem ok34 : TRok Tryz.prog 34 r34 := TRok.mk' (by kernel_rfl) (by kernel_rfl) (by kernel_rfl) (by kernel_rfl) (by kernel_rfl)
theorem ok35 : TRok Tryz.prog 35 r35 := TRok.mk' (by kernel_rfl) (by kernel_rfl) (by kernel_rfl) (by kernel_rfl) (by kernel_rfl)
theorem ok38 : TRok Tryz.prog 38 r38 := TRok.mk' (by kernel_rfl) (by kernel_rfl) (by kernel_rfl) (by kernel_rfl) (by kernel_rfl)
theorem ok39 : TRok Tryz.prog 39 r39 := TRok.mk' (by kernel_rfl) (by kernel_rfl) (by kernel_rfl) (by kernel_rfl) (by kernel_rfl)
theorem ok40 : TRok Tryz.prog 40 r40 := TRok.mk' (by kernel_rfl) (by kernel_rfl) (by kernel_rfl) (by kernel_rfl) (by kernel_rfl)
theorem ok51 : TRok Tryz.prog 51 r51 := TRok.mk' (by kernel_rfl) (by kernel_rfl) (by kernel_rfl) (by kernel_rfl) (by kernel_rfl)
theorem ok52 : TRok Tryz.prog 52 r52 := TRok.mk' (by kernel_rfl) (by kernel_rfl) (by kernel_rfl) (by kernel_rfl) (by kernel_rfl)
theorem ok53 : TRok Tryz.prog 53 r53 := TRok.mk' (by kernel_rfl) (by kernel_rfl) (by kernel_rfl) (by kernel_rfl) (by kernel_rfl)
theorem ok54 : TRok Tryz.prog 54 r54 := TRok.mk' (by kernel_rfl) (by kernel_rfl) (by kernel_rfl) (by kernel_rfl) (by kernel_rfl)
theorem ok55 : TRok Tryz.prog 55 r55 := TRok.mk' (by kernel_rfl) (by kernel_rfl) (by kernel_rfl) (by kernel_rfl) (by kernel_rfl)
theorem ok56 : TRok Tryz.prog 56 r56 := TRok.mk' (by kernel_rfl) (by kernel_rfl) (by kernel_rfl) (by kernel_rfl) (by kernel_rfl)
theorem ok65 : TRok Tryz.prog 65 r65 := TRok.mk' (by kernel_rfl) (by kernel_rfl) (by kernel_rfl) (by kernel_rfl) (by kernel_rfl)
theorem ok69 : TRok Tryz.prog 69 r69 := TRok.mk' (by kernel_rfl) (by kernel_rfl) (by kernel_rfl) (by kernel_rfl) (by kernel_rfl)
theorem ok70 : TRok Tryz.prog 70 r70 := TRok.mk' (by kernel_rfl) (by kernel_rfl) (by kernel_rfl) (by kernel_rfl) (by kernel_rfl)
theorem ok77 : TRok Tryz.prog 77 r77 := TRok.mk' (by kernel_rfl) (by kernel_rfl) (by kernel_rfl) (by kernel_rfl) (by kernel_rfl)
theorem ok85 : TRok Tryz.prog 85 r85 := TRok.mk' (by kernel_rfl) (by kernel_rfl) (by kernel_rfl) (by kernel_rfl) (by kernel_rfl)
theorem ok87 : TRok Tryz.prog 87 r87 := TRok.mk' (by kernel_rfl) (by kernel_rfl) (by kernel_rfl) (by kernel_rfl) (by kernel_rfl)
theorem ok94 : TRok Tryz.prog 94 r94 := TRok.mk' (by kernel_rfl) (by kernel_rfl) (by kernel_rfl) (by kernel_rfl) (by kernel_rfl)
theorem ok101 : TRok Tryz.prog 101 r101 := TRok.mk' (by kernel_rfl) (by kernel_rfl) (by kernel_rfl) (by kernel_rfl) (by kernel_rfl)
theorem ok105 : TRok Tryz.prog 105 r105 := TRok.mk' (by kernel_rfl) (by kernel_rfl) (by kernel_rfl) (by kernel_rfl) (by kernel_rfl)
theorem ok107 : TRok Tryz.prog 107 r107 := TRok.mk' (by kernel_rfl) (by kernel_rfl) (by kernel_rfl) (by kernel_rfl) (by kernel_rfl)
theorem ok108 : TRok Tryz.prog 108 r108 := TRok.mk' (by kernel_rfl) (by kernel_rfl) (by kernel_rfl) (by kernel_rfl) (by kernel_rfl)
theorem ok113 : TRok Tryz.prog 113 r113 := TRok.mk' (by kernel_rfl) (by kernel_rfl) (by kernel_rfl) (by kernel_rfl) (by kernel_rfl)
theorem ok131 : TRok Tryz.prog 131 r131 := TRok.mk' (by kernel_rfl) (by kernel_rfl) (by kernel_rfl) (by kernel_rfl) (by kernel_rfl)
theorem ok132 : TRok Tryz.prog 132 r132 := TRok.mk' (by kernel_rfl) (by kernel_rfl) (by kernel_rfl) (by kernel_rfl) (by kernel_rfl)
theorem ok137 : TRok Tryz.prog 137 r137 := TRok.mk' (by kernel_rfl) (by kernel_rfl) (by kernel_rfl) (by kernel_rfl) (by kernel_rfl)
theorem ok138 : TRok Tryz.prog 138 r138 := TRok.mk' (by kernel_rfl) (by kernel_rfl) (by kernel_rfl) (by kernel_rfl) (by kernel_rfl)
theorem ok140 : TRok Tryz.prog 140 r140 := TRok.mk' (by kernel_rfl) (by kernel_rfl) (by kernel_rfl) (by kernel_rfl) (by kernel_rfl)
theorem ok141 : TRok Tryz.prog 141 r141 := TRok.mk' (by kernel_rfl) (by kernel_rfl) (by kernel_rfl) (by kernel_rfl) (by kernel_rfl)
theorem ok142 : TRok Tryz.prog 142 r142 := TRok.mk' (by kernel_rfl) (by kernel_rfl) (by kernel_rfl) (by kernel_rfl) (by kernel_rfl)
theorem ok143 : TRok Tryz.prog 143 r143 := TRok.mk' (by kernel_rfl) (by kernel_rfl) (by kernel_rfl) (by kernel_rfl) (by kernel_rfl)
theorem tblOK : TblOK Tryz.prog tbl :=
  .cons ok2 (.cons ok3 (.cons ok4 (.cons ok5 (.cons ok6 (.cons ok7 (.cons ok8 (.cons ok9 (.cons ok10 (.cons ok11 (.cons ok12 (.cons ok13 (.cons ok14 (.cons ok15 (.cons ok16 (.cons ok17 (.cons ok18 (.cons ok19 (.cons ok20 (.cons ok21 (.cons ok22 (.cons ok26 (.cons ok30 (.cons ok31 (.cons ok32 (.cons ok33 (.cons ok34 (.cons ok35 (.cons ok38 (.cons ok39 (.cons ok40 (.cons ok51 (.cons ok52 (.cons ok53 (.cons ok54 (.cons ok55 (.cons ok56 (.cons ok65 (.cons ok69 (.cons ok70 (.cons ok77 (.cons ok85 (.cons ok87 (.cons ok94 (.cons ok101 (.cons ok105 (.cons ok107 (.cons ok108 (.cons ok113 (.cons ok131 (.cons ok132 (.cons ok137 (.cons ok138 (.cons ok140 (.cons ok141 (.cons ok142 (.cons ok143 (.nil)))))))))))))))))))))))))))))))))))))))))))))))))))))))))
theorem mixed : Tryz.prog.follows .mixedOrders = true := by kernel_rfl

end Go.AL.Seat
