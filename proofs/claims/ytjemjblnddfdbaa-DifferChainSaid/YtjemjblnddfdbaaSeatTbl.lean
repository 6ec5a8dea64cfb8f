/-
  The table of types of this seat; it fits the program. No condition.
-/
import Derived.Test.YtjemjblnddfdbaaProg
import Derived.Test.YtjemjblnddfdbaaAlP
set_option linter.unusedVariables false
set_option linter.unusedSimpArgs false
set_option linter.unnecessarySimpa false
set_option linter.deprecated false
open Go Go.AL Go.Proofs
namespace Go.AL.Seat

def r2 : TR := ⟨.int .i64, 1, 8, [.int .i64 0], some (.int .i64)⟩
def r3 : TR := ⟨.int .i64, 1, 8, [.int .i64 0], some (.int .i64)⟩
def r4 : TR := ⟨.bool, 1, 1, [.bool false], some .bool⟩
def r5 : TR := ⟨.int .u8, 1, 1, [.int .u8 0], some (.int .u8)⟩
def r6 : TR := ⟨.int .u8, 1, 1, [.int .u8 0], some (.int .u8)⟩
def r7 : TR := ⟨.strct true [(0, 2), (1, 3), (2, 4), (3, 6)], 4, 24, [.int .i64 0, .int .i64 0, .bool false, .int .u8 0], none⟩
def r8 : TR := ⟨.strct true [(0, 2), (1, 3), (2, 4), (3, 6)], 4, 24, [.int .i64 0, .int .i64 0, .bool false, .int .u8 0], none⟩
def r9 : TR := ⟨.str, 1, 16, [.str []], some .str⟩
def r10 : TR := ⟨.str, 1, 16, [.str []], some .str⟩
def r11 : TR := ⟨.str, 1, 16, [.str []], some .str⟩
def r12 : TR := ⟨.int .u64, 1, 8, [.int .u64 0], some (.int .u64)⟩
def r13 : TR := ⟨.strct false [(0, 9), (1, 12)], 2, 24, [.str [], .int .u64 0], none⟩
def r14 : TR := ⟨.strct false [(0, 9), (1, 12)], 2, 24, [.str [], .int .u64 0], none⟩
def r15 : TR := ⟨.ptr 130, 1, 8, [.nilp], none⟩
def r16 : TR := ⟨.ptr 133, 1, 8, [.nilp], none⟩
def r17 : TR := ⟨.ptr 141, 1, 8, [.nilp], none⟩
def r18 : TR := ⟨.strct false [(0, 17)], 1, 8, [.nilp], none⟩
def r19 : TR := ⟨.strct false [(0, 17)], 1, 8, [.nilp], none⟩
def r20 : TR := ⟨.iface, 1, 16, [.nilif], none⟩
def r21 : TR := ⟨.int .i32, 1, 4, [.int .i32 0], some (.int .i32)⟩
def r22 : TR := ⟨.slice 24, 1, 24, [.nils], some (.lst (.st .change))⟩
def r23 : TR := ⟨.strct true [(0, 3), (1, 9)], 2, 24, [.int .i64 0, .str []], none⟩
def r24 : TR := ⟨.strct true [(0, 3), (1, 9)], 2, 24, [.int .i64 0, .str []], some (.st .change)⟩
def r31 : TR := ⟨.slice 43, 1, 24, [.nils], some (.lst (.st .item))⟩
def r32 : TR := ⟨.int .i64, 1, 8, [.int .i64 0], some (.int .i64)⟩
def r38 : TR := ⟨.slice 9, 1, 24, [.nils], some (.lst .str)⟩
def r39 : TR := ⟨.slice 41, 1, 24, [.nils], some (.lst (.st .shape))⟩
def r40 : TR := ⟨.strct false [(0, 3), (1, 9), (2, 9), (3, 38), (4, 39)], 5, 88, [.int .i64 0, .str [], .str [], .nils, .nils], none⟩
def r41 : TR := ⟨.strct false [(0, 3), (1, 9), (2, 9), (3, 38), (4, 39)], 5, 88, [.int .i64 0, .str [], .str [], .nils, .nils], some (.st .shape)⟩
def r42 : TR := ⟨.strct false [(0, 3), (1, 9), (2, 41)], 7, 112, [.int .i64 0, .str [], .int .i64 0, .str [], .str [], .nils, .nils], none⟩
def r43 : TR := ⟨.strct false [(0, 3), (1, 9), (2, 41)], 7, 112, [.int .i64 0, .str [], .int .i64 0, .str [], .str [], .nils, .nils], some (.st .item)⟩
def r44 : TR := ⟨.ptr 47, 1, 8, [.nilp], none⟩
def r45 : TR := ⟨.slice 5, 1, 24, [.nils], some (.lst (.int .u8))⟩
def r46 : TR := ⟨.strct false [(0, 44), (1, 45)], 2, 32, [.nilp, .nils], none⟩
def r47 : TR := ⟨.strct false [(0, 44), (1, 45)], 2, 32, [.nilp, .nils], none⟩
def r48 : TR := ⟨.iface, 1, 16, [.nilif], none⟩
def r49 : TR := ⟨.iface, 1, 16, [.nilif], none⟩
def r55 : TR := ⟨.map 9 3, 1, 8, [.undef], none⟩
def r64 : TR := ⟨.ptr 5, 1, 8, [.nilp], none⟩
def r84 : TR := ⟨.int .u64, 1, 8, [.int .u64 0], some (.int .u64)⟩
def r87 : TR := ⟨.slice 3, 1, 24, [.nils], some (.lst (.int .i64))⟩
def r92 : TR := ⟨.int .i64, 1, 8, [.int .i64 0], some (.int .i64)⟩
def r100 : TR := ⟨.int .u32, 1, 4, [.int .u32 0], some (.int .u32)⟩
def r102 : TR := ⟨.int .u64, 1, 8, [.int .u64 0], some (.int .u64)⟩
def r104 : TR := ⟨.strct false [], 0, 0, [], none⟩
def r105 : TR := ⟨.strct false [], 0, 0, [], none⟩
def r109 : TR := ⟨.int .u64, 1, 8, [.int .u64 0], some (.int .u64)⟩
def r113 : TR := ⟨.ptr 3, 1, 8, [.nilp], none⟩
def r123 : TR := ⟨.ptr 109, 1, 8, [.nilp], none⟩
def r129 : TR := ⟨.strct false [(0, 17), (1, 17), (2, 17), (3, 9)], 4, 40, [.nilp, .nilp, .nilp, .str []], none⟩
def r130 : TR := ⟨.strct false [(0, 17), (1, 17), (2, 17), (3, 9)], 4, 40, [.nilp, .nilp, .nilp, .str []], none⟩
def r135 : TR := ⟨.int .u8, 1, 1, [.int .u8 0], some (.int .u8)⟩
def r136 : TR := ⟨.int .u8, 1, 1, [.int .u8 0], some (.int .u8)⟩
def r138 : TR := ⟨.int .i32, 1, 4, [.int .i32 0], some (.int .i32)⟩
def r139 : TR := ⟨.int .i32, 1, 4, [.int .i32 0], some (.int .i32)⟩
def r140 : TR := ⟨.strct false [(0, 12), (1, 12), (2, 100), (3, 135), (4, 5), (5, 5), (6, 136), (7, 137), (8, 64), (9, 138), (10, 139)], 11, 48, [.int .u64 0, .int .u64 0, .int .u32 0, .int .u8 0, .int .u8 0, .int .u8 0, .int .u8 0, .undef, .nilp, .int .i32 0, .int .i32 0], none⟩
def r141 : TR := ⟨.strct false [(0, 12), (1, 12), (2, 100), (3, 135), (4, 5), (5, 5), (6, 136), (7, 137), (8, 64), (9, 138), (10, 139)], 11, 48, [.int .u64 0, .int .u64 0, .int .u32 0, .int .u8 0, .int .u8 0, .int .u8 0, .int .u8 0, .undef, .nilp, .int .i32 0, .int .i32 0], none⟩
def tbl : List (Nat × TR) := [(2, r2), (3, r3), (4, r4), (5, r5), (6, r6), (7, r7), (8, r8), (9, r9), (10, r10), (11, r11), (12, r12), (13, r13), (14, r14), (15, r15), (16, r16), (17, r17), (18, r18), (19, r19), (20, r20), (21, r21), (22, r22), (23, r23), (24, r24), (31, r31), (32, r32), (38, r38), (39, r39), (40, r40), (41, r41), (42, r42), (43, r43), (44, r44), (45, r45), (46, r46), (47, r47), (48, r48), (49, r49), (55, r55), (64, r64), (84, r84), (87, r87), (92, r92), (100, r100), (102, r102), (104, r104), (105, r105), (109, r109), (113, r113), (123, r123), (129, r129), (130, r130), (135, r135), (136, r136), (138, r138), (139, r139), (140, r140), (141, r141)]
theorem ok2 : TRok Try.prog 2 r2 := TRok.mk' (by kernel_rfl) (by kernel_rfl) (by kernel_rfl) (by kernel_rfl) (by kernel_rfl)
theorem ok3 : TRok Try.prog 3 r3 := TRok.mk' (by kernel_rfl) (by kernel_rfl) (by kernel_rfl) (by kernel_rfl) (by kernel_rfl)
theorem ok4 : TRok Try.prog 4 r4 := TRok.mk' (by kernel_rfl) (by kernel_rfl) (by kernel_rfl) (by kernel_rfl) (by kernel_rfl)
theorem ok5 : TRok Try.prog 5 r5 := TRok.mk' (by kernel_rfl) (by kernel_rfl) (by kernel_rfl) (by kernel_rfl) (by kernel_rfl)
theorem ok6 : TRok Try.prog 6 r6 := TRok.mk' (by kernel_rfl) (by kernel_rfl) (by kernel_rfl) (by kernel_rfl) (by kernel_rfl)
theorem ok7 : TRok Try.prog 7 r7 := TRok.mk' (by kernel_rfl) (by kernel_rfl) (by kernel_rfl) (by kernel_rfl) (by kernel_rfl)
theorem ok8 : TRok Try.prog 8 r8 := TRok.mk' (by kernel_rfl) (by kernel_rfl) (by kernel_rfl) (by kernel_rfl) (by kernel_rfl)
theorem ok9 : TRok Try.prog 9 r9 := TRok.mk' (by kernel_rfl) (by kernel_rfl) (by kernel_rfl) (by kernel_rfl) (by kernel_rfl)
theorem ok10 : TRok Try.prog 10 r10 := TRok.mk' (by kernel_rfl) (by kernel_rfl) (by kernel_rfl) (by kernel_rfl) (by kernel_rfl)
theorem ok11 : TRok Try.prog 11 r11 := TRok.mk' (by kernel_rfl) (by kernel_rfl) (by kernel_rfl) (by kernel_rfl) (by kernel_rfl)
theorem ok12 : TRok Try.prog 12 r12 := TRok.mk' (by kernel_rfl) (by kernel_rfl) (by kernel_rfl) (by kernel_rfl) (by kernel_rfl)
theorem ok13 : TRok Try.prog 13 r13 := TRok.mk' (by kernel_rfl) (by kernel_rfl) (by kernel_rfl) (by kernel_rfl) (by kernel_rfl)
theorem ok14 : TRok Try.prog 14 r14 := TRok.mk' (by kernel_rfl) (by kernel_rfl) (by kernel_rfl) (by kernel_rfl) (by kernel_rfl)
theorem ok15 : TRok Try.prog 15 r15 := TRok.mk' (by kernel_rfl) (by kernel_rfl) (by kernel_rfl) (by kernel_rfl) (by kernel_rfl)
theorem ok16 : TRok Try.prog 16 r16 := TRok.mk' (by kernel_rfl) (by kernel_rfl) (by kernel_rfl) (by kernel_rfl) (by kernel_rfl)
theorem ok17 : TRok Try.prog 17 r17 := TRok.mk' (by kernel_rfl) (by kernel_rfl) (by kernel_rfl) (by kernel_rfl) (by kernel_rfl)
theorem ok18 : TRok Try.prog 18 r18 := TRok.mk' (by kernel_rfl) (by kernel_rfl) (by kernel_rfl) (by kernel_rfl) (by kernel_rfl)
theorem ok19 : TRok Try.prog 19 r19 := TRok.mk' (by kernel_rfl) (by kernel_rfl) (by kernel_rfl) (by kernel_rfl) (by kernel_rfl)
theorem ok20 : TRok Try.prog 20 r20 := TRok.mk' (by kernel_rfl) (by kernel_rfl) (by kernel_rfl) (by kernel_rfl) (by kernel_rfl)
theorem ok21 : TRok Try.prog 21 r21 := TRok.mk' (by kernel_rfl) (by kernel_rfl) (by kernel_rfl) (by kernel_rfl) (by kernel_rfl)
theorem ok22 : TRok Try.prog 22 r22 := TRok.mk' (by kernel_rfl) (by kernel_rfl) (by kernel_rfl) (by kernel_rfl) (by kernel_rfl)
theorem ok23 : TRok Try.prog 23 r23 := TRok.mk' (by kernel_rfl) (by kernel_rfl) (by kernel_rfl) (by kernel_rfl) (by kernel_rfl)
theorem ok24 : TRok Try.prog 24 r24 := TRok.mk' (by kernel_rfl) (by kernel_rfl) (by kernel_rfl) (by kernel_rfl) (by kernel_rfl)
theorem ok31 : TRok Try.prog 31 r31 := TRok.mk' (by kernel_rfl) (by kernel_rfl) (by kernel_rfl) (by kernel_rfl) (by kernel_rfl)
theorem ok32 : TRok Try.prog 32 r32 := TRok.mk' (by kernel_rfl) (by kernel_rfl) (by kernel_rfl) (by kernel_rfl) (by kernel_rfl)
theorem ok38 : TRok Try.prog 38 r38 := TRok.mk' (by kernel_rfl) (by kernel_rfl) (by kernel_rfl) (by kernel_rfl) (by kernel_rfl)
theorem ok39 : TRok Try.prog 39 r39 := TRok.mk' (by kernel_rfl) (by kernel_rfl) (by kernel_rfl) (by kernel_rfl) (by kernel_rfl)
theorem ok40 : TRok Try.prog 40 r40 := TRok.mk' (by kernel_rfl) (by kernel_rfl) (by kernel_rfl) (by kernel_rfl) (by kernel_rfl)
theorem ok41 : TRok Try.prog 41 r41 := TRok.mk' (by kernel_rfl) (by kernel_rfl) (by kernel_rfl) (by kernel_rfl) (by kernel_rfl)
theorem ok42 : TRok Try.prog 42 r42 := TRok.mk' (by kernel_rfl) (by kernel_rfl) (by kernel_rfl) (by kernel_rfl) (by kernel_rfl)
theorem ok43 : TRok Try.prog 43 r43 := TRok.mk' (by kernel_rfl) (by kernel_rfl) (by kernel_rfl) (by kernel_rfl) (by kernel_rfl)
theorem ok44 : TRok Try.prog 44 r44 := TRok.mk' (by kernel_rfl) (by kernel_rfl) (by kernel_rfl) (by kernel_rfl) (by kernel_rfl)
theorem ok45 : TRok Try.prog 45 r45 := TRok.mk' (by kernel_rfl) (by kernel_rfl) (by kernel_rfl) (by kernel_rfl) (by kernel_rfl)
theorem ok46 : TRok Try.prog 46 r46 := TRok.mk' (by kernel_rfl) (by kernel_rfl) (by kernel_rfl) (by kernel_rfl) (by kernel_rfl)
theorem ok47 : TRok Try.prog 47 r47 := TRok.mk' (by kernel_rfl) (by kernel_rfl) (by kernel_rfl) (by kernel_rfl) (by kernel_rfl)
theorem ok48 : TRok Try.prog 48 r48 := TRok.mk' (by kernel_rfl) (by kernel_rfl) (by kernel_rfl) (by kernel_rfl) (by kernel_rfl)
theorem ok49 : TRok Try.prog 49 r49 := TRok.mk' (by kernel_rfl) (by kernel_rfl) (by kernel_rfl) (by kernel_rfl) (by kernel_rfl)
theorem ok55 : TRok Try.prog 55 r55 := TRok.mk' (by kernel_rfl) (by kernel_rfl) (by kernel_rfl) (by kernel_rfl) (by kernel_rfl)
theorem ok64 : TRok Try.prog 64 r64 := TRok.mk' (by kernel_rfl) (by kernel_rfl) (by kernel_rfl) (by kernel_rfl) (by kernel_rfl)
theorem ok84 : TRok Try.prog 84 r84 := TRok.mk' (by kernel_rfl) (by kernel_rfl) (by kernel_rfl) (by kernel_rfl) (by kernel_rfl)
theorem ok87 : TRok Try.prog 87 r87 := TRok.mk' (by kernel_rfl) (by kernel_rfl) (by kernel_rfl) (by kernel_rfl) (by kernel_rfl)
theorem ok92 : TRok Try.prog 92 r92 := TRok.mk' (by kernel_rfl) (by kernel_rfl) (by kernel_rfl) (by kernel_rfl) (by kernel_rfl)
theorem ok100 : TRok Try.prog 100 r100 := TRok.mk' (by kernel_rfl) (by kernel_rfl) (by kernel_rfl) (by kernel_rfl) (by kernel_rfl)
theorem ok102 : TRok Try.prog 102 r102 := TRok.mk' (by kernel_rfl) (by kernel_rfl) (by kernel_rfl) (by kernel_rfl) (by kernel_rfl)
theorem ok104 : TRok Try.prog 104 r104 := TRok.mk' (by kernel_rfl) (by kernel_rfl) (by kernel_rfl) (by kernel_rfl) (by kernel_rfl)
theorem ok105 : TRok Try.prog 105 r105 := TRok.mk' (by kernel_rfl) (by kernel_rfl) (by kernel_rfl) (by kernel_rfl) (by kernel_rfl)
theorem ok109 : TRok Try.prog 109 r109 := TRok.mk' (by kernel_rfl) (by kernel_rfl) (by kernel_rfl) (by kernel_rfl) (by kernel_rfl)
theorem ok113 : TRok Try.prog 113 r113 := TRok.mk' (by kernel_rfl) (by kernel_rfl) (by kernel_rfl) (by kernel_rfl) (by kernel_rfl)
theorem ok123 : TRok Try.prog 123 r123 := TRok.mk' (by kernel_rfl) (by kernel_rfl) (by kernel_rfl) (by kernel_rfl) (by kernel_rfl)
theorem ok129 : TRok Try.prog 129 r129 := TRok.mk' (by kernel_rfl) (by kernel_rfl) (by kernel_rfl) (by kernel_rfl) (by kernel_rfl)
theorem ok130 : TRok Try.prog 130 r130 := TRok.mk' (by kernel_rfl) (by kernel_rfl) (by kernel_rfl) (by kernel_rfl) (by kernel_rfl)
theorem ok135 : TRok Try.prog 135 r135 := TRok.mk' (by kernel_rfl) (by kernel_rfl) (by kernel_rfl) (by kernel_rfl) (by kernel_rfl)
theorem ok136 : TRok Try.prog 136 r136 := TRok.mk' (by kernel_rfl) (by kernel_rfl) (by kernel_rfl) (by kernel_rfl) (by kernel_rfl)
theorem ok138 : TRok Try.prog 138 r138 := TRok.mk' (by kernel_rfl) (by kernel_rfl) (by kernel_rfl) (by kernel_rfl) (by kernel_rfl)
theorem ok139 : TRok Try.prog 139 r139 := TRok.mk' (by kernel_rfl) (by kernel_rfl) (by kernel_rfl) (by kernel_rfl) (by kernel_rfl)
theorem ok140 : TRok Try.prog 140 r140 := TRok.mk' (by kernel_rfl) (by kernel_rfl) (by kernel_rfl) (by kernel_rfl) (by kernel_rfl)
theorem ok141 : TRok Try.prog 141 r141 := TRok.mk' (by kernel_rfl) (by kernel_rfl) (by kernel_rfl) (by kernel_rfl) (by kernel_rfl)
theorem tblOK : TblOK Try.prog tbl :=
  .cons ok2 (.cons ok3 (.cons ok4 (.cons ok5 (.cons ok6 (.cons ok7 (.cons ok8 (.cons ok9 (.cons ok10 (.cons ok11 (.cons ok12 (.cons ok13 (.cons ok14 (.cons ok15 (.cons ok16 (.cons ok17 (.cons ok18 (.cons ok19 (.cons ok20 (.cons ok21 (.cons ok22 (.cons ok23 (.cons ok24 (.cons ok31 (.cons ok32 (.cons ok38 (.cons ok39 (.cons ok40 (.cons ok41 (.cons ok42 (.cons ok43 (.cons ok44 (.cons ok45 (.cons ok46 (.cons ok47 (.cons ok48 (.cons ok49 (.cons ok55 (.cons ok64 (.cons ok84 (.cons ok87 (.cons ok92 (.cons ok100 (.cons ok102 (.cons ok104 (.cons ok105 (.cons ok109 (.cons ok113 (.cons ok123 (.cons ok129 (.cons ok130 (.cons ok135 (.cons ok136 (.cons ok138 (.cons ok139 (.cons ok140 (.cons ok141 (.nil)))))))))))))))))))))))))))))))))))))))))))))))))))))))))
theorem mixed : Try.prog.follows .mixedOrders = true := by kernel_rfl

end Go.AL.Seat
