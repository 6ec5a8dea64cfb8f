/-
  The contracts of this seat's functions. No condition.
-/
import Derived.Test.YtjemjblnddfdbaaGreatZTbl
import Derived.Test.YtjemjblnddfdbaaGreatZE
import Derived.Test.YtjemjblnddfdbaaGreatAlZ
import Derived.Test.YtjemjblnddfdbaaGreatVc1
import Derived.Test.YtjemjblnddfdbaaGreatVc2
set_option linter.unusedVariables false
set_option linter.unusedSimpArgs false
set_option linter.unnecessarySimpa false
set_option linter.deprecated false
open Go Go.AL Go.Proofs Go.Shelf Go.Pd
namespace Go.AL.Seat
set_option maxRecDepth 100000
theorem en_Class : Enters Tryz.prog 11 := Enters.mk' Tryz.func11 (by kernel_rfl)
theorem meets_Class (l : List Change) (hl : Wf (.lst (.st .change)) l)  : Meets Tryz.prog 11 [.lst (.st .change) l none] [] (.ret (.int .i64 (classF l))) :=
  fwp_sound (C := ⟨tbl, specL [], fun _ => false, fun _ => []⟩) (ann := ⟨[(3, fun S0 => ⟨Nat × Int, fun x => x.1 ≤ l.length ∧ (0 ≤ x.2 ∧ x.2 ≤ 2) ∧ classGo (l.drop x.1) x.2 = classF l, fun x => [(3, .int .i64 x.2), (8, .int .i64 x.1)], fun _ => [], fun x => l.length - x.1⟩)], []⟩) mixed tblOK (specL_nil) Tryz.func11 (Eq.mpr (by kernel_rfl) (vc_Class l hl))
theorem pat_Class : PatOK Tryz.prog 11 (p1 (.lst (.st .change)) fun l => .ret (.int .i64 (classF l))) :=
  p1_ok en_Class fun l hl _ => meets_Class l hl
theorem en_small : Enters Tryz.prog 88 := Enters.mk' Tryz.func88 (by kernel_rfl)
theorem meets_small (c : Int)   : Meets Tryz.prog 88 [.int .u8 c] [] (.ret (.bool (smallI c))) :=
  fwp_sound (C := ⟨tbl, specL [], fun _ => false, fun _ => []⟩) (ann := ⟨[], []⟩) mixed tblOK (specL_nil) Tryz.func88 (Eq.mpr (by kernel_rfl) (vc_small c))
theorem pat_small : PatOK Tryz.prog 88 (p1 (.int .u8) fun c => .ret (.bool (smallI c))) :=
  p1_ok en_small fun c _ _ => meets_small c
theorem en_great : Enters Tryz.prog 87 := Enters.mk' Tryz.func87 (by kernel_rfl)
theorem meets_great (c : Int)   : Meets Tryz.prog 87 [.int .u8 c] [] (.ret (.bool (greatI c))) :=
  fwp_sound (C := ⟨tbl, specL [], fun _ => false, fun _ => []⟩) (ann := ⟨[], []⟩) mixed tblOK (specL_nil) Tryz.func87 (Eq.mpr (by kernel_rfl) (vc_great c))
theorem pat_great : PatOK Tryz.prog 87 (p1 (.int .u8) fun c => .ret (.bool (greatI c))) :=
  p1_ok en_great fun c _ _ => meets_great c
theorem en_digit : Enters Tryz.prog 111 := Enters.mk' Tryz.func111 (by kernel_rfl)
theorem meets_digit (c : Int)   : Meets Tryz.prog 111 [.int .u8 c] [] (.ret (.bool (digitI c))) :=
  fwp_sound (C := ⟨tbl, specL [], fun _ => false, fun _ => []⟩) (ann := ⟨[], []⟩) mixed tblOK (specL_nil) Tryz.func111 (Eq.mpr (by kernel_rfl) (vc_digit c))
theorem pat_digit : PatOK Tryz.prog 111 (p1 (.int .u8) fun c => .ret (.bool (digitI c))) :=
  p1_ok en_digit fun c _ _ => meets_digit c
theorem en_rest : Enters Tryz.prog 103 := Enters.mk' Tryz.func103 (by kernel_rfl)
theorem meets_rest (c : Int)   : Meets Tryz.prog 103 [.int .u8 c] [] (.ret (.bool (restI c))) :=
  fwp_sound (C := ⟨tbl, specL [(88, p1 (.int .u8) fun c => .ret (.bool (smallI c))), (87, p1 (.int .u8) fun c => .ret (.bool (greatI c))), (111, p1 (.int .u8) fun c => .ret (.bool (digitI c)))], fun _ => false, fun _ => []⟩) (ann := ⟨[], []⟩) mixed tblOK (specL_cons pat_small (specL_cons pat_great (specL_cons pat_digit (specL_nil)))) Tryz.func103 (Eq.mpr (by kernel_rfl) (vc_rest c))
theorem pat_rest : PatOK Tryz.prog 103 (p1 (.int .u8) fun c => .ret (.bool (restI c))) :=
  p1_ok en_rest fun c _ _ => meets_rest c
theorem en_nameds : Enters Tryz.prog 86 := Enters.mk' Tryz.func86 (by kernel_rfl)
theorem meets_nameds (s : Str) (hs : Wf .str s)  : Meets Tryz.prog 86 [.str s, .fn 88 []] [] (.ret (.bool (namedF smallI s))) :=
  fwp_sound (C := ⟨tbl, specL [(88, p1 (.int .u8) fun c => .ret (.bool (smallI c))), (87, p1 (.int .u8) fun c => .ret (.bool (greatI c))), (103, p1 (.int .u8) fun c => .ret (.bool (restI c)))], fun _ => false, fun _ => []⟩) (ann := ⟨[(4, fun S0 => ⟨Nat, fun k => k ≤ s.length ∧ namedF smallI s = (s.drop k).all fun c => restI (bI c), fun k => [(22, .int .i64 k)], fun _ => [], fun k => s.length - k⟩)], []⟩) mixed tblOK (specL_cons pat_small (specL_cons pat_great (specL_cons pat_rest (specL_nil)))) Tryz.func86 (Eq.mpr (by kernel_rfl) (vc_nameds s hs))
theorem pat_nameds : PatOK Tryz.prog 86 (pf .str 88 fun s => .ret (.bool (namedF smallI s))) :=
  pf_ok en_nameds fun s hs _ => meets_nameds s hs
theorem en_namedg : Enters Tryz.prog 86 := Enters.mk' Tryz.func86 (by kernel_rfl)
theorem meets_namedg (s : Str) (hs : Wf .str s)  : Meets Tryz.prog 86 [.str s, .fn 87 []] [] (.ret (.bool (namedF greatI s))) :=
  fwp_sound (C := ⟨tbl, specL [(88, p1 (.int .u8) fun c => .ret (.bool (smallI c))), (87, p1 (.int .u8) fun c => .ret (.bool (greatI c))), (103, p1 (.int .u8) fun c => .ret (.bool (restI c)))], fun _ => false, fun _ => []⟩) (ann := ⟨[(4, fun S0 => ⟨Nat, fun k => k ≤ s.length ∧ namedF greatI s = (s.drop k).all fun c => restI (bI c), fun k => [(22, .int .i64 k)], fun _ => [], fun k => s.length - k⟩)], []⟩) mixed tblOK (specL_cons pat_small (specL_cons pat_great (specL_cons pat_rest (specL_nil)))) Tryz.func86 (Eq.mpr (by kernel_rfl) (vc_namedg s hs))
theorem pat_namedg : PatOK Tryz.prog 86 (pf .str 87 fun s => .ret (.bool (namedF greatI s))) :=
  pf_ok en_namedg fun s hs _ => meets_namedg s hs
theorem en_Word : Enters Tryz.prog 89 := Enters.mk' Tryz.func89 (by kernel_rfl)
theorem meets_Word (s : Str)   : Meets Tryz.prog 89 [.str s] [] (.ret (.bool (wordF s))) :=
  fwp_sound (C := ⟨tbl, specL [], fun _ => false, fun _ => []⟩) (ann := ⟨[], []⟩) mixed tblOK (specL_nil) Tryz.func89 (Eq.mpr (by kernel_rfl) (vc_Word s))
theorem pat_Word : PatOK Tryz.prog 89 (p1 .str fun s => .ret (.bool (wordF s))) :=
  p1_ok en_Word fun s _ _ => meets_Word s
theorem en_Name : Enters Tryz.prog 78 := Enters.mk' Tryz.func78 (by kernel_rfl)
theorem meets_Name (s : Str)   : Meets Tryz.prog 78 [.str s] [] (.ret (.bool (nameF s))) :=
  fwp_sound (C := ⟨tbl, specL [(86, pf .str 88 fun s => .ret (.bool (namedF smallI s))), (89, p1 .str fun s => .ret (.bool (wordF s)))], fun _ => false, fun _ => []⟩) (ann := ⟨[], []⟩) mixed tblOK (specL_cons pat_nameds (specL_cons pat_Word (specL_nil))) Tryz.func78 (Eq.mpr (by kernel_rfl) (vc_Name s))
theorem pat_Name : PatOK Tryz.prog 78 (p1 .str fun s => .ret (.bool (nameF s))) :=
  p1_ok en_Name fun s _ _ => meets_Name s
theorem en_Upper : Enters Tryz.prog 76 := Enters.mk' Tryz.func76 (by kernel_rfl)
theorem meets_Upper (s : Str)   : Meets Tryz.prog 76 [.str s] [] (.ret (.bool (upperF s))) :=
  fwp_sound (C := ⟨tbl, specL [(86, pf .str 87 fun s => .ret (.bool (namedF greatI s)))], fun _ => false, fun _ => []⟩) (ann := ⟨[], []⟩) mixed tblOK (specL_cons pat_namedg (specL_nil)) Tryz.func76 (Eq.mpr (by kernel_rfl) (vc_Upper s))
theorem pat_Upper : PatOK Tryz.prog 76 (p1 .str fun s => .ret (.bool (upperF s))) :=
  p1_ok en_Upper fun s _ _ => meets_Upper s
theorem en_SEqual : Enters Tryz.prog 56 := Enters.mk' Tryz.func56 (by kernel_rfl)
theorem meets_SEqual (a b : List Str) (ha : Wf (.lst .str) a) (hb : Wf (.lst .str) b)  : Meets Tryz.prog 56 [.lst .str a none, .lst .str b none] [] (.ret (.bool (decide (a = b)))) :=
  fwp_sound (C := ⟨tbl, specL [], fun _ => false, fun _ => []⟩) (ann := ⟨[(4, fun S0 => ⟨Nat, fun k => k ≤ a.length ∧ a.length = b.length ∧ decide (a = b) = decide (a.drop k = b.drop k), fun k => [(13, .int .i64 k)], fun _ => [], fun k => a.length - k⟩)], []⟩) mixed tblOK (specL_nil) Tryz.func56 (Eq.mpr (by kernel_rfl) (vc_SEqual a b ha hb))
theorem pat_SEqual : PatOK Tryz.prog 56 (p2 (.lst .str) (.lst .str) fun a b => .ret (.bool (decide (a = b)))) :=
  p2_ok en_SEqual fun a b ha hb _ => meets_SEqual a b ha hb
theorem en_plain : Enters Tryz.prog 77 := Enters.mk' Tryz.func77 (by kernel_rfl)
theorem meets_plain (s : Str)   : Meets Tryz.prog 77 [.str s] [] (.ret (.bool (plainF s))) :=
  fwp_sound (C := ⟨tbl, specL [], fun _ => false, fun _ => []⟩) (ann := ⟨[], []⟩) mixed tblOK (specL_nil) Tryz.func77 (Eq.mpr (by kernel_rfl) (vc_plain s))
theorem pat_plain : PatOK Tryz.prog 77 (p1 .str fun s => .ret (.bool (plainF s))) :=
  p1_ok en_plain fun s _ _ => meets_plain s
theorem en_EqualFunc : Enters Tryz.prog 57 := Enters.mk' Tryz.func57 (by kernel_rfl)
theorem meets_EqualFunc (n : Nat) (a b : List AL.Shape) (ha : Wf (.lst (.st .shape)) a) (hb : Wf (.lst (.st .shape)) b) (hn : szL a ≤ n) (hE : PatOK Tryz.prog 34 (p2 (.st .shape) (.st .shape) fun a b => ⟨some (sz a ≤ n), none, .bool (eqS a b), []⟩)) : Meets Tryz.prog 57 [.lst (.st .shape) a none, .lst (.st .shape) b none, .fn 34 []] [] (.ret (.bool (eqL a b))) :=
  fwp_sound (C := ⟨tbl, specL [(34, p2 (.st .shape) (.st .shape) fun a b => ⟨some (sz a ≤ n), none, .bool (eqS a b), []⟩)], fun _ => false, fun _ => []⟩) (ann := ⟨[(4, fun S0 => ⟨Nat, fun k => k ≤ a.length ∧ a.length = b.length ∧ eqL a b = eqL (a.drop k) (b.drop k), fun k => [(17, .int .i64 k)], fun _ => [], fun k => a.length - k⟩)], []⟩) mixed tblOK (specL_cons (hE) (specL_nil)) Tryz.func57 (Eq.mpr (by kernel_rfl) (vc_EqualFunc n a b ha hb hn))
theorem en_equal : Enters Tryz.prog 34 := Enters.mk' Tryz.func34 (by kernel_rfl)
theorem meets_equal (n : Nat) (a b : Shape) (hn : sz a ≤ n + 1) (hL : PatOK Tryz.prog 57 (pff (.lst (.st .shape)) (.lst (.st .shape)) 34 fun a b => ⟨some (szL a ≤ n), none, .bool (eqL a b), []⟩)) : Meets Tryz.prog 34 [.st .shape a, .st .shape b] [] (.ret (.bool (eqS a b))) :=
  fwp_sound (C := ⟨tbl, specL [(56, p2 (.lst .str) (.lst .str) fun a b => .ret (.bool (decide (a = b)))), (57, pff (.lst (.st .shape)) (.lst (.st .shape)) 34 fun a b => ⟨some (szL a ≤ n), none, .bool (eqL a b), []⟩)], fun _ => false, fun _ => []⟩) (ann := ⟨[], []⟩) mixed tblOK (specL_cons pat_SEqual (specL_cons (hL) (specL_nil))) Tryz.func34 (Eq.mpr (by kernel_rfl) (vc_equal n a b hn))
theorem pat_equal : ∀ n : Nat, PatOK Tryz.prog 34 (p2 (.st .shape) (.st .shape) fun a b => ⟨some (sz a ≤ n), none, .bool (eqS a b), []⟩) := by
  intro n
  induction n with
  | zero => exact p2_ok en_equal fun a b _ _ ho => absurd (ho _ rfl) (by have := sz_pos a; omega)
  | succ n ih => exact p2_ok en_equal fun a b _ _ ho => meets_equal n a b (ho _ rfl) (pff_ok en_EqualFunc fun a b ha hb ho => meets_EqualFunc n a b ha hb (ho _ rfl) ih)
theorem en_Values : Enters Tryz.prog 84 := Enters.mk' Tryz.func84 (by kernel_rfl)
theorem meets_Values (a : List Str)   : Meets Tryz.prog 84 [.lst .str a none] [] (⟨none, none, .fn 102 [.ptr 1 0], [(1, .box (.lst .str a none))]⟩) :=
  fwp_sound (C := ⟨tbl, specL [], fun _ => false, fun _ => []⟩) (ann := ⟨[], []⟩) mixed tblOK (specL_nil) Tryz.func84 (Eq.mpr (by kernel_rfl) (vc_Values a))
theorem pat_Values : PatOK Tryz.prog 84 (p1 (.lst .str) fun a => ⟨none, none, .fn 102 [.ptr 1 0], [(1, .box (.lst .str a none))]⟩) :=
  p1_ok en_Values fun a _ _ => meets_Values a
theorem en_named : Enters Tryz.prog 75 := Enters.mk' Tryz.func75 (by kernel_rfl)
theorem meets_named (s : AL.Shape) (hs : Wf (.st .shape) s) (ho : s.parts.length * 16 ≤ 140737488355328)  : Meets Tryz.prog 75 [.st .shape s] [] (⟨some (s.parts.length * 16 ≤ 140737488355328), none, .bool (namedOK s), []⟩) :=
  fwp_sound (C := ⟨tbl, specL [(78, p1 .str fun s => .ret (.bool (nameF s))), (84, p1 (.lst .str) fun a => ⟨none, none, .fn 102 [.ptr 1 0], [(1, .box (.lst .str a none))]⟩), (13, patSorted 102 23), (85, patCompact)], fun _ => false, fun _ => []⟩) (ann := ⟨[(4, fun S0 => ⟨Nat, fun k => k ≤ s.names.length ∧ s.names.length = s.parts.length ∧ namedOK s = (((s.names.drop k).all nameF) && decide s.names.Nodup), fun k => [(16, .int .i64 k)], fun _ => [], fun k => s.names.length - k⟩)], []⟩) mixed tblOK (specL_cons pat_Name (specL_cons pat_Values (specL_cons (pat_Sorted) (specL_cons (pat_Compact) (specL_nil))))) Tryz.func75 (Eq.mpr (by kernel_rfl) (vc_named s hs ho))
theorem pat_named : PatOK Tryz.prog 75 (p1 (.st .shape) fun s => ⟨some (s.parts.length * 16 ≤ 140737488355328), none, .bool (namedOK s), []⟩) :=
  p1_ok en_named fun s hs ho => meets_named s hs (ho _ rfl)
theorem en_fits : Enters Tryz.prog 55 := Enters.mk' Tryz.func55 (by kernel_rfl)
theorem meets_fits (s : AL.Shape) (hs : Wf (.st .shape) s) (ho : s.parts.length * 16 ≤ 140737488355328)  : Meets Tryz.prog 55 [.st .shape s] [] (⟨some (s.parts.length * 16 ≤ 140737488355328), none, .bool (fitsF s), []⟩) :=
  fwp_sound (C := ⟨tbl, specL [(75, p1 (.st .shape) fun s => ⟨some (s.parts.length * 16 ≤ 140737488355328), none, .bool (namedOK s), []⟩), (76, p1 .str fun s => .ret (.bool (upperF s))), (78, p1 .str fun s => .ret (.bool (nameF s))), (77, p1 .str fun s => .ret (.bool (plainF s)))], fun _ => false, fun _ => []⟩) (ann := ⟨[], []⟩) mixed tblOK (specL_cons pat_named (specL_cons pat_Upper (specL_cons pat_Name (specL_cons pat_plain (specL_nil))))) Tryz.func55 (Eq.mpr (by kernel_rfl) (vc_fits s hs ho))
theorem pat_fits : PatOK Tryz.prog 55 (p1 (.st .shape) fun s => ⟨some (s.parts.length * 16 ≤ 140737488355328), none, .bool (fitsF s), []⟩) :=
  p1_ok en_fits fun s hs ho => meets_fits s hs (ho _ rfl)
theorem en_allFits : Enters Tryz.prog 54 := Enters.mk' Tryz.func54 (by kernel_rfl)
theorem meets_allFits (n : Nat) (s : AL.Shape) (hs : Wf (.st .shape) s) (hn : sz s ≤ n + 1) (hb : n ≤ 1000000) (hA : PatOK Tryz.prog 54 (pf (.st .shape) 55 fun s => ⟨some (sz s ≤ n), none, .bool (allS fitsF s), []⟩)) : Meets Tryz.prog 54 [.st .shape s, .fn 55 []] [] (.ret (.bool (allS fitsF s))) :=
  fwp_sound (C := ⟨tbl, specL [(55, p1 (.st .shape) fun s => ⟨some (s.parts.length * 16 ≤ 140737488355328), none, .bool (fitsF s), []⟩), (54, pf (.st .shape) 55 fun s => ⟨some (sz s ≤ n), none, .bool (allS fitsF s), []⟩)], fun _ => false, fun _ => []⟩) (ann := ⟨[(4, fun S0 => ⟨Nat, fun k => k ≤ s.parts.length ∧ allS fitsF s = allL fitsF (s.parts.drop k), fun k => [(14, .int .i64 k)], fun _ => [], fun k => s.parts.length - k⟩)], []⟩) mixed tblOK (specL_cons pat_fits (specL_cons (hA) (specL_nil))) Tryz.func54 (Eq.mpr (by kernel_rfl) (vc_allFits n s hs hn hb))
theorem pat_allFits : ∀ n : Nat, n ≤ 1000000 → PatOK Tryz.prog 54 (pf (.st .shape) 55 fun s => ⟨some (sz s ≤ n), none, .bool (allS fitsF s), []⟩) := by
  intro n
  induction n with
  | zero => exact fun _ => pf_ok en_allFits fun a hs ho => absurd (ho _ rfl) (by have := sz_pos a; omega)
  | succ n ih => exact fun hb => pf_ok en_allFits fun a hs ho => meets_allFits n a hs (ho _ rfl) (by omega) (ih (by omega))
theorem en_sorted : Enters Tryz.prog 35 := Enters.mk' Tryz.func35 (by kernel_rfl)
theorem meets_sorted (n : Nat) (s : AL.Shape) (hs : Wf (.st .shape) s) (hn : sz s ≤ n + 1) (ho : allS orderly s = true) (hb : n ≤ 1000000) (hA : PatOK Tryz.prog 35 (p1 (.st .shape) fun s => ⟨some (sz s ≤ n ∧ allS orderly s = true), none, .st .shape (sortedS s), []⟩)) : Meets Tryz.prog 35 [.st .shape s] [] (.ret (.st .shape (sortedS s))) :=
  fwp_sound (C := ⟨tbl, specL [(58, patSortFunc 59), (35, p1 (.st .shape) fun s => ⟨some (sz s ≤ n ∧ allS orderly s = true), none, .st .shape (sortedS s), []⟩)], fun _ => false, fun _ => []⟩) (ann := ⟨[(4, fun S0 => ⟨Nat, fun k => k ≤ s.parts.length, fun k => [(21, .int .i64 k)], fun k => [(18, .box (.row (.int .i64) (rangeI k ++ List.replicate (s.parts.length - k) 0)))], fun k => s.parts.length - k⟩), (11, fun S0 => ⟨Nat, fun k => k ≤ s.parts.length, fun k => [(38, .int .i64 k)], fun k => [(3, .box (.agg [.int .i64 s.kind, .str s.pkg, .str s.name, .lst .str (if s.names = [] then [] else (places s |>.take k).map (nameAt s.names)) (some 701), .lst (.st .shape) ((places s |>.take k).map fun i => (sortedL s.parts).getD i.toNat dflS) (some 702)])), (18, .box (.row (.int .i64) (places s))), (701, .tail .str (if s.names = [] then [] else (places s |>.take k).map (nameAt s.names)).length), (702, .tail (.st .shape) k)], fun k => s.parts.length - k⟩)], []⟩) mixed tblOK (specL_cons (pat_SortFunc) (specL_cons (hA) (specL_nil))) Tryz.func35 (Eq.mpr (by kernel_rfl) (vc_sorted n s hs hn ho hb))
theorem pat_sorted : ∀ n : Nat, n ≤ 1000000 → PatOK Tryz.prog 35 (p1 (.st .shape) fun s => ⟨some (sz s ≤ n ∧ allS orderly s = true), none, .st .shape (sortedS s), []⟩) := by
  intro n
  induction n with
  | zero => exact fun _ => p1_ok en_sorted fun a hs ho => absurd (ho _ rfl).1 (by have := sz_pos a; omega)
  | succ n ih => exact fun hb => p1_ok en_sorted fun a hs ho => meets_sorted n a hs (ho _ rfl).1 (ho _ rfl).2 (by omega) (ih (by omega))
theorem en_meet : Enters Tryz.prog 74 := Enters.mk' Tryz.func74 (by kernel_rfl)
theorem meets_meet (c : Int) (hc : 0 ≤ c ∧ c ≤ 400)  : Meets Tryz.prog 74 [.ptr 900 0] [(900, .box (.int .i64 c))] (meetA 108 c) :=
  fwp_sound (C := ⟨tbl, specL [], fun _ => false, fun _ => []⟩) (ann := ⟨[], []⟩) mixed tblOK (specL_nil) Tryz.func74 (Eq.mpr (by kernel_rfl) (vc_meet c hc))
theorem pat_meet : PatOK Tryz.prog 74 (patMeet 108) :=
  patMeet_ok en_meet fun c hc => meets_meet c hc
theorem en_walk : Enters Tryz.prog 73 := Enters.mk' Tryz.func73 (by kernel_rfl)
theorem meets_walk (n : Nat) (s : AL.Shape) (l c : Int) (hs : Wf (.st .shape) s) (hn : sz s ≤ n + 1) (hc : 0 ≤ c ∧ c ≤ 400 ∧ 1 ≤ l ∧ l ≤ c + 1) (hA : PatOK Tryz.prog 73 (patWalk 108 74 n)) : Meets Tryz.prog 73 [.st .shape s, .int .i64 l, .fn 74 [.ptr 900 0]] [(900, .box (.int .i64 c))] (walkA 108 s l c (sz s ≤ n + 1)) :=
  fwp_sound (C := ⟨tbl, specL [(74, patMeet 108), (73, patWalk 108 74 n)], fun _ => false, fun _ => []⟩) (ann := ⟨[(4, fun S0 => ⟨Nat × Int, fun x => x.1 ≤ s.parts.length ∧ c + 1 + (szL (s.parts.take x.1) : Int) ≤ 400 ∧ deepL (s.parts.drop x.1) (l + 1) x.2 = deepS s l, fun x => [(7, .int .i64 x.2), (16, .int .i64 x.1)], fun x => [(900, .box (.int .i64 (c + 1 + (szL (s.parts.take x.1) : Int))))], fun x => s.parts.length - x.1⟩)], []⟩) mixed tblOK (specL_cons pat_meet (specL_cons (hA) (specL_nil))) Tryz.func73 (Eq.mpr (by kernel_rfl) (vc_walk n s l c hs hn hc))
theorem pat_walk : ∀ n : Nat, PatOK Tryz.prog 73 (patWalk 108 74 n) := by
  intro n
  induction n with
  | zero => exact patWalk_ok en_walk fun s l c hs hn hc => absurd hn (by have := sz_pos s; omega)
  | succ n ih => exact patWalk_ok en_walk fun s l c hs hn hc => meets_walk n s l c hs hn hc ih
theorem en_count : Enters Tryz.prog 53 := Enters.mk' Tryz.func53 (by kernel_rfl)
theorem meets_count (s : AL.Shape) (hs : Wf (.st .shape) s)  : Meets Tryz.prog 53 [.st .shape s] [] (.ret (.tup [.int .i64 (if sz s ≤ 400 then (sz s : Int) else 401), .int .i64 (if sz s ≤ 400 then deepS s 1 else 0), .bool (decide (sz s ≤ 400))])) :=
  fwpR_sound (C := ⟨tbl, specL [(73, patWalk 108 74 (sz s))], fun _ => false, fun _ => []⟩) (ann := ⟨[], []⟩) (annC := ⟨[], []⟩) mixed tblOK (specL_cons (pat_walk (sz s)) (specL_nil)) Tryz.func53 Tryz.func72 (enters_of Tryz.func72 (by kernel_rfl) rfl) (Eq.mpr (by kernel_rfl) (vc_count s hs))
theorem pat_count : PatOK Tryz.prog 53 (p1 (.st .shape) fun s => .ret (.tup [.int .i64 (if sz s ≤ 400 then (sz s : Int) else 401), .int .i64 (if sz s ≤ 400 then deepS s 1 else 0), .bool (decide (sz s ≤ 400))])) :=
  p1_ok en_count fun s hs _ => meets_count s hs
theorem en_Check : Enters Tryz.prog 33 := Enters.mk' Tryz.func33 (by kernel_rfl)
theorem meets_Check (s : AL.Shape)   : Meets Tryz.prog 33 [.st .shape s] [] (.ret (.int .i64 (checkS s))) :=
  fwp_sound (C := ⟨tbl, specL [(53, p1 (.st .shape) fun s => .ret (.tup [.int .i64 (if sz s ≤ 400 then (sz s : Int) else 401), .int .i64 (if sz s ≤ 400 then deepS s 1 else 0), .bool (decide (sz s ≤ 400))])), (54, pf (.st .shape) 55 fun s => ⟨some (sz s ≤ 400), none, .bool (allS fitsF s), []⟩)], fun _ => false, fun _ => []⟩) (ann := ⟨[], []⟩) mixed tblOK (specL_cons (pat_count) (specL_cons (pat_allFits 400 (by decide)) (specL_nil))) Tryz.func33 (Eq.mpr (by kernel_rfl) (vc_Check s))
theorem pat_Check : PatOK Tryz.prog 33 (p1 (.st .shape) fun s => .ret (.int .i64 (checkS s))) :=
  p1_ok en_Check fun s _ _ => meets_Check s
theorem en_Same : Enters Tryz.prog 24 := Enters.mk' Tryz.func24 (by kernel_rfl)
theorem meets_Same (a b : Shape)   : Meets Tryz.prog 24 [.st .shape a, .st .shape b] [] (.ret (.bool (sameS a b))) :=
  fwp_sound (C := ⟨tbl, specL [(33, p1 (.st .shape) fun s => .ret (.int .i64 (checkS s))), (35, p1 (.st .shape) fun s => ⟨some (sz s ≤ 400 ∧ allS orderly s = true), none, .st .shape (sortedS s), []⟩), (34, p2 (.st .shape) (.st .shape) fun a b => ⟨some (sz a ≤ 400), none, .bool (eqS a b), []⟩)], fun _ => false, fun _ => []⟩) (ann := ⟨[], []⟩) mixed tblOK (specL_cons pat_Check (specL_cons (pat_sorted 400 (by decide)) (specL_cons (pat_equal 400) (specL_nil)))) Tryz.func24 (Eq.mpr (by kernel_rfl) (vc_Same a b))
theorem pat_Same : PatOK Tryz.prog 24 (p2 (.st .shape) (.st .shape) fun a b => .ret (.bool (sameS a b))) :=
  p2_ok en_Same fun a b _ _ _ => meets_Same a b
theorem en_fields : Enters Tryz.prog 81 := Enters.mk' Tryz.func81 (by kernel_rfl)
theorem meets_fields (s : AL.Shape) (hs : Wf (.st .shape) s)  : Meets Tryz.prog 81 [.st .shape s] [] (⟨none, none, .map 9, [(9, .map .str (.int .i64) (fieldsFrom s.names 0 []))]⟩) :=
  fwp_sound (C := ⟨tbl, specL [], fun _ => false, fun _ => []⟩) (ann := ⟨[(3, fun S0 => ⟨Nat × List (Str × Int), fun x => x.1 ≤ s.names.length ∧ fieldsFrom (s.names.drop x.1) (x.1 : Int) x.2 = fieldsFrom s.names 0 [], fun x => [(13, .int .i64 x.1)], fun x => [(9, .map .str (.int .i64) x.2)], fun x => s.names.length - x.1⟩)], []⟩) mixed tblOK (specL_nil) Tryz.func81 (Eq.mpr (by kernel_rfl) (vc_fields s hs))
theorem pat_fields : PatOK Tryz.prog 81 (p1 (.st .shape) fun s => ⟨none, none, .map 9, [(9, .map .str (.int .i64) (fieldsFrom s.names 0 []))]⟩) :=
  p1_ok en_fields fun s hs _ => meets_fields s hs
theorem en_belowr : Enters Tryz.prog 62 := Enters.mk' Tryz.func62 (by kernel_rfl)
theorem meets_belowr (n : Nat) (a b : Shape) (ho : (allS fitsF a = true ∧ allS fitsF b = true ∧ sz a + sz b ≤ n)) (hB : PatOK Tryz.prog 36 (p2 (.st .shape) (.st .shape) fun a b => ⟨some (allS fitsF a = true ∧ allS fitsF b = true ∧ sz a + sz b ≤ n), none, .bool (under n a b), []⟩)) : Meets Tryz.prog 62 [.st .shape a, .st .shape b] [] (.ret (.bool (under n b a))) :=
  fwp_sound (C := ⟨tbl, specL [(36, p2 (.st .shape) (.st .shape) fun a b => ⟨some (allS fitsF a = true ∧ allS fitsF b = true ∧ sz a + sz b ≤ n), none, .bool (under n a b), []⟩)], fun _ => false, fun _ => []⟩) (ann := ⟨[], []⟩) mixed tblOK (specL_cons (hB) (specL_nil)) Tryz.func62 (Eq.mpr (by kernel_rfl) (vc_belowr n a b ho))
theorem en_within1 : Enters Tryz.prog 61 := Enters.mk' Tryz.func61 (by kernel_rfl)
theorem meets_within1 (n : Nat) (u others : Shape) (hs : Wf (.st .shape) u) (ho : (allL fitsF u.parts = true ∧ allL fitsF others.parts = true ∧ u.names.length = u.parts.length ∧ others.names.length = others.parts.length ∧ others.names.Nodup ∧ szL u.parts + szL others.parts ≤ n)) (hB : PatOK Tryz.prog 62 (p2 (.st .shape) (.st .shape) fun a b => ⟨some (allS fitsF a = true ∧ allS fitsF b = true ∧ sz a + sz b ≤ n), none, .bool (under n b a), []⟩)) : Meets Tryz.prog 61 [.st .shape u, .st .shape others, .fn 62 []] [] (.ret (.bool (withinL (fun p x => under n x p) others u.names u.parts))) :=
  fwp_sound (C := ⟨tbl, specL [(81, p1 (.st .shape) fun s => ⟨none, none, .map 9, [(9, .map .str (.int .i64) (fieldsFrom s.names 0 []))]⟩), (62, p2 (.st .shape) (.st .shape) fun a b => ⟨some (allS fitsF a = true ∧ allS fitsF b = true ∧ sz a + sz b ≤ n), none, .bool (under n b a), []⟩)], fun _ => false, fun _ => []⟩) (ann := ⟨[(3, fun S0 => ⟨Nat, fun k => k ≤ u.names.length ∧ withinL (fun p x => under n x p) others u.names u.parts = withinL (fun p x => under n x p) others (u.names.drop k) (u.parts.drop k), fun k => [(17, .int .i64 k)], fun _ => [], fun k => u.names.length - k⟩)], []⟩) mixed tblOK (specL_cons pat_fields (specL_cons (hB) (specL_nil))) Tryz.func61 (Eq.mpr (by kernel_rfl) (vc_within1 n u others hs ho))
theorem en_within2 : Enters Tryz.prog 61 := Enters.mk' Tryz.func61 (by kernel_rfl)
theorem meets_within2 (n : Nat) (u others : Shape) (hs : Wf (.st .shape) u) (ho : (allL fitsF u.parts = true ∧ allL fitsF others.parts = true ∧ u.names.length = u.parts.length ∧ others.names.length = others.parts.length ∧ others.names.Nodup ∧ szL u.parts + szL others.parts ≤ n)) (hB : PatOK Tryz.prog 36 (p2 (.st .shape) (.st .shape) fun a b => ⟨some (allS fitsF a = true ∧ allS fitsF b = true ∧ sz a + sz b ≤ n), none, .bool (under n a b), []⟩)) : Meets Tryz.prog 61 [.st .shape u, .st .shape others, .fn 36 []] [] (.ret (.bool (withinL (under n) others u.names u.parts))) :=
  fwp_sound (C := ⟨tbl, specL [(81, p1 (.st .shape) fun s => ⟨none, none, .map 9, [(9, .map .str (.int .i64) (fieldsFrom s.names 0 []))]⟩), (36, p2 (.st .shape) (.st .shape) fun a b => ⟨some (allS fitsF a = true ∧ allS fitsF b = true ∧ sz a + sz b ≤ n), none, .bool (under n a b), []⟩)], fun _ => false, fun _ => []⟩) (ann := ⟨[(3, fun S0 => ⟨Nat, fun k => k ≤ u.names.length ∧ withinL (under n) others u.names u.parts = withinL (under n) others (u.names.drop k) (u.parts.drop k), fun k => [(17, .int .i64 k)], fun _ => [], fun k => u.names.length - k⟩)], []⟩) mixed tblOK (specL_cons pat_fields (specL_cons (hB) (specL_nil))) Tryz.func61 (Eq.mpr (by kernel_rfl) (vc_within2 n u others hs ho))
theorem en_below : Enters Tryz.prog 36 := Enters.mk' Tryz.func36 (by kernel_rfl)
theorem meets_below (n : Nat) (a b : Shape) (ha : Wf (.st .shape) a) (hb : Wf (.st .shape) b) (ho : (allS fitsF a = true ∧ allS fitsF b = true ∧ sz a + sz b ≤ n + 1)) (hB : PatOK Tryz.prog 36 (p2 (.st .shape) (.st .shape) fun a b => ⟨some (allS fitsF a = true ∧ allS fitsF b = true ∧ sz a + sz b ≤ n), none, .bool (under n a b), []⟩)) (hW1 : PatOK Tryz.prog 61 (pff (.st .shape) (.st .shape) 62 fun u others => ⟨some (allL fitsF u.parts = true ∧ allL fitsF others.parts = true ∧ u.names.length = u.parts.length ∧ others.names.length = others.parts.length ∧ others.names.Nodup ∧ szL u.parts + szL others.parts ≤ n), none, .bool (withinL (fun p x => under n x p) others u.names u.parts), []⟩)) (hW2 : PatOK Tryz.prog 61 (pff (.st .shape) (.st .shape) 36 fun u others => ⟨some (allL fitsF u.parts = true ∧ allL fitsF others.parts = true ∧ u.names.length = u.parts.length ∧ others.names.length = others.parts.length ∧ others.names.Nodup ∧ szL u.parts + szL others.parts ≤ n), none, .bool (withinL (under n) others u.names u.parts), []⟩)) : Meets Tryz.prog 36 [.st .shape a, .st .shape b] [] (.ret (.bool (under (n + 1) a b))) :=
  fwp_sound (C := ⟨tbl, specL [(36, p2 (.st .shape) (.st .shape) fun a b => ⟨some (allS fitsF a = true ∧ allS fitsF b = true ∧ sz a + sz b ≤ n), none, .bool (under n a b), []⟩), (61, pff (.st .shape) (.st .shape) 62 fun u others => ⟨some (allL fitsF u.parts = true ∧ allL fitsF others.parts = true ∧ u.names.length = u.parts.length ∧ others.names.length = others.parts.length ∧ others.names.Nodup ∧ szL u.parts + szL others.parts ≤ n), none, .bool (withinL (fun p x => under n x p) others u.names u.parts), []⟩), (61, pff (.st .shape) (.st .shape) 36 fun u others => ⟨some (allL fitsF u.parts = true ∧ allL fitsF others.parts = true ∧ u.names.length = u.parts.length ∧ others.names.length = others.parts.length ∧ others.names.Nodup ∧ szL u.parts + szL others.parts ≤ n), none, .bool (withinL (under n) others u.names u.parts), []⟩)], fun _ => false, fun _ => []⟩) (ann := ⟨[(18, fun S0 => ⟨Nat, fun k => k ≤ a.parts.length - 1 ∧ a.parts.length = b.parts.length ∧ 0 < a.parts.length ∧ under (n + 1) a b = contraL (under n) ((a.parts.take (a.parts.length - 1)).drop k) ((b.parts.take (a.parts.length - 1)).drop k), fun k => [(77, .int .i64 k)], fun _ => [], fun k => a.parts.length - k⟩)], []⟩) mixed tblOK (specL_cons (hB) (specL_cons (hW1) (specL_cons (hW2) (specL_nil)))) Tryz.func36 (Eq.mpr (by kernel_rfl) (vc_below n a b ha hb ho))
theorem pat_below : ∀ n : Nat, PatOK Tryz.prog 36 (p2 (.st .shape) (.st .shape) fun a b => ⟨some (allS fitsF a = true ∧ allS fitsF b = true ∧ sz a + sz b ≤ n), none, .bool (under n a b), []⟩) := by
  intro n
  induction n with
  | zero => exact p2_ok en_below fun a b _ _ ho => absurd (ho _ rfl).2.2 (by have := sz_pos a; omega)
  | succ n ih =>
    have h1 : PatOK Tryz.prog 62 (p2 (.st .shape) (.st .shape) fun a b => ⟨some (allS fitsF a = true ∧ allS fitsF b = true ∧ sz a + sz b ≤ n), none, .bool (under n b a), []⟩) :=
      p2_ok en_belowr fun a b _ _ ho => meets_belowr n a b (ho _ rfl) ih
    exact p2_ok en_below fun a b ha hb ho => meets_below n a b ha hb (ho _ rfl) ih (pff_ok en_within1 fun u o hu _ ho => meets_within1 n u o hu (ho _ rfl) h1) (pff_ok en_within2 fun u o hu _ ho => meets_within2 n u o hu (ho _ rfl) ih)
theorem en_Below : Enters Tryz.prog 25 := Enters.mk' Tryz.func25 (by kernel_rfl)
theorem meets_Below (a b : Shape)   : Meets Tryz.prog 25 [.st .shape a, .st .shape b] [] (.ret (.bool (belowS a b))) :=
  fwp_sound (C := ⟨tbl, specL [(33, p1 (.st .shape) fun s => .ret (.int .i64 (checkS s))), (36, p2 (.st .shape) (.st .shape) fun a b => ⟨some (allS fitsF a = true ∧ allS fitsF b = true ∧ sz a + sz b ≤ 800), none, .bool (under 800 a b), []⟩)], fun _ => false, fun _ => []⟩) (ann := ⟨[], []⟩) mixed tblOK (specL_cons pat_Check (specL_cons (pat_below 800) (specL_nil))) Tryz.func25 (Eq.mpr (by kernel_rfl) (vc_Below a b))
theorem pat_Below : PatOK Tryz.prog 25 (p2 (.st .shape) (.st .shape) fun a b => .ret (.bool (belowS a b))) :=
  p2_ok en_Below fun a b _ _ _ => meets_Below a b
theorem en_dnamed : Enters Tryz.prog 12 := Enters.mk' Tryz.func12 (by kernel_rfl)
theorem meets_dnamed (l : List AL.Item) (hl : Wf (.lst (.st .item)) l)  : Meets Tryz.prog 12 [.lst (.st .item) l none] [] (⟨none, none, .map 8, [(8, .map .str (.int .i64) (namedGo l 0 []))]⟩) :=
  fwp_sound (C := ⟨tbl, specL [], fun _ => false, fun _ => []⟩) (ann := ⟨[(3, fun S0 => ⟨Nat × List (Str × Int), fun x => x.1 ≤ l.length ∧ namedGo (l.drop x.1) (x.1 : Int) x.2 = namedGo l 0 [], fun x => [(11, .int .i64 x.1)], fun x => [(8, .map .str (.int .i64) x.2)], fun x => l.length - x.1⟩)], []⟩) mixed tblOK (specL_nil) Tryz.func12 (Eq.mpr (by kernel_rfl) (vc_dnamed l hl))
theorem pat_dnamed : PatOK Tryz.prog 12 (p1 (.lst (.st .item)) fun l => ⟨none, none, .map 8, [(8, .map .str (.int .i64) (namedGo l 0 []))]⟩) :=
  p1_ok en_dnamed fun l hl _ => meets_dnamed l hl
theorem en_find : Enters Tryz.prog 15 := Enters.mk' Tryz.func15 (by kernel_rfl)
theorem meets_find (l : List AL.Item) (m : List (Str × Int)) (n : Str) (hl : Wf (.lst (.st .item)) l) (ho : ∀ i, mget m n = some i → 0 ≤ i ∧ i < l.length)  : Meets Tryz.prog 15 [.lst (.st .item) l none, .map 900, .str n] [(900, .map .str (.int .i64) m)] (⟨some (∀ i, mget m n = some i → 0 ≤ i ∧ i < l.length), none, .tup [.st .item (atI l (mget m n)), .bool (mget m n).isSome], [(900, .map .str (.int .i64) m)]⟩) :=
  fwp_sound (C := ⟨tbl, specL [], fun _ => false, fun _ => []⟩) (ann := ⟨[], []⟩) mixed tblOK (specL_nil) Tryz.func15 (Eq.mpr (by kernel_rfl) (vc_find l m n hl ho))
theorem pat_find : PatOK Tryz.prog 15 (patFind) :=
  patFind_ok en_find fun l m n hl ho => meets_find l m n hl ho
theorem en_kind : Enters Tryz.prog 16 := Enters.mk' Tryz.func16 (by kernel_rfl)
theorem meets_kind (a b : AL.Item)   : Meets Tryz.prog 16 [.st .item a, .st .item b] [] (.ret (.int .i64 (kindF a b))) :=
  fwp_sound (C := ⟨tbl, specL [(24, p2 (.st .shape) (.st .shape) fun a b => .ret (.bool (sameS a b))), (25, p2 (.st .shape) (.st .shape) fun a b => .ret (.bool (belowS a b)))], fun _ => false, fun _ => []⟩) (ann := ⟨[], []⟩) mixed tblOK (specL_cons pat_Same (specL_cons pat_Below (specL_nil))) Tryz.func16 (Eq.mpr (by kernel_rfl) (vc_kind a b))
theorem pat_kind : PatOK Tryz.prog 16 (p2 (.st .item) (.st .item) fun a b => .ret (.int .i64 (kindF a b))) :=
  p2_ok en_kind fun a b _ _ _ => meets_kind a b
theorem en_Keys : Enters Tryz.prog 14 := Enters.mk' Tryz.func14 (by kernel_rfl)
theorem meets_Keys (m : List (Str × Int))   : Meets Tryz.prog 14 [.map 900] [(900, .map .str (.int .i64) m)] (⟨none, none, .fn 23 [.ptr 1 0], [(1, .box (.map 900)), (900, .map .str (.int .i64) m)]⟩) :=
  fwp_sound (C := ⟨tbl, specL [], fun _ => false, fun _ => []⟩) (ann := ⟨[], []⟩) mixed tblOK (specL_nil) Tryz.func14 (Eq.mpr (by kernel_rfl) (vc_Keys m))
theorem pat_Keys : PatOK Tryz.prog 14 (patKeys 23) :=
  patKeys_ok en_Keys fun m => meets_Keys m
theorem en_Diff : Enters Tryz.prog 7 := Enters.mk' Tryz.func7 (by kernel_rfl)
theorem meets_Diff (old now : List AL.Item) (ho : Wf (.lst (.st .item)) old) (hn : Wf (.lst (.st .item)) now) (hb : old.length + now.length ≤ 1000000)  : Meets Tryz.prog 7 [.lst (.st .item) old none, .lst (.st .item) now none] [] (⟨some (old.length + now.length ≤ 1000000), none, .lst (.st .change) (diffF old now) none, []⟩) :=
  fwp_sound (C := ⟨tbl, specL [(12, p1 (.lst (.st .item)) fun l => ⟨none, none, .map 8, [(8, .map .str (.int .i64) (namedGo l 0 []))]⟩), (15, patFind), (16, p2 (.st .item) (.st .item) fun a b => .ret (.int .i64 (kindF a b))), (14, patKeys 23), (13, patSorted 102 23)], fun _ => false, fun _ => []⟩) (ann := ⟨[(13, fun S0 => ⟨Nat, fun k => k ≤ (namesU old now).length, fun k => [(10, .lst (.st .change) (diffGo old now ((namesU old now).take k)) (some 701)), (43, .int .i64 k)], fun k => [(701, .tail (.st .change) (diffGo old now ((namesU old now).take k)).length)], fun k => (namesU old now).length - k⟩)], []⟩) mixed tblOK (specL_cons pat_dnamed (specL_cons pat_find (specL_cons pat_kind (specL_cons pat_Keys (specL_cons (pat_Sorted) (specL_nil)))))) Tryz.func7 (Eq.mpr (by kernel_rfl) (vc_Diff old now ho hn hb))
theorem pat_Diff : PatOK Tryz.prog 7 (p2 (.lst (.st .item)) (.lst (.st .item)) fun old now => ⟨some (old.length + now.length ≤ 1000000), none, .lst (.st .change) (diffF old now) none, []⟩) :=
  p2_ok en_Diff fun a b ha hb ho => meets_Diff a b ha hb (ho _ rfl)
theorem en_Show : Enters Tryz.prog 10 := Enters.mk' Tryz.func10 (by kernel_rfl)
theorem meets_Show (l : List Change) (hl : Wf (.lst (.st .change)) l) (hb : showN l ≤ 1000000)  : Meets Tryz.prog 10 [.lst (.st .change) l none] [] (⟨some (showN l ≤ 1000000), none, .str (showF l), []⟩) :=
  fwp_sound (C := ⟨tbl, specL [(19, patWrite 54 5), (20, patString 54 5)], fun _ => false, fun _ => []⟩) (ann := ⟨[(3, fun S0 => ⟨Nat × Str, fun x => x.1 ≤ l.length ∧ showGo (l.drop x.1) x.2 = showF l ∧ x.2.length + showN (l.drop x.1) ≤ 1000000, fun x => [(9, .int .i64 x.1)], fun x => [(3, .bld 54 5 x.2)], fun x => l.length - x.1⟩)], []⟩) mixed tblOK (specL_cons (pat_Write) (specL_cons (pat_String) (specL_nil))) Tryz.func10 (Eq.mpr (by kernel_rfl) (vc_Show l hl hb))
theorem pat_Show : PatOK Tryz.prog 10 (p1 (.lst (.st .change)) fun l => ⟨some (showN l ≤ 1000000), none, .str (showF l), []⟩) :=
  p1_ok en_Show fun l hl ho => meets_Show l hl (ho _ rfl)
theorem en_awake : Enters Tryz.prog 5 := Enters.mk' Tryz.func5 (by kernel_rfl)
theorem meets_awake    : Meets Tryz.prog 5 [] [] (.ret (.bool true)) :=
  fwp_sound (C := ⟨tbl, specL [(7, p2 (.lst (.st .item)) (.lst (.st .item)) fun old now => ⟨some (old.length + now.length ≤ 1000000), none, .lst (.st .change) (diffF old now) none, []⟩), (10, p1 (.lst (.st .change)) fun l => ⟨some (showN l ≤ 1000000), none, .str (showF l), []⟩), (11, p1 (.lst (.st .change)) fun l => .ret (.int .i64 (classF l)))], fun _ => false, fun _ => []⟩) (ann := ⟨[], []⟩) mixed tblOK (specL_cons pat_Diff (specL_cons pat_Show (specL_cons pat_Class (specL_nil)))) Tryz.func5 (Eq.mpr (by kernel_rfl) (vc_awake ))
theorem pat_awake : PatOK Tryz.prog 5 (p0 (.ret (.bool true))) :=
  p0_ok en_awake meets_awake
theorem en_Size : Enters Tryz.prog 9 := Enters.mk' Tryz.func9 (by kernel_rfl)
theorem meets_Size (n : Nat) (s : AL.Shape) (m : Int) (hs : Wf (.st .shape) s) (ho : sz s ≤ n + 1 ∧ 0 ≤ m ∧ m ≤ 1000000) (hA : PatOK Tryz.prog 9 (p2 (.st .shape) (.int .i64) fun s m => ⟨some (sz s ≤ n ∧ 0 ≤ m ∧ m ≤ 1000000), none, .int .i64 (sizeF s m), []⟩)) : Meets Tryz.prog 9 [.st .shape s, .int .i64 m] [] (.ret (.int .i64 (sizeF s m))) :=
  fwp_sound (C := ⟨tbl, specL [(9, p2 (.st .shape) (.int .i64) fun s m => ⟨some (sz s ≤ n ∧ 0 ≤ m ∧ m ≤ 1000000), none, .int .i64 (sizeF s m), []⟩)], fun _ => false, fun _ => []⟩) (ann := ⟨[(3, fun S0 => ⟨Nat × Int, fun x => x.1 ≤ s.parts.length ∧ 1 ≤ x.2 ∧ x.2 ≤ m + 1 ∧ sizeL (s.parts.drop x.1) x.2 m = sizeF s m, fun x => [(5, .int .i64 x.2), (6, .int .i64 x.1)], fun _ => [], fun x => s.parts.length - x.1⟩)], []⟩) mixed tblOK (specL_cons (hA) (specL_nil)) Tryz.func9 (Eq.mpr (by kernel_rfl) (vc_Size n s m hs ho))
theorem pat_Size : ∀ n : Nat, PatOK Tryz.prog 9 (p2 (.st .shape) (.int .i64) fun s m => ⟨some (sz s ≤ n ∧ 0 ≤ m ∧ m ≤ 1000000), none, .int .i64 (sizeF s m), []⟩) := by
  intro n
  induction n with
  | zero => exact p2_ok en_Size fun a m _ _ ho => absurd (ho _ rfl).1 (by have := sz_pos a; omega)
  | succ n ih => exact p2_ok en_Size fun a m ha _ ho => meets_Size n a m ha (ho _ rfl) ih
theorem en_small17 : Enters Tryz.prog 4 := Enters.mk' Tryz.func4 (by kernel_rfl)
theorem meets_small17 (l : List AL.Item) (N : Nat) (hl : Wf (.lst (.st .item)) l) (hN : ∀ x ∈ l, sz x.shape ≤ N)  : Meets Tryz.prog 4 [.lst (.st .item) l none] [] (.ret (.bool (smallF l))) :=
  fwp_sound (C := ⟨tbl, specL [(9, p2 (.st .shape) (.int .i64) fun s m => ⟨some (sz s ≤ N ∧ 0 ≤ m ∧ m ≤ 1000000), none, .int .i64 (sizeF s m), []⟩)], fun _ => false, fun _ => []⟩) (ann := ⟨[(3, fun S0 => ⟨Nat × Int, fun x => x.1 ≤ l.length ∧ 0 ≤ x.2 ∧ x.2 ≤ 6000 ∧ smallGo (l.drop x.1) x.2 = smallF l, fun x => [(3, .int .i64 x.2), (4, .int .i64 x.1)], fun _ => [], fun x => l.length - x.1⟩)], []⟩) mixed tblOK (specL_cons (pat_Size N) (specL_nil)) Tryz.func4 (Eq.mpr (by kernel_rfl) (vc_small17 l N hl hN))
theorem pat_small17 : PatOK Tryz.prog 4 (p1 (.lst (.st .item)) fun l => .ret (.bool (smallF l))) :=
  p1_ok en_small17 fun l hl _ => meets_small17 l (szI l) hl (szI_le l)
theorem en_rsmall : Enters Tryz.prog 107 := Enters.mk' Tryz.func107 (by kernel_rfl)
theorem meets_rsmall (c : Int)   : Meets Tryz.prog 107 [.int .u8 c] [] (.ret (.bool (smallI c))) :=
  fwp_sound (C := ⟨tbl, specL [], fun _ => false, fun _ => []⟩) (ann := ⟨[], []⟩) mixed tblOK (specL_nil) Tryz.func107 (Eq.mpr (by kernel_rfl) (vc_rsmall c))
theorem pat_rsmall : PatOK Tryz.prog 107 (p1 (.int .u8) fun c => .ret (.bool (smallI c))) :=
  p1_ok en_rsmall fun c _ _ => meets_rsmall c
theorem en_rgreat : Enters Tryz.prog 110 := Enters.mk' Tryz.func110 (by kernel_rfl)
theorem meets_rgreat (c : Int)   : Meets Tryz.prog 110 [.int .u8 c] [] (.ret (.bool (greatI c))) :=
  fwp_sound (C := ⟨tbl, specL [], fun _ => false, fun _ => []⟩) (ann := ⟨[], []⟩) mixed tblOK (specL_nil) Tryz.func110 (Eq.mpr (by kernel_rfl) (vc_rgreat c))
theorem pat_rgreat : PatOK Tryz.prog 110 (p1 (.int .u8) fun c => .ret (.bool (greatI c))) :=
  p1_ok en_rgreat fun c _ _ => meets_rgreat c
theorem en_rdigit : Enters Tryz.prog 113 := Enters.mk' Tryz.func113 (by kernel_rfl)
theorem meets_rdigit (c : Int)   : Meets Tryz.prog 113 [.int .u8 c] [] (.ret (.bool (digitI c))) :=
  fwp_sound (C := ⟨tbl, specL [], fun _ => false, fun _ => []⟩) (ann := ⟨[], []⟩) mixed tblOK (specL_nil) Tryz.func113 (Eq.mpr (by kernel_rfl) (vc_rdigit c))
theorem pat_rdigit : PatOK Tryz.prog 113 (p1 (.int .u8) fun c => .ret (.bool (digitI c))) :=
  p1_ok en_rdigit fun c _ _ => meets_rdigit c
theorem en_rrest : Enters Tryz.prog 108 := Enters.mk' Tryz.func108 (by kernel_rfl)
theorem meets_rrest (s : Str) (hs : Wf .str s)  : Meets Tryz.prog 108 [.str s] [] (.ret (.int .i64 (restN s : Int))) :=
  fwp_sound (C := ⟨tbl, specL [(107, p1 (.int .u8) fun c => .ret (.bool (smallI c))), (110, p1 (.int .u8) fun c => .ret (.bool (greatI c))), (113, p1 (.int .u8) fun c => .ret (.bool (digitI c)))], fun _ => false, fun _ => []⟩) (ann := ⟨[(2, fun S0 => ⟨Nat, fun k => k ≤ s.length ∧ restN s = k + restN (s.drop k), fun k => [(3, .int .i64 k)], fun _ => [], fun k => s.length - k⟩)], []⟩) mixed tblOK (specL_cons pat_rsmall (specL_cons pat_rgreat (specL_cons pat_rdigit (specL_nil)))) Tryz.func108 (Eq.mpr (by kernel_rfl) (vc_rrest s hs))
theorem pat_rrest : PatOK Tryz.prog 108 (p1 .str fun s => .ret (.int .i64 (restN s : Int))) :=
  p1_ok en_rrest fun s hs _ => meets_rrest s hs
theorem en_among : Enters Tryz.prog 114 := Enters.mk' Tryz.func114 (by kernel_rfl)
theorem meets_among (s : Str) (l : List Str) (hl : Wf (.lst .str) l)  : Meets Tryz.prog 114 [.str s, .lst .str l none] [] (.ret (.bool (decide (s ∈ l)))) :=
  fwp_sound (C := ⟨tbl, specL [], fun _ => false, fun _ => []⟩) (ann := ⟨[(2, fun S0 => ⟨Nat, fun k => k ≤ l.length ∧ decide (s ∈ l) = decide (s ∈ l.drop k), fun k => [(5, .int .i64 k)], fun _ => [], fun k => l.length - k⟩)], []⟩) mixed tblOK (specL_nil) Tryz.func114 (Eq.mpr (by kernel_rfl) (vc_among s l hl))
theorem pat_among : PatOK Tryz.prog 114 (p2 .str (.lst .str) fun s l => .ret (.bool (decide (s ∈ l)))) :=
  p2_ok en_among fun s l _ hl _ => meets_among s l hl
theorem en_rWord : Enters Tryz.prog 109 := Enters.mk' Tryz.func109 (by kernel_rfl)
theorem meets_rWord (s : Str)   : Meets Tryz.prog 109 [.str s] [] (.ret (.bool (wordF s))) :=
  fwp_sound (C := ⟨tbl, specL [(114, p2 .str (.lst .str) fun s l => .ret (.bool (decide (s ∈ l))))], fun _ => false, fun _ => []⟩) (ann := ⟨[], []⟩) mixed tblOK (specL_cons pat_among (specL_nil)) Tryz.func109 (Eq.mpr (by kernel_rfl) (vc_rWord s))
theorem pat_rWord : PatOK Tryz.prog 109 (p1 .str fun s => .ret (.bool (wordF s))) :=
  p1_ok en_rWord fun s _ _ => meets_rWord s
theorem en_rName : Enters Tryz.prog 99 := Enters.mk' Tryz.func99 (by kernel_rfl)
theorem meets_rName (s : Str)   : Meets Tryz.prog 99 [.str s] [] (.ret (.bool (nameF s))) :=
  fwp_sound (C := ⟨tbl, specL [(107, p1 (.int .u8) fun c => .ret (.bool (smallI c))), (108, p1 .str fun s => .ret (.int .i64 (restN s : Int))), (109, p1 .str fun s => .ret (.bool (wordF s)))], fun _ => false, fun _ => []⟩) (ann := ⟨[], []⟩) mixed tblOK (specL_cons pat_rsmall (specL_cons pat_rrest (specL_cons pat_rWord (specL_nil)))) Tryz.func99 (Eq.mpr (by kernel_rfl) (vc_rName s))
theorem pat_rName : PatOK Tryz.prog 99 (p1 .str fun s => .ret (.bool (nameF s))) :=
  p1_ok en_rName fun s _ _ => meets_rName s
theorem en_rUpper : Enters Tryz.prog 100 := Enters.mk' Tryz.func100 (by kernel_rfl)
theorem meets_rUpper (s : Str)   : Meets Tryz.prog 100 [.str s] [] (.ret (.bool (upperF s))) :=
  fwp_sound (C := ⟨tbl, specL [(110, p1 (.int .u8) fun c => .ret (.bool (greatI c))), (108, p1 .str fun s => .ret (.int .i64 (restN s : Int)))], fun _ => false, fun _ => []⟩) (ann := ⟨[], []⟩) mixed tblOK (specL_cons pat_rgreat (specL_cons pat_rrest (specL_nil))) Tryz.func100 (Eq.mpr (by kernel_rfl) (vc_rUpper s))
theorem pat_rUpper : PatOK Tryz.prog 100 (p1 .str fun s => .ret (.bool (upperF s))) :=
  p1_ok en_rUpper fun s _ _ => meets_rUpper s
theorem en_rnames : Enters Tryz.prog 101 := Enters.mk' Tryz.func101 (by kernel_rfl)
theorem meets_rnames (ns : List Str) (n : Int) (hl : Wf (.lst .str) ns)  : Meets Tryz.prog 101 [.lst .str ns none, .int .i64 n] [] (.ret (.bool (namesOK ns n))) :=
  fwp_sound (C := ⟨tbl, specL [(99, p1 .str fun s => .ret (.bool (nameF s)))], fun _ => false, fun _ => []⟩) (ann := ⟨[(2, fun S0 => ⟨Nat, fun k => k ≤ ns.length ∧ (ns.take k).all nameF = true ∧ (ns.take k).Nodup, fun k => [(5, .int .i64 k)], fun _ => [], fun k => ns.length - k⟩), (7, fun S0 => withI S0 5 fun k0 => ⟨Nat, fun j => (j : Int) ≤ k0 ∧ (ns.getD k0.toNat (dfl .str)) ∉ ns.take j, fun j => [(6, .int .i64 j)], fun _ => [], fun j => k0.toNat - j⟩)], []⟩) mixed tblOK (specL_cons pat_rName (specL_nil)) Tryz.func101 (Eq.mpr (by kernel_rfl) (vc_rnames ns n hl))
theorem pat_rnames : PatOK Tryz.prog 101 (p2 (.lst .str) (.int .i64) fun ns n => .ret (.bool (namesOK ns n))) :=
  p2_ok en_rnames fun ns n hl _ _ => meets_rnames ns n hl
theorem en_rfits : Enters Tryz.prog 82 := Enters.mk' Tryz.func82 (by kernel_rfl)
theorem meets_rfits (s : AL.Shape) (hs : Wf (.st .shape) s)  : Meets Tryz.prog 82 [.st .shape s] [] (.ret (.bool (fitsF s))) :=
  fwp_sound (C := ⟨tbl, specL [(101, p2 (.lst .str) (.int .i64) fun ns n => .ret (.bool (namesOK ns n))), (100, p1 .str fun s => .ret (.bool (upperF s))), (99, p1 .str fun s => .ret (.bool (nameF s)))], fun _ => false, fun _ => []⟩) (ann := ⟨[], []⟩) mixed tblOK (specL_cons pat_rnames (specL_cons pat_rUpper (specL_cons pat_rName (specL_nil)))) Tryz.func82 (Eq.mpr (by kernel_rfl) (vc_rfits s hs))
theorem pat_rfits : PatOK Tryz.prog 82 (p1 (.st .shape) fun s => .ret (.bool (fitsF s))) :=
  p1_ok en_rfits fun s hs _ => meets_rfits s hs
theorem en_right : Enters Tryz.prog 64 := Enters.mk' Tryz.func64 (by kernel_rfl)
theorem meets_right (n : Nat) (s : AL.Shape) (hs : Wf (.st .shape) s) (hn : sz s ≤ n + 1) (hA : PatOK Tryz.prog 64 (p1 (.st .shape) fun s => ⟨some (sz s ≤ n), none, .bool (allS fitsF s), []⟩)) : Meets Tryz.prog 64 [.st .shape s] [] (.ret (.bool (allS fitsF s))) :=
  fwp_sound (C := ⟨tbl, specL [(82, p1 (.st .shape) fun s => .ret (.bool (fitsF s))), (64, p1 (.st .shape) fun s => ⟨some (sz s ≤ n), none, .bool (allS fitsF s), []⟩)], fun _ => false, fun _ => []⟩) (ann := ⟨[(4, fun S0 => ⟨Nat, fun k => k ≤ s.parts.length ∧ allS fitsF s = allL fitsF (s.parts.drop k), fun k => [(3, .int .i64 k)], fun _ => [], fun k => s.parts.length - k⟩)], []⟩) mixed tblOK (specL_cons pat_rfits (specL_cons (hA) (specL_nil))) Tryz.func64 (Eq.mpr (by kernel_rfl) (vc_right n s hs hn))
theorem pat_right : ∀ n : Nat, PatOK Tryz.prog 64 (p1 (.st .shape) fun s => ⟨some (sz s ≤ n), none, .bool (allS fitsF s), []⟩) := by
  intro n
  induction n with
  | zero => exact p1_ok en_right fun a _ ho => absurd (ho _ rfl) (by have := sz_pos a; omega)
  | succ n ih => exact p1_ok en_right fun a hs ho => meets_right n a hs (ho _ rfl) ih
theorem en_Deep : Enters Tryz.prog 63 := Enters.mk' Tryz.func63 (by kernel_rfl)
theorem meets_Deep (n : Nat) (s : AL.Shape) (hs : Wf (.st .shape) s) (hn : sz s ≤ n + 1) (hb : n ≤ 1000000) (hA : PatOK Tryz.prog 63 (p1 (.st .shape) fun s => ⟨some (sz s ≤ n), none, .int .i64 (deepF s : Int), []⟩)) : Meets Tryz.prog 63 [.st .shape s] [] (.ret (.int .i64 (deepF s : Int))) :=
  fwp_sound (C := ⟨tbl, specL [(63, p1 (.st .shape) fun s => ⟨some (sz s ≤ n), none, .int .i64 (deepF s : Int), []⟩)], fun _ => false, fun _ => []⟩) (ann := ⟨[(3, fun S0 => ⟨Nat × Int, fun x => x.1 ≤ s.parts.length ∧ 0 ≤ x.2 ∧ max x.2 (maxDeep (s.parts.drop x.1) : Int) = maxDeep s.parts, fun x => [(3, .int .i64 x.2), (4, .int .i64 x.1)], fun _ => [], fun x => s.parts.length - x.1⟩)], []⟩) mixed tblOK (specL_cons (hA) (specL_nil)) Tryz.func63 (Eq.mpr (by kernel_rfl) (vc_Deep n s hs hn hb))
theorem pat_Deep : ∀ n : Nat, n ≤ 1000000 → PatOK Tryz.prog 63 (p1 (.st .shape) fun s => ⟨some (sz s ≤ n), none, .int .i64 (deepF s : Int), []⟩) := by
  intro n
  induction n with
  | zero => exact fun _ => p1_ok en_Deep fun a _ ho => absurd (ho _ rfl) (by have := sz_pos a; omega)
  | succ n ih => exact fun hb => p1_ok en_Deep fun a hs ho => meets_Deep n a hs (ho _ rfl) (by omega) (ih (by omega))
theorem en_rCheck : Enters Tryz.prog 37 := Enters.mk' Tryz.func37 (by kernel_rfl)
theorem meets_rCheck (s : AL.Shape) (hs : Wf (.st .shape) s)  : Meets Tryz.prog 37 [.st .shape s] [] (.ret (.int .i64 (checkS s))) :=
  fwp_sound (C := ⟨tbl, specL [(9, p2 (.st .shape) (.int .i64) fun x m => ⟨some (sz x ≤ sz s ∧ 0 ≤ m ∧ m ≤ 1000000), none, .int .i64 (sizeF x m), []⟩), (63, p1 (.st .shape) fun s => ⟨some (sz s ≤ 400), none, .int .i64 (deepF s : Int), []⟩), (64, p1 (.st .shape) fun s => ⟨some (sz s ≤ 400), none, .bool (allS fitsF s), []⟩)], fun _ => false, fun _ => []⟩) (ann := ⟨[], []⟩) mixed tblOK (specL_cons (pat_Size (sz s)) (specL_cons (pat_Deep 400 (by decide)) (specL_cons (pat_right 400) (specL_nil)))) Tryz.func37 (Eq.mpr (by kernel_rfl) (vc_rCheck s hs))
theorem pat_rCheck : PatOK Tryz.prog 37 (p1 (.st .shape) fun s => .ret (.int .i64 (checkS s))) :=
  p1_ok en_rCheck fun s hs _ => meets_rCheck s hs
theorem en_rEqual : Enters Tryz.prog 38 := Enters.mk' Tryz.func38 (by kernel_rfl)
theorem meets_rEqual (n : Nat) (a b : Shape) (ha : Wf (.st .shape) a) (hb : Wf (.st .shape) b) (hn : sz a ≤ n + 1) (hA : PatOK Tryz.prog 38 (p2 (.st .shape) (.st .shape) fun a b => ⟨some (sz a ≤ n), none, .bool (eqS a b), []⟩)) : Meets Tryz.prog 38 [.st .shape a, .st .shape b] [] (.ret (.bool (eqS a b))) :=
  fwp_sound (C := ⟨tbl, specL [(38, p2 (.st .shape) (.st .shape) fun a b => ⟨some (sz a ≤ n), none, .bool (eqS a b), []⟩)], fun _ => false, fun _ => []⟩) (ann := ⟨[(4, fun S0 => ⟨Nat, fun k => k ≤ a.names.length ∧ a.names.length = b.names.length ∧ a.parts.length = b.parts.length ∧ eqS a b = (decide (a.names.drop k = b.names.drop k) && eqL a.parts b.parts), fun k => [(5, .int .i64 k)], fun _ => [], fun k => a.names.length - k⟩), (9, fun S0 => ⟨Nat, fun k => k ≤ a.parts.length ∧ a.parts.length = b.parts.length ∧ eqS a b = eqL (a.parts.drop k) (b.parts.drop k), fun k => [(6, .int .i64 k)], fun _ => [], fun k => a.parts.length - k⟩)], []⟩) mixed tblOK (specL_cons (hA) (specL_nil)) Tryz.func38 (Eq.mpr (by kernel_rfl) (vc_rEqual n a b ha hb hn))
theorem pat_rEqual : ∀ n : Nat, PatOK Tryz.prog 38 (p2 (.st .shape) (.st .shape) fun a b => ⟨some (sz a ≤ n), none, .bool (eqS a b), []⟩) := by
  intro n
  induction n with
  | zero => exact p2_ok en_rEqual fun a b _ _ ho => absurd (ho _ rfl) (by have := sz_pos a; omega)
  | succ n ih => exact p2_ok en_rEqual fun a b ha hb ho => meets_rEqual n a b ha hb (ho _ rfl) ih
theorem en_Find : Enters Tryz.prog 26 := Enters.mk' Tryz.func26 (by kernel_rfl)
theorem meets_Find (l : List AL.Item) (n : Str) (hl : Wf (.lst (.st .item)) l)  : Meets Tryz.prog 26 [.lst (.st .item) l none, .str n] [] (.ret (.tup [.st .item ((itemOf l n).getD dflI), .bool (itemOf l n).isSome])) :=
  fwp_sound (C := ⟨tbl, specL [], fun _ => false, fun _ => []⟩) (ann := ⟨[(2, fun S0 => ⟨Nat, fun k => k ≤ l.length ∧ itemOf l n = itemOf (l.drop k) n, fun k => [(6, .int .i64 k)], fun _ => [], fun k => l.length - k⟩)], []⟩) mixed tblOK (specL_nil) Tryz.func26 (Eq.mpr (by kernel_rfl) (vc_Find l n hl))
theorem pat_Find : PatOK Tryz.prog 26 (p2 (.lst (.st .item)) .str fun l n => .ret (.tup [.st .item ((itemOf l n).getD dflI), .bool (itemOf l n).isSome])) :=
  p2_ok en_Find fun l n hl _ _ => meets_Find l n hl
theorem en_part : Enters Tryz.prog 65 := Enters.mk' Tryz.func65 (by kernel_rfl)
theorem meets_part (s : AL.Shape) (n : Str) (hs : Wf (.st .shape) s) (ho : s.names.length = s.parts.length)  : Meets Tryz.prog 65 [.st .shape s, .str n] [] (.ret (.tup [.st .shape ((partOf s n).getD dflS), .bool (partOf s n).isSome])) :=
  fwp_sound (C := ⟨tbl, specL [], fun _ => false, fun _ => []⟩) (ann := ⟨[(2, fun S0 => ⟨Nat, fun k => k ≤ s.names.length ∧ partOf s n = partGo (s.names.drop k) (s.parts.drop k) n, fun k => [(6, .int .i64 k)], fun _ => [], fun k => s.names.length - k⟩)], []⟩) mixed tblOK (specL_nil) Tryz.func65 (Eq.mpr (by kernel_rfl) (vc_part s n hs ho))
theorem pat_part : PatOK Tryz.prog 65 (p2 (.st .shape) .str fun s n => ⟨some (s.names.length = s.parts.length), none, .tup [.st .shape ((partOf s n).getD dflS), .bool (partOf s n).isSome], []⟩) :=
  p2_ok en_part fun s n hs _ ho => meets_part s n hs (ho _ rfl)
theorem en_cSame : Enters Tryz.prog 6 := Enters.mk' Tryz.func6 (by kernel_rfl)
theorem meets_cSame (a b : List Change) (ha : Wf (.lst (.st .change)) a) (hb : Wf (.lst (.st .change)) b)  : Meets Tryz.prog 6 [.lst (.st .change) a none, .lst (.st .change) b none] [] (.ret (.bool (eqC a b))) :=
  fwp_sound (C := ⟨tbl, specL [], fun _ => false, fun _ => []⟩) (ann := ⟨[(4, fun S0 => ⟨Nat, fun k => k ≤ a.length ∧ a.length = b.length ∧ eqC a b = eqC (a.drop k) (b.drop k), fun k => [(5, .int .i64 k)], fun _ => [], fun k => a.length - k⟩)], []⟩) mixed tblOK (specL_nil) Tryz.func6 (Eq.mpr (by kernel_rfl) (vc_cSame a b ha hb))
theorem pat_cSame : PatOK Tryz.prog 6 (p2 (.lst (.st .change)) (.lst (.st .change)) fun a b => .ret (.bool (eqC a b))) :=
  p2_ok en_cSame fun a b ha hb _ => meets_cSame a b ha hb
theorem en_cnames : Enters Tryz.prog 17 := Enters.mk' Tryz.func17 (by kernel_rfl)
theorem meets_cnames (l : List AL.Item) (hl : Wf (.lst (.st .item)) l) (hb : l.length ≤ 1000000)  : Meets Tryz.prog 17 [.lst (.st .item) l none] [] (.ret (.lst .str (sortS (uniq (l.map (·.name)))) none)) :=
  fwp_sound (C := ⟨tbl, specL [], fun _ => false, fun _ => []⟩) (ann := ⟨[(3, fun S0 => ⟨Nat, fun k => k ≤ l.length, fun k => [(3, .lst .str (insAll (l.take k)) none), (4, .int .i64 k)], fun _ => [], fun k => l.length - k⟩), (6, fun S0 => withI S0 4 fun k0 => ⟨Nat, fun j => j ≤ (insAll (l.take k0.toNat)).length ∧ placeOf (insAll (l.take k0.toNat)) (l.getD k0.toNat (dfl (.st .item))).name = j + placeOf ((insAll (l.take k0.toNat)).drop j) (l.getD k0.toNat (dfl (.st .item))).name, fun j => [(5, .int .i64 j)], fun _ => [], fun j => (insAll (l.take k0.toNat)).length - j⟩)], []⟩) mixed tblOK (specL_nil) Tryz.func17 (Eq.mpr (by kernel_rfl) (vc_cnames l hl hb))
theorem pat_cnames : PatOK Tryz.prog 17 (p1 (.lst (.st .item)) fun l => ⟨some (l.length ≤ 1000000), none, .lst .str (sortS (uniq (l.map (·.name)))) none, []⟩) :=
  p1_ok en_cnames fun l hl ho => meets_cnames l hl (ho _ rfl)
theorem en_rsortedN : Enters Tryz.prog 39 := Enters.mk' Tryz.func39 (by kernel_rfl)
theorem meets_rsortedN (n : Nat) (s : AL.Shape) (hs : Wf (.st .shape) s) (hn : sz s ≤ n + 1) (ho : allS orderly s = true) (hb : n ≤ 1000000) (h0 : s.names = []) (hA : PatOK Tryz.prog 39 (p1 (.st .shape) fun s => ⟨some (sz s ≤ n ∧ allS orderly s = true), none, .st .shape (sortedS s), []⟩)) : Meets Tryz.prog 39 [.st .shape s] [] (.ret (.st .shape (sortedS s))) :=
  fwp_sound (C := ⟨tbl, specL [(39, p1 (.st .shape) fun s => ⟨some (sz s ≤ n ∧ allS orderly s = true), none, .st .shape (sortedS s), []⟩)], fun _ => false, fun _ => []⟩) (ann := ⟨[(3, fun S0 => ⟨Nat, fun k => k ≤ s.parts.length, fun k => [(4, .int .i64 k)], fun k => [(3, .box (.agg [.int .i64 s.kind, .str s.pkg, .str s.name, .nils, .lst (.st .shape) ((s.parts.take k).map sortedS) (some 702)])), (702, .tail (.st .shape) k)], fun k => s.parts.length - k⟩), (9, fun S0 => ⟨Nat, fun j => False, fun j => [], fun j => [], fun j => j⟩)], []⟩) mixed tblOK (specL_cons (hA) (specL_nil)) Tryz.func39 (Eq.mpr (by kernel_rfl) (vc_rsortedN n s hs hn ho hb h0))
theorem en_rsortedS : Enters Tryz.prog 39 := Enters.mk' Tryz.func39 (by kernel_rfl)
theorem meets_rsortedS (n : Nat) (s : AL.Shape) (hs : Wf (.st .shape) s) (hn : sz s ≤ n + 1) (ho : allS orderly s = true) (hb : n ≤ 1000000) (h0 : s.names ≠ []) (hA : PatOK Tryz.prog 39 (p1 (.st .shape) fun s => ⟨some (sz s ≤ n ∧ allS orderly s = true), none, .st .shape (sortedS s), []⟩)) : Meets Tryz.prog 39 [.st .shape s] [] (.ret (.st .shape (sortedS s))) :=
  fwp_sound (C := ⟨tbl, specL [(39, p1 (.st .shape) fun s => ⟨some (sz s ≤ n ∧ allS orderly s = true), none, .st .shape (sortedS s), []⟩)], fun _ => false, fun _ => []⟩) (ann := ⟨[(3, fun S0 => ⟨Nat, fun k => k ≤ s.parts.length, fun k => [(4, .int .i64 k)], fun k => [(3, .box (.agg [.int .i64 s.kind, .str s.pkg, .str s.name, .lst .str (insN s k).1 none, .lst (.st .shape) (insN s k).2 none]))], fun k => s.parts.length - k⟩), (9, fun S0 => withI S0 4 fun k0 => ⟨Nat, fun j => j ≤ (insN s k0.toNat).1.length ∧ placeOf (insN s k0.toNat).1 (s.names.getD k0.toNat (dfl .str)) = j + placeOf ((insN s k0.toNat).1.drop j) (s.names.getD k0.toNat (dfl .str)), fun j => [(6, .int .i64 j)], fun j => [], fun j => (insN s k0.toNat).1.length - j⟩)], []⟩) mixed tblOK (specL_cons (hA) (specL_nil)) Tryz.func39 (Eq.mpr (by kernel_rfl) (vc_rsortedS n s hs hn ho hb h0))
theorem pat_rsorted : ∀ n : Nat, n ≤ 1000000 → PatOK Tryz.prog 39 (p1 (.st .shape) fun s => ⟨some (sz s ≤ n ∧ allS orderly s = true), none, .st .shape (sortedS s), []⟩) := by
  intro n
  induction n with
  | zero => exact fun _ => p1_ok en_rsortedS fun a hs ho => absurd (ho _ rfl).1 (by have := sz_pos a; omega)
  | succ n ih => exact fun hb => p1_ok en_rsortedS fun a hs ho => (Classical.em (a.names = [])).elim (fun h => meets_rsortedN n a hs (ho _ rfl).1 (ho _ rfl).2 (by omega) h (ih (by omega))) (fun h => meets_rsortedS n a hs (ho _ rfl).1 (ho _ rfl).2 (by omega) h (ih (by omega)))
theorem en_rSame : Enters Tryz.prog 27 := Enters.mk' Tryz.func27 (by kernel_rfl)
theorem meets_rSame (a b : Shape)   : Meets Tryz.prog 27 [.st .shape a, .st .shape b] [] (.ret (.bool (sameS a b))) :=
  fwp_sound (C := ⟨tbl, specL [(37, p1 (.st .shape) fun s => .ret (.int .i64 (checkS s))), (39, p1 (.st .shape) fun s => ⟨some (sz s ≤ 400 ∧ allS orderly s = true), none, .st .shape (sortedS s), []⟩), (38, p2 (.st .shape) (.st .shape) fun a b => ⟨some (sz a ≤ 400), none, .bool (eqS a b), []⟩)], fun _ => false, fun _ => []⟩) (ann := ⟨[], []⟩) mixed tblOK (specL_cons pat_rCheck (specL_cons (pat_rsorted 400 (by decide)) (specL_cons (pat_rEqual 400) (specL_nil)))) Tryz.func27 (Eq.mpr (by kernel_rfl) (vc_rSame a b))
theorem pat_rSame : PatOK Tryz.prog 27 (p2 (.st .shape) (.st .shape) fun a b => .ret (.bool (sameS a b))) :=
  p2_ok en_rSame fun a b _ _ _ => meets_rSame a b
theorem en_Under : Enters Tryz.prog 40 := Enters.mk' Tryz.func40 (by kernel_rfl)
theorem meets_Under (n : Nat) (a b : Shape) (ha : Wf (.st .shape) a) (hb : Wf (.st .shape) b) (ho : (allS fitsF a = true ∧ allS fitsF b = true ∧ sz a + sz b ≤ n + 1)) (hU : PatOK Tryz.prog 40 (p2 (.st .shape) (.st .shape) fun a b => ⟨some (allS fitsF a = true ∧ allS fitsF b = true ∧ sz a + sz b ≤ n), none, .bool (under n a b), []⟩)) : Meets Tryz.prog 40 [.st .shape a, .st .shape b] [] (.ret (.bool (under (n + 1) a b))) :=
  fwp_sound (C := ⟨tbl, specL [(65, p2 (.st .shape) .str fun s n => ⟨some (s.names.length = s.parts.length), none, .tup [.st .shape ((partOf s n).getD dflS), .bool (partOf s n).isSome], []⟩), (40, p2 (.st .shape) (.st .shape) fun a b => ⟨some (allS fitsF a = true ∧ allS fitsF b = true ∧ sz a + sz b ≤ n), none, .bool (under n a b), []⟩)], fun _ => false, fun _ => []⟩) (ann := ⟨[(5, fun S0 => ⟨Nat, fun k => k ≤ b.names.length ∧ under (n + 1) a b = withinL (fun p x => under n x p) a (b.names.drop k) (b.parts.drop k), fun k => [(5, .int .i64 k)], fun _ => [], fun k => b.names.length - k⟩), (13, fun S0 => ⟨Nat, fun k => k ≤ a.names.length ∧ under (n + 1) a b = withinL (under n) b (a.names.drop k) (a.parts.drop k), fun k => [(8, .int .i64 k)], fun _ => [], fun k => a.names.length - k⟩), (22, fun S0 => ⟨Nat, fun k => k ≤ a.parts.length ∧ a.parts.length = b.parts.length ∧ under (n + 1) a b = funL (under n) (a.parts.drop k) (b.parts.drop k), fun k => [(11, .int .i64 k)], fun _ => [], fun k => a.parts.length - k⟩)], []⟩) mixed tblOK (specL_cons pat_part (specL_cons (hU) (specL_nil))) Tryz.func40 (Eq.mpr (by kernel_rfl) (vc_Under n a b ha hb ho))
theorem pat_Under : ∀ n : Nat, PatOK Tryz.prog 40 (p2 (.st .shape) (.st .shape) fun a b => ⟨some (allS fitsF a = true ∧ allS fitsF b = true ∧ sz a + sz b ≤ n), none, .bool (under n a b), []⟩) := by
  intro n
  induction n with
  | zero => exact p2_ok en_Under fun a b _ _ ho => absurd (ho _ rfl).2.2 (by have := sz_pos a; omega)
  | succ n ih => exact p2_ok en_Under fun a b ha hb ho => meets_Under n a b ha hb (ho _ rfl) ih
theorem en_rBelow : Enters Tryz.prog 28 := Enters.mk' Tryz.func28 (by kernel_rfl)
theorem meets_rBelow (a b : Shape)   : Meets Tryz.prog 28 [.st .shape a, .st .shape b] [] (.ret (.bool (belowS a b))) :=
  fwp_sound (C := ⟨tbl, specL [(37, p1 (.st .shape) fun s => .ret (.int .i64 (checkS s))), (40, p2 (.st .shape) (.st .shape) fun a b => ⟨some (allS fitsF a = true ∧ allS fitsF b = true ∧ sz a + sz b ≤ 800), none, .bool (under 800 a b), []⟩)], fun _ => false, fun _ => []⟩) (ann := ⟨[], []⟩) mixed tblOK (specL_cons pat_rCheck (specL_cons (pat_Under 800) (specL_nil))) Tryz.func28 (Eq.mpr (by kernel_rfl) (vc_rBelow a b))
theorem pat_rBelow : PatOK Tryz.prog 28 (p2 (.st .shape) (.st .shape) fun a b => .ret (.bool (belowS a b))) :=
  p2_ok en_rBelow fun a b _ _ _ => meets_rBelow a b
theorem en_change : Enters Tryz.prog 18 := Enters.mk' Tryz.func18 (by kernel_rfl)
theorem meets_change (old now : List AL.Item) (n : Str)   : Meets Tryz.prog 18 [.lst (.st .item) old none, .lst (.st .item) now none, .str n] [] (.ret (.int .i64 (changeR old now n))) :=
  fwp_sound (C := ⟨tbl, specL [(26, p2 (.lst (.st .item)) .str fun l n => .ret (.tup [.st .item ((itemOf l n).getD dflI), .bool (itemOf l n).isSome])), (27, p2 (.st .shape) (.st .shape) fun a b => .ret (.bool (sameS a b))), (28, p2 (.st .shape) (.st .shape) fun a b => .ret (.bool (belowS a b)))], fun _ => false, fun _ => []⟩) (ann := ⟨[], []⟩) mixed tblOK (specL_cons pat_Find (specL_cons pat_rSame (specL_cons pat_rBelow (specL_nil)))) Tryz.func18 (Eq.mpr (by kernel_rfl) (vc_change old now n))
theorem pat_change : PatOK Tryz.prog 18 (p3c) :=
  p3c_ok en_change fun a b n => meets_change a b n
theorem en_cDiff : Enters Tryz.prog 8 := Enters.mk' Tryz.func8 (by kernel_rfl)
theorem meets_cDiff (old now : List AL.Item) (ho : Wf (.lst (.st .item)) old) (hn : Wf (.lst (.st .item)) now) (hb : old.length + now.length ≤ 1000000)  : Meets Tryz.prog 8 [.lst (.st .item) old none, .lst (.st .item) now none] [] (⟨some (old.length + now.length ≤ 1000000), none, .lst (.st .change) (diffF old now) none, []⟩) :=
  fwp_sound (C := ⟨tbl, specL [(17, p1 (.lst (.st .item)) fun l => ⟨some (l.length ≤ 1000000), none, .lst .str (sortS (uniq (l.map (·.name)))) none, []⟩), (18, p3c)], fun _ => false, fun _ => []⟩) (ann := ⟨[(4, fun S0 => ⟨Nat, fun k => k ≤ (namesU old now).length, fun k => [(5, .lst (.st .change) (diffGo old now ((namesU old now).take k)) (some 701)), (7, .int .i64 k)], fun k => [(701, .tail (.st .change) (diffGo old now ((namesU old now).take k)).length)], fun k => (namesU old now).length - k⟩)], []⟩) mixed tblOK (specL_cons pat_cnames (specL_cons pat_change (specL_nil))) Tryz.func8 (Eq.mpr (by kernel_rfl) (vc_cDiff old now ho hn hb))
theorem pat_cDiff : PatOK Tryz.prog 8 (p2 (.lst (.st .item)) (.lst (.st .item)) fun old now => ⟨some (old.length + now.length ≤ 1000000), none, .lst (.st .change) (diffF old now) none, []⟩) :=
  p2_ok en_cDiff fun a b ha hb ho => meets_cDiff a b ha hb (ho _ rfl)
theorem en_DifferDiffs : Enters Tryz.prog 3 := Enters.mk' Tryz.func3 (by kernel_rfl)
theorem meets_DifferDiffs (a b : List AL.Item) (ha : Wf (.lst (.st .item)) a) (hb : Wf (.lst (.st .item)) b)  : Meets Tryz.prog 3 [.lst (.st .item) a none, .lst (.st .item) b none] [] (.ret (.bool true)) :=
  fwp_sound (C := ⟨tbl, specL [(4, p1 (.lst (.st .item)) fun l => .ret (.bool (smallF l))), (5, p0 (.ret (.bool true))), (7, p2 (.lst (.st .item)) (.lst (.st .item)) fun old now => ⟨some (old.length + now.length ≤ 1000000), none, .lst (.st .change) (diffF old now) none, []⟩), (8, p2 (.lst (.st .item)) (.lst (.st .item)) fun old now => ⟨some (old.length + now.length ≤ 1000000), none, .lst (.st .change) (diffF old now) none, []⟩), (6, p2 (.lst (.st .change)) (.lst (.st .change)) fun a b => .ret (.bool (eqC a b)))], fun _ => false, fun _ => []⟩) (ann := ⟨[], []⟩) mixed tblOK (specL_cons pat_small17 (specL_cons pat_awake (specL_cons pat_Diff (specL_cons pat_cDiff (specL_cons pat_cSame (specL_nil)))))) Tryz.func3 (Eq.mpr (by kernel_rfl) (vc_DifferDiffs a b ha hb))
end Go.AL.Seat
