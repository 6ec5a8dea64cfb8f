/-
  The contracts of this seat's functions. No condition.
-/
import Derived.Test.YtjemjblnddfdbaaSeatTbl
import Derived.Test.YtjemjblnddfdbaaSeatE
import Derived.Test.YtjemjblnddfdbaaAlZ
import Derived.Test.YtjemjblnddfdbaaVc1
import Derived.Test.YtjemjblnddfdbaaVc2
set_option linter.unusedVariables false
set_option linter.unusedSimpArgs false
set_option linter.unnecessarySimpa false
set_option linter.deprecated false
open Go Go.AL Go.Proofs Go.Shelf Go.Pd
namespace Go.AL.Seat
set_option maxRecDepth 100000
theorem en_Class : Enters Try.prog 7 := Enters.mk' Try.func7 (by kernel_rfl)
theorem meets_Class (l : List Change) (hl : Wf (.lst (.st .change)) l)  : Meets Try.prog 7 [.lst (.st .change) l none] [] (.ret (.int .i64 (classF l))) :=
  fwp_sound (C := ⟨tbl, specL [], fun _ => false, fun _ => []⟩) (ann := ⟨[(3, ⟨Nat × Int, fun x => x.1 ≤ l.length ∧ (0 ≤ x.2 ∧ x.2 ≤ 2) ∧ classGo (l.drop x.1) x.2 = classF l, fun x => [(3, .int .i64 x.2), (8, .int .i64 x.1)], fun _ => [], fun x => l.length - x.1⟩)], []⟩) mixed tblOK (specL_nil) Try.func7 (Eq.mpr (by kernel_rfl) (vc_Class l hl))
theorem pat_Class : PatOK Try.prog 7 (p1 (.lst (.st .change)) fun l => .ret (.int .i64 (classF l))) :=
  p1_ok en_Class fun l hl _ => meets_Class l hl
theorem en_small : Enters Try.prog 41 := Enters.mk' Try.func41 (by kernel_rfl)
theorem meets_small (c : Int)   : Meets Try.prog 41 [.int .u8 c] [] (.ret (.bool (smallI c))) :=
  fwp_sound (C := ⟨tbl, specL [], fun _ => false, fun _ => []⟩) (ann := ⟨[], []⟩) mixed tblOK (specL_nil) Try.func41 (Eq.mpr (by kernel_rfl) (vc_small c))
theorem pat_small : PatOK Try.prog 41 (p1 (.int .u8) fun c => .ret (.bool (smallI c))) :=
  p1_ok en_small fun c _ _ => meets_small c
theorem en_great : Enters Try.prog 38 := Enters.mk' Try.func38 (by kernel_rfl)
theorem meets_great (c : Int)   : Meets Try.prog 38 [.int .u8 c] [] (.ret (.bool (greatI c))) :=
  fwp_sound (C := ⟨tbl, specL [], fun _ => false, fun _ => []⟩) (ann := ⟨[], []⟩) mixed tblOK (specL_nil) Try.func38 (Eq.mpr (by kernel_rfl) (vc_great c))
theorem pat_great : PatOK Try.prog 38 (p1 (.int .u8) fun c => .ret (.bool (greatI c))) :=
  p1_ok en_great fun c _ _ => meets_great c
theorem en_digit : Enters Try.prog 71 := Enters.mk' Try.func71 (by kernel_rfl)
theorem meets_digit (c : Int)   : Meets Try.prog 71 [.int .u8 c] [] (.ret (.bool (digitI c))) :=
  fwp_sound (C := ⟨tbl, specL [], fun _ => false, fun _ => []⟩) (ann := ⟨[], []⟩) mixed tblOK (specL_nil) Try.func71 (Eq.mpr (by kernel_rfl) (vc_digit c))
theorem pat_digit : PatOK Try.prog 71 (p1 (.int .u8) fun c => .ret (.bool (digitI c))) :=
  p1_ok en_digit fun c _ _ => meets_digit c
theorem en_rest : Enters Try.prog 52 := Enters.mk' Try.func52 (by kernel_rfl)
theorem meets_rest (c : Int)   : Meets Try.prog 52 [.int .u8 c] [] (.ret (.bool (restI c))) :=
  fwp_sound (C := ⟨tbl, specL [(41, p1 (.int .u8) fun c => .ret (.bool (smallI c))), (38, p1 (.int .u8) fun c => .ret (.bool (greatI c))), (71, p1 (.int .u8) fun c => .ret (.bool (digitI c)))], fun _ => false, fun _ => []⟩) (ann := ⟨[], []⟩) mixed tblOK (specL_cons pat_small (specL_cons pat_great (specL_cons pat_digit (specL_nil)))) Try.func52 (Eq.mpr (by kernel_rfl) (vc_rest c))
theorem pat_rest : PatOK Try.prog 52 (p1 (.int .u8) fun c => .ret (.bool (restI c))) :=
  p1_ok en_rest fun c _ _ => meets_rest c
theorem en_nameds : Enters Try.prog 37 := Enters.mk' Try.func37 (by kernel_rfl)
theorem meets_nameds (s : Str) (hs : Wf .str s)  : Meets Try.prog 37 [.str s, .fn 41 []] [] (.ret (.bool (namedF smallI s))) :=
  fwp_sound (C := ⟨tbl, specL [(41, p1 (.int .u8) fun c => .ret (.bool (smallI c))), (38, p1 (.int .u8) fun c => .ret (.bool (greatI c))), (52, p1 (.int .u8) fun c => .ret (.bool (restI c)))], fun _ => false, fun _ => []⟩) (ann := ⟨[(4, ⟨Nat, fun k => k ≤ s.length ∧ namedF smallI s = (s.drop k).all fun c => restI (bI c), fun k => [(22, .int .i64 k)], fun _ => [], fun k => s.length - k⟩)], []⟩) mixed tblOK (specL_cons pat_small (specL_cons pat_great (specL_cons pat_rest (specL_nil)))) Try.func37 (Eq.mpr (by kernel_rfl) (vc_nameds s hs))
theorem pat_nameds : PatOK Try.prog 37 (pf .str 41 fun s => .ret (.bool (namedF smallI s))) :=
  pf_ok en_nameds fun s hs _ => meets_nameds s hs
theorem en_namedg : Enters Try.prog 37 := Enters.mk' Try.func37 (by kernel_rfl)
theorem meets_namedg (s : Str) (hs : Wf .str s)  : Meets Try.prog 37 [.str s, .fn 38 []] [] (.ret (.bool (namedF greatI s))) :=
  fwp_sound (C := ⟨tbl, specL [(41, p1 (.int .u8) fun c => .ret (.bool (smallI c))), (38, p1 (.int .u8) fun c => .ret (.bool (greatI c))), (52, p1 (.int .u8) fun c => .ret (.bool (restI c)))], fun _ => false, fun _ => []⟩) (ann := ⟨[(4, ⟨Nat, fun k => k ≤ s.length ∧ namedF greatI s = (s.drop k).all fun c => restI (bI c), fun k => [(22, .int .i64 k)], fun _ => [], fun k => s.length - k⟩)], []⟩) mixed tblOK (specL_cons pat_small (specL_cons pat_great (specL_cons pat_rest (specL_nil)))) Try.func37 (Eq.mpr (by kernel_rfl) (vc_namedg s hs))
theorem pat_namedg : PatOK Try.prog 37 (pf .str 38 fun s => .ret (.bool (namedF greatI s))) :=
  pf_ok en_namedg fun s hs _ => meets_namedg s hs
theorem en_Word : Enters Try.prog 42 := Enters.mk' Try.func42 (by kernel_rfl)
theorem meets_Word (s : Str)   : Meets Try.prog 42 [.str s] [] (.ret (.bool (wordF s))) :=
  fwp_sound (C := ⟨tbl, specL [], fun _ => false, fun _ => []⟩) (ann := ⟨[], []⟩) mixed tblOK (specL_nil) Try.func42 (Eq.mpr (by kernel_rfl) (vc_Word s))
theorem pat_Word : PatOK Try.prog 42 (p1 .str fun s => .ret (.bool (wordF s))) :=
  p1_ok en_Word fun s _ _ => meets_Word s
theorem en_Name : Enters Try.prog 27 := Enters.mk' Try.func27 (by kernel_rfl)
theorem meets_Name (s : Str)   : Meets Try.prog 27 [.str s] [] (.ret (.bool (nameF s))) :=
  fwp_sound (C := ⟨tbl, specL [(37, pf .str 41 fun s => .ret (.bool (namedF smallI s))), (42, p1 .str fun s => .ret (.bool (wordF s)))], fun _ => false, fun _ => []⟩) (ann := ⟨[], []⟩) mixed tblOK (specL_cons pat_nameds (specL_cons pat_Word (specL_nil))) Try.func27 (Eq.mpr (by kernel_rfl) (vc_Name s))
theorem pat_Name : PatOK Try.prog 27 (p1 .str fun s => .ret (.bool (nameF s))) :=
  p1_ok en_Name fun s _ _ => meets_Name s
theorem en_Upper : Enters Try.prog 25 := Enters.mk' Try.func25 (by kernel_rfl)
theorem meets_Upper (s : Str)   : Meets Try.prog 25 [.str s] [] (.ret (.bool (upperF s))) :=
  fwp_sound (C := ⟨tbl, specL [(37, pf .str 38 fun s => .ret (.bool (namedF greatI s)))], fun _ => false, fun _ => []⟩) (ann := ⟨[], []⟩) mixed tblOK (specL_cons pat_namedg (specL_nil)) Try.func25 (Eq.mpr (by kernel_rfl) (vc_Upper s))
theorem pat_Upper : PatOK Try.prog 25 (p1 .str fun s => .ret (.bool (upperF s))) :=
  p1_ok en_Upper fun s _ _ => meets_Upper s
theorem en_SEqual : Enters Try.prog 39 := Enters.mk' Try.func39 (by kernel_rfl)
theorem meets_SEqual (a b : List Str) (ha : Wf (.lst .str) a) (hb : Wf (.lst .str) b)  : Meets Try.prog 39 [.lst .str a none, .lst .str b none] [] (.ret (.bool (decide (a = b)))) :=
  fwp_sound (C := ⟨tbl, specL [], fun _ => false, fun _ => []⟩) (ann := ⟨[(4, ⟨Nat, fun k => k ≤ a.length ∧ a.length = b.length ∧ decide (a = b) = decide (a.drop k = b.drop k), fun k => [(13, .int .i64 k)], fun _ => [], fun k => a.length - k⟩)], []⟩) mixed tblOK (specL_nil) Try.func39 (Eq.mpr (by kernel_rfl) (vc_SEqual a b ha hb))
theorem pat_SEqual : PatOK Try.prog 39 (p2 (.lst .str) (.lst .str) fun a b => .ret (.bool (decide (a = b)))) :=
  p2_ok en_SEqual fun a b ha hb _ => meets_SEqual a b ha hb
theorem en_SIndex : Enters Try.prog 36 := Enters.mk' Try.func36 (by kernel_rfl)
theorem meets_SIndex (a : List Str) (v : Str) (ha : Wf (.lst .str) a)  : Meets Try.prog 36 [.lst .str a none, .str v] [] (.ret (.int .i64 (idxGo a v 0))) :=
  fwp_sound (C := ⟨tbl, specL [], fun _ => false, fun _ => []⟩) (ann := ⟨[(2, ⟨Nat, fun k => k ≤ a.length ∧ idxGo a v 0 = idxGo (a.drop k) v k, fun k => [(8, .int .i64 k)], fun _ => [], fun k => a.length - k⟩)], []⟩) mixed tblOK (specL_nil) Try.func36 (Eq.mpr (by kernel_rfl) (vc_SIndex a v ha))
theorem pat_SIndex : PatOK Try.prog 36 (p2 (.lst .str) .str fun a v => .ret (.int .i64 (idxGo a v 0))) :=
  p2_ok en_SIndex fun a v ha _ _ => meets_SIndex a v ha
theorem en_SContains : Enters Try.prog 24 := Enters.mk' Try.func24 (by kernel_rfl)
theorem meets_SContains (a : List Str) (v : Str)   : Meets Try.prog 24 [.lst .str a none, .str v] [] (.ret (.bool (decide (v ∈ a)))) :=
  fwp_sound (C := ⟨tbl, specL [(36, p2 (.lst .str) .str fun a v => .ret (.int .i64 (idxGo a v 0)))], fun _ => false, fun _ => []⟩) (ann := ⟨[], []⟩) mixed tblOK (specL_cons pat_SIndex (specL_nil)) Try.func24 (Eq.mpr (by kernel_rfl) (vc_SContains a v))
theorem pat_SContains : PatOK Try.prog 24 (p2 (.lst .str) .str fun a v => .ret (.bool (decide (v ∈ a)))) :=
  p2_ok en_SContains fun a v _ _ _ => meets_SContains a v
theorem en_plain : Enters Try.prog 76 := Enters.mk' Try.func76 (by kernel_rfl)
theorem meets_plain (s : Str)   : Meets Try.prog 76 [.str s] [] (.ret (.bool (plainF s))) :=
  fwp_sound (C := ⟨tbl, specL [], fun _ => false, fun _ => []⟩) (ann := ⟨[], []⟩) mixed tblOK (specL_nil) Try.func76 (Eq.mpr (by kernel_rfl) (vc_plain s))
theorem pat_plain : PatOK Try.prog 76 (p1 .str fun s => .ret (.bool (plainF s))) :=
  p1_ok en_plain fun s _ _ => meets_plain s
theorem en_EqualFunc : Enters Try.prog 40 := Enters.mk' Try.func40 (by kernel_rfl)
theorem meets_EqualFunc (n : Nat) (a b : List AL.Shape) (ha : Wf (.lst (.st .shape)) a) (hb : Wf (.lst (.st .shape)) b) (hn : szL a ≤ n) (hE : PatOK Try.prog 50 (p2 (.st .shape) (.st .shape) fun a b => ⟨some (sz a ≤ n), none, .bool (eqS a b), []⟩)) : Meets Try.prog 40 [.lst (.st .shape) a none, .lst (.st .shape) b none, .fn 50 []] [] (.ret (.bool (eqL a b))) :=
  fwp_sound (C := ⟨tbl, specL [(50, p2 (.st .shape) (.st .shape) fun a b => ⟨some (sz a ≤ n), none, .bool (eqS a b), []⟩)], fun _ => false, fun _ => []⟩) (ann := ⟨[(4, ⟨Nat, fun k => k ≤ a.length ∧ a.length = b.length ∧ eqL a b = eqL (a.drop k) (b.drop k), fun k => [(17, .int .i64 k)], fun _ => [], fun k => a.length - k⟩)], []⟩) mixed tblOK (specL_cons (hE) (specL_nil)) Try.func40 (Eq.mpr (by kernel_rfl) (vc_EqualFunc n a b ha hb hn))
theorem en_equal : Enters Try.prog 50 := Enters.mk' Try.func50 (by kernel_rfl)
theorem meets_equal (n : Nat) (a b : Shape) (hn : sz a ≤ n + 1) (hL : PatOK Try.prog 40 (pff (.lst (.st .shape)) (.lst (.st .shape)) 50 fun a b => ⟨some (szL a ≤ n), none, .bool (eqL a b), []⟩)) : Meets Try.prog 50 [.st .shape a, .st .shape b] [] (.ret (.bool (eqS a b))) :=
  fwp_sound (C := ⟨tbl, specL [(39, p2 (.lst .str) (.lst .str) fun a b => .ret (.bool (decide (a = b)))), (40, pff (.lst (.st .shape)) (.lst (.st .shape)) 50 fun a b => ⟨some (szL a ≤ n), none, .bool (eqL a b), []⟩)], fun _ => false, fun _ => []⟩) (ann := ⟨[], []⟩) mixed tblOK (specL_cons pat_SEqual (specL_cons (hL) (specL_nil))) Try.func50 (Eq.mpr (by kernel_rfl) (vc_equal n a b hn))
theorem pat_equal : ∀ n : Nat, PatOK Try.prog 50 (p2 (.st .shape) (.st .shape) fun a b => ⟨some (sz a ≤ n), none, .bool (eqS a b), []⟩) := by
  intro n
  induction n with
  | zero => exact p2_ok en_equal fun a b _ _ ho => absurd (ho _ rfl) (by have := sz_pos a; omega)
  | succ n ih => exact p2_ok en_equal fun a b _ _ ho => meets_equal n a b (ho _ rfl) (pff_ok en_EqualFunc fun a b ha hb ho => meets_EqualFunc n a b ha hb (ho _ rfl) ih)
theorem en_Values : Enters Try.prog 86 := Enters.mk' Try.func86 (by kernel_rfl)
theorem meets_Values (a : List Str)   : Meets Try.prog 86 [.lst .str a none] [] (⟨none, none, .fn 98 [.ptr 1 0], [(1, .box (.lst .str a none))]⟩) :=
  fwp_sound (C := ⟨tbl, specL [], fun _ => false, fun _ => []⟩) (ann := ⟨[], []⟩) mixed tblOK (specL_nil) Try.func86 (Eq.mpr (by kernel_rfl) (vc_Values a))
theorem pat_Values : PatOK Try.prog 86 (p1 (.lst .str) fun a => ⟨none, none, .fn 98 [.ptr 1 0], [(1, .box (.lst .str a none))]⟩) :=
  p1_ok en_Values fun a _ _ => meets_Values a
theorem en_named : Enters Try.prog 75 := Enters.mk' Try.func75 (by kernel_rfl)
theorem meets_named (s : AL.Shape) (hs : Wf (.st .shape) s) (ho : s.parts.length * 16 ≤ 140737488355328)  : Meets Try.prog 75 [.st .shape s] [] (⟨some (s.parts.length * 16 ≤ 140737488355328), none, .bool (namedOK s), []⟩) :=
  fwp_sound (C := ⟨tbl, specL [(27, p1 .str fun s => .ret (.bool (nameF s))), (86, p1 (.lst .str) fun a => ⟨none, none, .fn 98 [.ptr 1 0], [(1, .box (.lst .str a none))]⟩), (19, patSorted 98 32), (87, patCompact)], fun _ => false, fun _ => []⟩) (ann := ⟨[(4, ⟨Nat, fun k => k ≤ s.names.length ∧ s.names.length = s.parts.length ∧ namedOK s = (((s.names.drop k).all nameF) && decide s.names.Nodup), fun k => [(16, .int .i64 k)], fun _ => [], fun k => s.names.length - k⟩)], []⟩) mixed tblOK (specL_cons pat_Name (specL_cons pat_Values (specL_cons (pat_Sorted) (specL_cons (pat_Compact) (specL_nil))))) Try.func75 (Eq.mpr (by kernel_rfl) (vc_named s hs ho))
theorem pat_named : PatOK Try.prog 75 (p1 (.st .shape) fun s => ⟨some (s.parts.length * 16 ≤ 140737488355328), none, .bool (namedOK s), []⟩) :=
  p1_ok en_named fun s hs ho => meets_named s hs (ho _ rfl)
theorem en_fits : Enters Try.prog 54 := Enters.mk' Try.func54 (by kernel_rfl)
theorem meets_fits (s : AL.Shape) (hs : Wf (.st .shape) s) (ho : s.parts.length * 16 ≤ 140737488355328)  : Meets Try.prog 54 [.st .shape s] [] (⟨some (s.parts.length * 16 ≤ 140737488355328), none, .bool (fitsF s), []⟩) :=
  fwp_sound (C := ⟨tbl, specL [(75, p1 (.st .shape) fun s => ⟨some (s.parts.length * 16 ≤ 140737488355328), none, .bool (namedOK s), []⟩), (25, p1 .str fun s => .ret (.bool (upperF s))), (27, p1 .str fun s => .ret (.bool (nameF s))), (76, p1 .str fun s => .ret (.bool (plainF s)))], fun _ => false, fun _ => []⟩) (ann := ⟨[], []⟩) mixed tblOK (specL_cons pat_named (specL_cons pat_Upper (specL_cons pat_Name (specL_cons pat_plain (specL_nil))))) Try.func54 (Eq.mpr (by kernel_rfl) (vc_fits s hs ho))
theorem pat_fits : PatOK Try.prog 54 (p1 (.st .shape) fun s => ⟨some (s.parts.length * 16 ≤ 140737488355328), none, .bool (fitsF s), []⟩) :=
  p1_ok en_fits fun s hs ho => meets_fits s hs (ho _ rfl)
theorem en_notName : Enters Try.prog 45 := Enters.mk' Try.func45 (by kernel_rfl)
theorem meets_notName (s : AL.Shape)   : Meets Try.prog 45 [.st .shape s] [] (.ret (.bool (!decide (s.kind = 9)))) :=
  fwp_sound (C := ⟨tbl, specL [], fun _ => false, fun _ => []⟩) (ann := ⟨[], []⟩) mixed tblOK (specL_nil) Try.func45 (Eq.mpr (by kernel_rfl) (vc_notName s))
theorem pat_notName : PatOK Try.prog 45 (p1 (.st .shape) fun s => .ret (.bool (!decide (s.kind = 9)))) :=
  p1_ok en_notName fun s _ _ => meets_notName s
theorem en_allFits : Enters Try.prog 44 := Enters.mk' Try.func44 (by kernel_rfl)
theorem meets_allFits (n : Nat) (s : AL.Shape) (hs : Wf (.st .shape) s) (hn : sz s ≤ n + 1) (hb : n ≤ 1000000) (hA : PatOK Try.prog 44 (pf (.st .shape) 54 fun s => ⟨some (sz s ≤ n), none, .bool (allS fitsF s), []⟩)) : Meets Try.prog 44 [.st .shape s, .fn 54 []] [] (.ret (.bool (allS fitsF s))) :=
  fwp_sound (C := ⟨tbl, specL [(54, p1 (.st .shape) fun s => ⟨some (s.parts.length * 16 ≤ 140737488355328), none, .bool (fitsF s), []⟩), (44, pf (.st .shape) 54 fun s => ⟨some (sz s ≤ n), none, .bool (allS fitsF s), []⟩)], fun _ => false, fun _ => []⟩) (ann := ⟨[(4, ⟨Nat, fun k => k ≤ s.parts.length ∧ allS fitsF s = allL fitsF (s.parts.drop k), fun k => [(14, .int .i64 k)], fun _ => [], fun k => s.parts.length - k⟩)], []⟩) mixed tblOK (specL_cons pat_fits (specL_cons (hA) (specL_nil))) Try.func44 (Eq.mpr (by kernel_rfl) (vc_allFits n s hs hn hb))
theorem pat_allFits : ∀ n : Nat, n ≤ 1000000 → PatOK Try.prog 44 (pf (.st .shape) 54 fun s => ⟨some (sz s ≤ n), none, .bool (allS fitsF s), []⟩) := by
  intro n
  induction n with
  | zero => exact fun _ => pf_ok en_allFits fun a hs ho => absurd (ho _ rfl) (by have := sz_pos a; omega)
  | succ n ih => exact fun hb => pf_ok en_allFits fun a hs ho => meets_allFits n a hs (ho _ rfl) (by omega) (ih (by omega))
theorem en_allClosed : Enters Try.prog 44 := Enters.mk' Try.func44 (by kernel_rfl)
theorem meets_allClosed (n : Nat) (s : AL.Shape) (hs : Wf (.st .shape) s) (hn : sz s ≤ n + 1) (hb : n ≤ 1000000) (hA : PatOK Try.prog 44 (pf (.st .shape) 45 fun s => ⟨some (sz s ≤ n), none, .bool (allS (fun s => !decide (s.kind = 9)) s), []⟩)) : Meets Try.prog 44 [.st .shape s, .fn 45 []] [] (.ret (.bool (allS (fun s => !decide (s.kind = 9)) s))) :=
  fwp_sound (C := ⟨tbl, specL [(45, p1 (.st .shape) fun s => .ret (.bool (!decide (s.kind = 9)))), (44, pf (.st .shape) 45 fun s => ⟨some (sz s ≤ n), none, .bool (allS (fun s => !decide (s.kind = 9)) s), []⟩)], fun _ => false, fun _ => []⟩) (ann := ⟨[(4, ⟨Nat, fun k => k ≤ s.parts.length ∧ allS (fun s => !decide (s.kind = 9)) s = allL (fun s => !decide (s.kind = 9)) (s.parts.drop k), fun k => [(14, .int .i64 k)], fun _ => [], fun k => s.parts.length - k⟩)], []⟩) mixed tblOK (specL_cons pat_notName (specL_cons (hA) (specL_nil))) Try.func44 (Eq.mpr (by kernel_rfl) (vc_allClosed n s hs hn hb))
theorem pat_allClosed : ∀ n : Nat, n ≤ 1000000 → PatOK Try.prog 44 (pf (.st .shape) 45 fun s => ⟨some (sz s ≤ n), none, .bool (allS (fun s => !decide (s.kind = 9)) s), []⟩) := by
  intro n
  induction n with
  | zero => exact fun _ => pf_ok en_allClosed fun a hs ho => absurd (ho _ rfl) (by have := sz_pos a; omega)
  | succ n ih => exact fun hb => pf_ok en_allClosed fun a hs ho => meets_allClosed n a hs (ho _ rfl) (by omega) (ih (by omega))
theorem en_sorted : Enters Try.prog 46 := Enters.mk' Try.func46 (by kernel_rfl)
theorem meets_sorted (n : Nat) (s : AL.Shape) (hs : Wf (.st .shape) s) (hn : sz s ≤ n + 1) (ho : allS orderly s = true) (hb : n ≤ 1000000) (hA : PatOK Try.prog 46 (p1 (.st .shape) fun s => ⟨some (sz s ≤ n ∧ allS orderly s = true), none, .st .shape (sortedS s), []⟩)) : Meets Try.prog 46 [.st .shape s] [] (.ret (.st .shape (sortedS s))) :=
  fwp_sound (C := ⟨tbl, specL [(55, patSortFunc 56), (46, p1 (.st .shape) fun s => ⟨some (sz s ≤ n ∧ allS orderly s = true), none, .st .shape (sortedS s), []⟩)], fun _ => false, fun _ => []⟩) (ann := ⟨[(4, ⟨Nat, fun k => k ≤ s.parts.length, fun k => [(21, .int .i64 k)], fun k => [(18, .box (.row (.int .i64) (rangeI k ++ List.replicate (s.parts.length - k) 0)))], fun k => s.parts.length - k⟩), (11, ⟨Nat, fun k => k ≤ s.parts.length, fun k => [(38, .int .i64 k)], fun k => [(3, .box (.agg [.int .i64 s.kind, .str s.pkg, .str s.name, .lst .str (if s.names = [] then [] else (places s |>.take k).map (nameAt s.names)) (some 701), .lst (.st .shape) ((places s |>.take k).map fun i => (sortedL s.parts).getD i.toNat dflS) (some 702)])), (18, .box (.row (.int .i64) (places s))), (701, .tail .str (if s.names = [] then [] else (places s |>.take k).map (nameAt s.names)).length), (702, .tail (.st .shape) k)], fun k => s.parts.length - k⟩)], []⟩) mixed tblOK (specL_cons (pat_SortFunc) (specL_cons (hA) (specL_nil))) Try.func46 (Eq.mpr (by kernel_rfl) (vc_sorted n s hs hn ho hb))
theorem pat_sorted : ∀ n : Nat, n ≤ 1000000 → PatOK Try.prog 46 (p1 (.st .shape) fun s => ⟨some (sz s ≤ n ∧ allS orderly s = true), none, .st .shape (sortedS s), []⟩) := by
  intro n
  induction n with
  | zero => exact fun _ => p1_ok en_sorted fun a hs ho => absurd (ho _ rfl).1 (by have := sz_pos a; omega)
  | succ n ih => exact fun hb => p1_ok en_sorted fun a hs ho => meets_sorted n a hs (ho _ rfl).1 (ho _ rfl).2 (by omega) (ih (by omega))
theorem en_meet : Enters Try.prog 74 := Enters.mk' Try.func74 (by kernel_rfl)
theorem meets_meet (c : Int) (hc : 0 ≤ c ∧ c ≤ 400)  : Meets Try.prog 74 [.ptr 900 0] [(900, .box (.int .i64 c))] (meetA 105 c) :=
  fwp_sound (C := ⟨tbl, specL [], fun _ => false, fun _ => []⟩) (ann := ⟨[], []⟩) mixed tblOK (specL_nil) Try.func74 (Eq.mpr (by kernel_rfl) (vc_meet c hc))
theorem pat_meet : PatOK Try.prog 74 (patMeet 105) :=
  patMeet_ok en_meet fun c hc => meets_meet c hc
theorem en_walk : Enters Try.prog 73 := Enters.mk' Try.func73 (by kernel_rfl)
theorem meets_walk (n : Nat) (s : AL.Shape) (l c : Int) (hs : Wf (.st .shape) s) (hn : sz s ≤ n + 1) (hc : 0 ≤ c ∧ c ≤ 400 ∧ 1 ≤ l ∧ l ≤ c + 1) (hA : PatOK Try.prog 73 (patWalk 105 74 n)) : Meets Try.prog 73 [.st .shape s, .int .i64 l, .fn 74 [.ptr 900 0]] [(900, .box (.int .i64 c))] (walkA 105 s l c (sz s ≤ n + 1)) :=
  fwp_sound (C := ⟨tbl, specL [(74, patMeet 105), (73, patWalk 105 74 n)], fun _ => false, fun _ => []⟩) (ann := ⟨[(4, ⟨Nat × Int, fun x => x.1 ≤ s.parts.length ∧ c + 1 + (szL (s.parts.take x.1) : Int) ≤ 400 ∧ deepL (s.parts.drop x.1) (l + 1) x.2 = deepS s l, fun x => [(7, .int .i64 x.2), (16, .int .i64 x.1)], fun x => [(900, .box (.int .i64 (c + 1 + (szL (s.parts.take x.1) : Int))))], fun x => s.parts.length - x.1⟩)], []⟩) mixed tblOK (specL_cons pat_meet (specL_cons (hA) (specL_nil))) Try.func73 (Eq.mpr (by kernel_rfl) (vc_walk n s l c hs hn hc))
theorem pat_walk : ∀ n : Nat, PatOK Try.prog 73 (patWalk 105 74 n) := by
  intro n
  induction n with
  | zero => exact patWalk_ok en_walk fun s l c hs hn hc => absurd hn (by have := sz_pos s; omega)
  | succ n ih => exact patWalk_ok en_walk fun s l c hs hn hc => meets_walk n s l c hs hn hc ih
theorem en_count : Enters Try.prog 53 := Enters.mk' Try.func53 (by kernel_rfl)
theorem meets_count (s : AL.Shape) (hs : Wf (.st .shape) s)  : Meets Try.prog 53 [.st .shape s] [] (.ret (.tup [.int .i64 (if sz s ≤ 400 then (sz s : Int) else 401), .int .i64 (if sz s ≤ 400 then deepS s 1 else 0), .bool (decide (sz s ≤ 400))])) :=
  fwpR_sound (C := ⟨tbl, specL [(73, patWalk 105 74 (sz s))], fun _ => false, fun _ => []⟩) (ann := ⟨[], []⟩) (annC := ⟨[], []⟩) mixed tblOK (specL_cons (pat_walk (sz s)) (specL_nil)) Try.func53 Try.func72 (enters_of Try.func72 (by kernel_rfl) rfl) (Eq.mpr (by kernel_rfl) (vc_count s hs))
theorem pat_count : PatOK Try.prog 53 (p1 (.st .shape) fun s => .ret (.tup [.int .i64 (if sz s ≤ 400 then (sz s : Int) else 401), .int .i64 (if sz s ≤ 400 then deepS s 1 else 0), .bool (decide (sz s ≤ 400))])) :=
  p1_ok en_count fun s hs _ => meets_count s hs
theorem en_Check : Enters Try.prog 43 := Enters.mk' Try.func43 (by kernel_rfl)
theorem meets_Check (s : AL.Shape)   : Meets Try.prog 43 [.st .shape s] [] (.ret (.int .i64 (checkS s))) :=
  fwp_sound (C := ⟨tbl, specL [(53, p1 (.st .shape) fun s => .ret (.tup [.int .i64 (if sz s ≤ 400 then (sz s : Int) else 401), .int .i64 (if sz s ≤ 400 then deepS s 1 else 0), .bool (decide (sz s ≤ 400))])), (44, pf (.st .shape) 54 fun s => ⟨some (sz s ≤ 400), none, .bool (allS fitsF s), []⟩)], fun _ => false, fun _ => []⟩) (ann := ⟨[], []⟩) mixed tblOK (specL_cons (pat_count) (specL_cons (pat_allFits 400 (by decide)) (specL_nil))) Try.func43 (Eq.mpr (by kernel_rfl) (vc_Check s))
theorem pat_Check : PatOK Try.prog 43 (p1 (.st .shape) fun s => .ret (.int .i64 (checkS s))) :=
  p1_ok en_Check fun s _ _ => meets_Check s
theorem en_Closed : Enters Try.prog 28 := Enters.mk' Try.func28 (by kernel_rfl)
theorem meets_Closed (s : AL.Shape)   : Meets Try.prog 28 [.st .shape s] [] (.ret (.bool (closedS s))) :=
  fwp_sound (C := ⟨tbl, specL [(43, p1 (.st .shape) fun s => .ret (.int .i64 (checkS s))), (44, pf (.st .shape) 45 fun s => ⟨some (sz s ≤ 400), none, .bool (allS (fun s => !decide (s.kind = 9)) s), []⟩)], fun _ => false, fun _ => []⟩) (ann := ⟨[], []⟩) mixed tblOK (specL_cons pat_Check (specL_cons (pat_allClosed 400 (by decide)) (specL_nil))) Try.func28 (Eq.mpr (by kernel_rfl) (vc_Closed s))
theorem pat_Closed : PatOK Try.prog 28 (p1 (.st .shape) fun s => .ret (.bool (closedS s))) :=
  p1_ok en_Closed fun s _ _ => meets_Closed s
theorem en_Sort : Enters Try.prog 29 := Enters.mk' Try.func29 (by kernel_rfl)
theorem meets_Sort (s : AL.Shape)   : Meets Try.prog 29 [.st .shape s] [] (.ret (.st .shape (sortS' s))) :=
  fwp_sound (C := ⟨tbl, specL [(43, p1 (.st .shape) fun s => .ret (.int .i64 (checkS s))), (46, p1 (.st .shape) fun s => ⟨some (sz s ≤ 400 ∧ allS orderly s = true), none, .st .shape (sortedS s), []⟩)], fun _ => false, fun _ => []⟩) (ann := ⟨[], []⟩) mixed tblOK (specL_cons pat_Check (specL_cons (pat_sorted 400 (by decide)) (specL_nil))) Try.func29 (Eq.mpr (by kernel_rfl) (vc_Sort s))
theorem pat_Sort : PatOK Try.prog 29 (p1 (.st .shape) fun s => .ret (.st .shape (sortS' s))) :=
  p1_ok en_Sort fun s _ _ => meets_Sort s
theorem en_Same : Enters Try.prog 33 := Enters.mk' Try.func33 (by kernel_rfl)
theorem meets_Same (a b : Shape)   : Meets Try.prog 33 [.st .shape a, .st .shape b] [] (.ret (.bool (sameS a b))) :=
  fwp_sound (C := ⟨tbl, specL [(43, p1 (.st .shape) fun s => .ret (.int .i64 (checkS s))), (46, p1 (.st .shape) fun s => ⟨some (sz s ≤ 400 ∧ allS orderly s = true), none, .st .shape (sortedS s), []⟩), (50, p2 (.st .shape) (.st .shape) fun a b => ⟨some (sz a ≤ 400), none, .bool (eqS a b), []⟩)], fun _ => false, fun _ => []⟩) (ann := ⟨[], []⟩) mixed tblOK (specL_cons pat_Check (specL_cons (pat_sorted 400 (by decide)) (specL_cons (pat_equal 400) (specL_nil)))) Try.func33 (Eq.mpr (by kernel_rfl) (vc_Same a b))
theorem pat_Same : PatOK Try.prog 33 (p2 (.st .shape) (.st .shape) fun a b => .ret (.bool (sameS a b))) :=
  p2_ok en_Same fun a b _ _ _ => meets_Same a b
theorem en_fields : Enters Try.prog 85 := Enters.mk' Try.func85 (by kernel_rfl)
theorem meets_fields (s : AL.Shape) (hs : Wf (.st .shape) s)  : Meets Try.prog 85 [.st .shape s] [] (⟨none, none, .map 9, [(9, .map .str (.int .i64) (fieldsFrom s.names 0 []))]⟩) :=
  fwp_sound (C := ⟨tbl, specL [], fun _ => false, fun _ => []⟩) (ann := ⟨[(3, ⟨Nat × List (Str × Int), fun x => x.1 ≤ s.names.length ∧ fieldsFrom (s.names.drop x.1) (x.1 : Int) x.2 = fieldsFrom s.names 0 [], fun x => [(13, .int .i64 x.1)], fun x => [(9, .map .str (.int .i64) x.2)], fun x => s.names.length - x.1⟩)], []⟩) mixed tblOK (specL_nil) Try.func85 (Eq.mpr (by kernel_rfl) (vc_fields s hs))
theorem pat_fields : PatOK Try.prog 85 (p1 (.st .shape) fun s => ⟨none, none, .map 9, [(9, .map .str (.int .i64) (fieldsFrom s.names 0 []))]⟩) :=
  p1_ok en_fields fun s hs _ => meets_fields s hs
theorem en_belowr : Enters Try.prog 70 := Enters.mk' Try.func70 (by kernel_rfl)
theorem meets_belowr (n : Nat) (a b : Shape) (ho : (allS fitsF a = true ∧ allS fitsF b = true ∧ sz a + sz b ≤ n)) (hB : PatOK Try.prog 51 (p2 (.st .shape) (.st .shape) fun a b => ⟨some (allS fitsF a = true ∧ allS fitsF b = true ∧ sz a + sz b ≤ n), none, .bool (under n a b), []⟩)) : Meets Try.prog 70 [.st .shape a, .st .shape b] [] (.ret (.bool (under n b a))) :=
  fwp_sound (C := ⟨tbl, specL [(51, p2 (.st .shape) (.st .shape) fun a b => ⟨some (allS fitsF a = true ∧ allS fitsF b = true ∧ sz a + sz b ≤ n), none, .bool (under n a b), []⟩)], fun _ => false, fun _ => []⟩) (ann := ⟨[], []⟩) mixed tblOK (specL_cons (hB) (specL_nil)) Try.func70 (Eq.mpr (by kernel_rfl) (vc_belowr n a b ho))
theorem en_within1 : Enters Try.prog 69 := Enters.mk' Try.func69 (by kernel_rfl)
theorem meets_within1 (n : Nat) (u others : Shape) (hs : Wf (.st .shape) u) (ho : (allL fitsF u.parts = true ∧ allL fitsF others.parts = true ∧ u.names.length = u.parts.length ∧ others.names.length = others.parts.length ∧ others.names.Nodup ∧ szL u.parts + szL others.parts ≤ n)) (hB : PatOK Try.prog 70 (p2 (.st .shape) (.st .shape) fun a b => ⟨some (allS fitsF a = true ∧ allS fitsF b = true ∧ sz a + sz b ≤ n), none, .bool (under n b a), []⟩)) : Meets Try.prog 69 [.st .shape u, .st .shape others, .fn 70 []] [] (.ret (.bool (withinL (fun p x => under n x p) others u.names u.parts))) :=
  fwp_sound (C := ⟨tbl, specL [(85, p1 (.st .shape) fun s => ⟨none, none, .map 9, [(9, .map .str (.int .i64) (fieldsFrom s.names 0 []))]⟩), (70, p2 (.st .shape) (.st .shape) fun a b => ⟨some (allS fitsF a = true ∧ allS fitsF b = true ∧ sz a + sz b ≤ n), none, .bool (under n b a), []⟩)], fun _ => false, fun _ => []⟩) (ann := ⟨[(3, ⟨Nat, fun k => k ≤ u.names.length ∧ withinL (fun p x => under n x p) others u.names u.parts = withinL (fun p x => under n x p) others (u.names.drop k) (u.parts.drop k), fun k => [(17, .int .i64 k)], fun _ => [], fun k => u.names.length - k⟩)], []⟩) mixed tblOK (specL_cons pat_fields (specL_cons (hB) (specL_nil))) Try.func69 (Eq.mpr (by kernel_rfl) (vc_within1 n u others hs ho))
theorem en_within2 : Enters Try.prog 69 := Enters.mk' Try.func69 (by kernel_rfl)
theorem meets_within2 (n : Nat) (u others : Shape) (hs : Wf (.st .shape) u) (ho : (allL fitsF u.parts = true ∧ allL fitsF others.parts = true ∧ u.names.length = u.parts.length ∧ others.names.length = others.parts.length ∧ others.names.Nodup ∧ szL u.parts + szL others.parts ≤ n)) (hB : PatOK Try.prog 51 (p2 (.st .shape) (.st .shape) fun a b => ⟨some (allS fitsF a = true ∧ allS fitsF b = true ∧ sz a + sz b ≤ n), none, .bool (under n a b), []⟩)) : Meets Try.prog 69 [.st .shape u, .st .shape others, .fn 51 []] [] (.ret (.bool (withinL (under n) others u.names u.parts))) :=
  fwp_sound (C := ⟨tbl, specL [(85, p1 (.st .shape) fun s => ⟨none, none, .map 9, [(9, .map .str (.int .i64) (fieldsFrom s.names 0 []))]⟩), (51, p2 (.st .shape) (.st .shape) fun a b => ⟨some (allS fitsF a = true ∧ allS fitsF b = true ∧ sz a + sz b ≤ n), none, .bool (under n a b), []⟩)], fun _ => false, fun _ => []⟩) (ann := ⟨[(3, ⟨Nat, fun k => k ≤ u.names.length ∧ withinL (under n) others u.names u.parts = withinL (under n) others (u.names.drop k) (u.parts.drop k), fun k => [(17, .int .i64 k)], fun _ => [], fun k => u.names.length - k⟩)], []⟩) mixed tblOK (specL_cons pat_fields (specL_cons (hB) (specL_nil))) Try.func69 (Eq.mpr (by kernel_rfl) (vc_within2 n u others hs ho))
theorem en_below : Enters Try.prog 51 := Enters.mk' Try.func51 (by kernel_rfl)
theorem meets_below (n : Nat) (a b : Shape) (ha : Wf (.st .shape) a) (hb : Wf (.st .shape) b) (ho : (allS fitsF a = true ∧ allS fitsF b = true ∧ sz a + sz b ≤ n + 1)) (hB : PatOK Try.prog 51 (p2 (.st .shape) (.st .shape) fun a b => ⟨some (allS fitsF a = true ∧ allS fitsF b = true ∧ sz a + sz b ≤ n), none, .bool (under n a b), []⟩)) (hW1 : PatOK Try.prog 69 (pff (.st .shape) (.st .shape) 70 fun u others => ⟨some (allL fitsF u.parts = true ∧ allL fitsF others.parts = true ∧ u.names.length = u.parts.length ∧ others.names.length = others.parts.length ∧ others.names.Nodup ∧ szL u.parts + szL others.parts ≤ n), none, .bool (withinL (fun p x => under n x p) others u.names u.parts), []⟩)) (hW2 : PatOK Try.prog 69 (pff (.st .shape) (.st .shape) 51 fun u others => ⟨some (allL fitsF u.parts = true ∧ allL fitsF others.parts = true ∧ u.names.length = u.parts.length ∧ others.names.length = others.parts.length ∧ others.names.Nodup ∧ szL u.parts + szL others.parts ≤ n), none, .bool (withinL (under n) others u.names u.parts), []⟩)) : Meets Try.prog 51 [.st .shape a, .st .shape b] [] (.ret (.bool (under (n + 1) a b))) :=
  fwp_sound (C := ⟨tbl, specL [(51, p2 (.st .shape) (.st .shape) fun a b => ⟨some (allS fitsF a = true ∧ allS fitsF b = true ∧ sz a + sz b ≤ n), none, .bool (under n a b), []⟩), (69, pff (.st .shape) (.st .shape) 70 fun u others => ⟨some (allL fitsF u.parts = true ∧ allL fitsF others.parts = true ∧ u.names.length = u.parts.length ∧ others.names.length = others.parts.length ∧ others.names.Nodup ∧ szL u.parts + szL others.parts ≤ n), none, .bool (withinL (fun p x => under n x p) others u.names u.parts), []⟩), (69, pff (.st .shape) (.st .shape) 51 fun u others => ⟨some (allL fitsF u.parts = true ∧ allL fitsF others.parts = true ∧ u.names.length = u.parts.length ∧ others.names.length = others.parts.length ∧ others.names.Nodup ∧ szL u.parts + szL others.parts ≤ n), none, .bool (withinL (under n) others u.names u.parts), []⟩)], fun _ => false, fun _ => []⟩) (ann := ⟨[(18, ⟨Nat, fun k => k ≤ a.parts.length - 1 ∧ a.parts.length = b.parts.length ∧ 0 < a.parts.length ∧ under (n + 1) a b = contraL (under n) ((a.parts.take (a.parts.length - 1)).drop k) ((b.parts.take (a.parts.length - 1)).drop k), fun k => [(77, .int .i64 k)], fun _ => [], fun k => a.parts.length - k⟩)], []⟩) mixed tblOK (specL_cons (hB) (specL_cons (hW1) (specL_cons (hW2) (specL_nil)))) Try.func51 (Eq.mpr (by kernel_rfl) (vc_below n a b ha hb ho))
theorem pat_below : ∀ n : Nat, PatOK Try.prog 51 (p2 (.st .shape) (.st .shape) fun a b => ⟨some (allS fitsF a = true ∧ allS fitsF b = true ∧ sz a + sz b ≤ n), none, .bool (under n a b), []⟩) := by
  intro n
  induction n with
  | zero => exact p2_ok en_below fun a b _ _ ho => absurd (ho _ rfl).2.2 (by have := sz_pos a; omega)
  | succ n ih =>
    have h1 : PatOK Try.prog 70 (p2 (.st .shape) (.st .shape) fun a b => ⟨some (allS fitsF a = true ∧ allS fitsF b = true ∧ sz a + sz b ≤ n), none, .bool (under n b a), []⟩) :=
      p2_ok en_belowr fun a b _ _ ho => meets_belowr n a b (ho _ rfl) ih
    exact p2_ok en_below fun a b ha hb ho => meets_below n a b ha hb (ho _ rfl) ih (pff_ok en_within1 fun u o hu _ ho => meets_within1 n u o hu (ho _ rfl) h1) (pff_ok en_within2 fun u o hu _ ho => meets_within2 n u o hu (ho _ rfl) ih)
theorem en_Below : Enters Try.prog 34 := Enters.mk' Try.func34 (by kernel_rfl)
theorem meets_Below (a b : Shape)   : Meets Try.prog 34 [.st .shape a, .st .shape b] [] (.ret (.bool (belowS a b))) :=
  fwp_sound (C := ⟨tbl, specL [(43, p1 (.st .shape) fun s => .ret (.int .i64 (checkS s))), (51, p2 (.st .shape) (.st .shape) fun a b => ⟨some (allS fitsF a = true ∧ allS fitsF b = true ∧ sz a + sz b ≤ 800), none, .bool (under 800 a b), []⟩)], fun _ => false, fun _ => []⟩) (ann := ⟨[], []⟩) mixed tblOK (specL_cons pat_Check (specL_cons (pat_below 800) (specL_nil))) Try.func34 (Eq.mpr (by kernel_rfl) (vc_Below a b))
theorem pat_Below : PatOK Try.prog 34 (p2 (.st .shape) (.st .shape) fun a b => .ret (.bool (belowS a b))) :=
  p2_ok en_Below fun a b _ _ _ => meets_Below a b
theorem en_dnamed : Enters Try.prog 18 := Enters.mk' Try.func18 (by kernel_rfl)
theorem meets_dnamed (l : List AL.Item) (hl : Wf (.lst (.st .item)) l)  : Meets Try.prog 18 [.lst (.st .item) l none] [] (⟨none, none, .map 8, [(8, .map .str (.int .i64) (namedGo l 0 []))]⟩) :=
  fwp_sound (C := ⟨tbl, specL [], fun _ => false, fun _ => []⟩) (ann := ⟨[(3, ⟨Nat × List (Str × Int), fun x => x.1 ≤ l.length ∧ namedGo (l.drop x.1) (x.1 : Int) x.2 = namedGo l 0 [], fun x => [(11, .int .i64 x.1)], fun x => [(8, .map .str (.int .i64) x.2)], fun x => l.length - x.1⟩)], []⟩) mixed tblOK (specL_nil) Try.func18 (Eq.mpr (by kernel_rfl) (vc_dnamed l hl))
theorem pat_dnamed : PatOK Try.prog 18 (p1 (.lst (.st .item)) fun l => ⟨none, none, .map 8, [(8, .map .str (.int .i64) (namedGo l 0 []))]⟩) :=
  p1_ok en_dnamed fun l hl _ => meets_dnamed l hl
theorem en_find : Enters Try.prog 21 := Enters.mk' Try.func21 (by kernel_rfl)
theorem meets_find (l : List AL.Item) (m : List (Str × Int)) (n : Str) (hl : Wf (.lst (.st .item)) l) (ho : ∀ i, mget m n = some i → 0 ≤ i ∧ i < l.length)  : Meets Try.prog 21 [.lst (.st .item) l none, .map 900, .str n] [(900, .map .str (.int .i64) m)] (⟨some (∀ i, mget m n = some i → 0 ≤ i ∧ i < l.length), none, .tup [.st .item (atI l (mget m n)), .bool (mget m n).isSome], [(900, .map .str (.int .i64) m)]⟩) :=
  fwp_sound (C := ⟨tbl, specL [], fun _ => false, fun _ => []⟩) (ann := ⟨[], []⟩) mixed tblOK (specL_nil) Try.func21 (Eq.mpr (by kernel_rfl) (vc_find l m n hl ho))
theorem pat_find : PatOK Try.prog 21 (patFind) :=
  patFind_ok en_find fun l m n hl ho => meets_find l m n hl ho
theorem en_kind : Enters Try.prog 22 := Enters.mk' Try.func22 (by kernel_rfl)
theorem meets_kind (a b : AL.Item)   : Meets Try.prog 22 [.st .item a, .st .item b] [] (.ret (.int .i64 (kindF a b))) :=
  fwp_sound (C := ⟨tbl, specL [(33, p2 (.st .shape) (.st .shape) fun a b => .ret (.bool (sameS a b))), (34, p2 (.st .shape) (.st .shape) fun a b => .ret (.bool (belowS a b)))], fun _ => false, fun _ => []⟩) (ann := ⟨[], []⟩) mixed tblOK (specL_cons pat_Same (specL_cons pat_Below (specL_nil))) Try.func22 (Eq.mpr (by kernel_rfl) (vc_kind a b))
theorem pat_kind : PatOK Try.prog 22 (p2 (.st .item) (.st .item) fun a b => .ret (.int .i64 (kindF a b))) :=
  p2_ok en_kind fun a b _ _ _ => meets_kind a b
theorem en_Keys : Enters Try.prog 20 := Enters.mk' Try.func20 (by kernel_rfl)
theorem meets_Keys (m : List (Str × Int))   : Meets Try.prog 20 [.map 900] [(900, .map .str (.int .i64) m)] (⟨none, none, .fn 32 [.ptr 1 0], [(1, .box (.map 900)), (900, .map .str (.int .i64) m)]⟩) :=
  fwp_sound (C := ⟨tbl, specL [], fun _ => false, fun _ => []⟩) (ann := ⟨[], []⟩) mixed tblOK (specL_nil) Try.func20 (Eq.mpr (by kernel_rfl) (vc_Keys m))
theorem pat_Keys : PatOK Try.prog 20 (patKeys 32) :=
  patKeys_ok en_Keys fun m => meets_Keys m
theorem en_Diff : Enters Try.prog 13 := Enters.mk' Try.func13 (by kernel_rfl)
theorem meets_Diff (old now : List AL.Item) (ho : Wf (.lst (.st .item)) old) (hn : Wf (.lst (.st .item)) now) (hb : old.length + now.length ≤ 1000000)  : Meets Try.prog 13 [.lst (.st .item) old none, .lst (.st .item) now none] [] (⟨some (old.length + now.length ≤ 1000000), none, .lst (.st .change) (diffF old now) none, []⟩) :=
  fwp_sound (C := ⟨tbl, specL [(18, p1 (.lst (.st .item)) fun l => ⟨none, none, .map 8, [(8, .map .str (.int .i64) (namedGo l 0 []))]⟩), (21, patFind), (22, p2 (.st .item) (.st .item) fun a b => .ret (.int .i64 (kindF a b))), (20, patKeys 32), (19, patSorted 98 32)], fun _ => false, fun _ => []⟩) (ann := ⟨[(13, ⟨Nat, fun k => k ≤ (namesU old now).length, fun k => [(10, .lst (.st .change) (diffGo old now ((namesU old now).take k)) (some 701)), (43, .int .i64 k)], fun k => [(701, .tail (.st .change) (diffGo old now ((namesU old now).take k)).length)], fun k => (namesU old now).length - k⟩)], []⟩) mixed tblOK (specL_cons pat_dnamed (specL_cons pat_find (specL_cons pat_kind (specL_cons pat_Keys (specL_cons (pat_Sorted) (specL_nil)))))) Try.func13 (Eq.mpr (by kernel_rfl) (vc_Diff old now ho hn hb))
theorem pat_Diff : PatOK Try.prog 13 (p2 (.lst (.st .item)) (.lst (.st .item)) fun old now => ⟨some (old.length + now.length ≤ 1000000), none, .lst (.st .change) (diffF old now) none, []⟩) :=
  p2_ok en_Diff fun a b ha hb ho => meets_Diff a b ha hb (ho _ rfl)
theorem en_Show : Enters Try.prog 9 := Enters.mk' Try.func9 (by kernel_rfl)
theorem meets_Show (l : List Change) (hl : Wf (.lst (.st .change)) l) (hb : showN l ≤ 1000000)  : Meets Try.prog 9 [.lst (.st .change) l none] [] (⟨some (showN l ≤ 1000000), none, .str (showF l), []⟩) :=
  fwp_sound (C := ⟨tbl, specL [(14, patWrite 47 5), (15, patString 47 5)], fun _ => false, fun _ => []⟩) (ann := ⟨[(3, ⟨Nat × Str, fun x => x.1 ≤ l.length ∧ showGo (l.drop x.1) x.2 = showF l ∧ x.2.length + showN (l.drop x.1) ≤ 1000000, fun x => [(9, .int .i64 x.1)], fun x => [(3, .bld 47 5 x.2)], fun x => l.length - x.1⟩)], []⟩) mixed tblOK (specL_cons (pat_Write) (specL_cons (pat_String) (specL_nil))) Try.func9 (Eq.mpr (by kernel_rfl) (vc_Show l hl hb))
theorem pat_Show : PatOK Try.prog 9 (p1 (.lst (.st .change)) fun l => ⟨some (showN l ≤ 1000000), none, .str (showF l), []⟩) :=
  p1_ok en_Show fun l hl ho => meets_Show l hl (ho _ rfl)
theorem en_rClass : Enters Try.prog 8 := Enters.mk' Try.func8 (by kernel_rfl)
theorem meets_rClass (l : List Change) (hl : Wf (.lst (.st .change)) l)  : Meets Try.prog 8 [.lst (.st .change) l none] [] (.ret (.int .i64 (classF l))) :=
  fwp_sound (C := ⟨tbl, specL [], fun _ => false, fun _ => []⟩) (ann := ⟨[(3, ⟨Nat × Int, fun x => x.1 ≤ l.length ∧ classR (l.drop x.1) x.2 = classF l, fun x => [(3, .int .i64 x.2), (4, .int .i64 x.1)], fun _ => [], fun x => l.length - x.1⟩)], []⟩) mixed tblOK (specL_nil) Try.func8 (Eq.mpr (by kernel_rfl) (vc_rClass l hl))
theorem pat_rClass : PatOK Try.prog 8 (p1 (.lst (.st .change)) fun l => .ret (.int .i64 (classF l))) :=
  p1_ok en_rClass fun l hl _ => meets_rClass l hl
theorem en_rShow : Enters Try.prog 10 := Enters.mk' Try.func10 (by kernel_rfl)
theorem meets_rShow (l : List Change) (hl : Wf (.lst (.st .change)) l) (hb : showN l ≤ 1000000)  : Meets Try.prog 10 [.lst (.st .change) l none] [] (⟨some (showN l ≤ 1000000), none, .str (showF l), []⟩) :=
  fwp_sound (C := ⟨tbl, specL [], fun _ => false, fun _ => []⟩) (ann := ⟨[(4, ⟨Nat × Str, fun x => x.1 ≤ l.length ∧ showGo (l.drop x.1) x.2 = showF l ∧ x.2.length + showN (l.drop x.1) ≤ 1000000, fun x => [(4, .str x.2), (5, .int .i64 x.1)], fun x => [], fun x => l.length - x.1⟩)], []⟩) mixed tblOK (specL_nil) Try.func10 (Eq.mpr (by kernel_rfl) (vc_rShow l hl hb))
theorem pat_rShow : PatOK Try.prog 10 (p1 (.lst (.st .change)) fun l => ⟨some (showN l ≤ 1000000), none, .str (showF l), []⟩) :=
  p1_ok en_rShow fun l hl ho => meets_rShow l hl (ho _ rfl)
theorem en_awake : Enters Try.prog 6 := Enters.mk' Try.func6 (by kernel_rfl)
theorem meets_awake    : Meets Try.prog 6 [] [] (.ret (.bool true)) :=
  fwp_sound (C := ⟨tbl, specL [(13, p2 (.lst (.st .item)) (.lst (.st .item)) fun old now => ⟨some (old.length + now.length ≤ 1000000), none, .lst (.st .change) (diffF old now) none, []⟩), (9, p1 (.lst (.st .change)) fun l => ⟨some (showN l ≤ 1000000), none, .str (showF l), []⟩), (7, p1 (.lst (.st .change)) fun l => .ret (.int .i64 (classF l)))], fun _ => false, fun _ => []⟩) (ann := ⟨[], []⟩) mixed tblOK (specL_cons pat_Diff (specL_cons pat_Show (specL_cons pat_Class (specL_nil)))) Try.func6 (Eq.mpr (by kernel_rfl) (vc_awake ))
theorem pat_awake : PatOK Try.prog 6 (p0 (.ret (.bool true))) :=
  p0_ok en_awake meets_awake
theorem en_DifferClasses : Enters Try.prog 3 := Enters.mk' Try.func3 (by kernel_rfl)
theorem meets_DifferClasses (l : List Change) (hl : Wf (.lst (.st .change)) l)  : Meets Try.prog 3 [.lst (.st .change) l none] [] (.ret (.bool true)) :=
  fwp_sound (C := ⟨tbl, specL [(7, p1 (.lst (.st .change)) fun l => .ret (.int .i64 (classF l))), (8, p1 (.lst (.st .change)) fun l => .ret (.int .i64 (classF l))), (9, p1 (.lst (.st .change)) fun l => ⟨some (showN l ≤ 1000000), none, .str (showF l), []⟩), (10, p1 (.lst (.st .change)) fun l => ⟨some (showN l ≤ 1000000), none, .str (showF l), []⟩), (6, p0 (.ret (.bool true)))], fun _ => false, fun _ => []⟩) (ann := ⟨[(3, ⟨Nat, fun k => k ≤ l.length ∧ minN (l.take k) ≤ 20000, fun k => [(3, .int .i64 (minN (l.take k) : Int)), (4, .int .i64 k)], fun _ => [], fun k => l.length - k⟩)], []⟩) mixed tblOK (specL_cons pat_Class (specL_cons pat_rClass (specL_cons pat_Show (specL_cons pat_rShow (specL_cons pat_awake (specL_nil)))))) Try.func3 (Eq.mpr (by kernel_rfl) (vc_DifferClasses l hl))
theorem en_iEqualFunc : Enters Try.prog 40 := Enters.mk' Try.func40 (by kernel_rfl)
theorem meets_iEqualFunc (n : Nat) (a b : List AL.Shape) (ha : Wf (.lst (.st .shape)) a) (hb : Wf (.lst (.st .shape)) b) (hn : szL a ≤ n) (hE : PatOK Try.prog 26 (p2 (.st .shape) (.st .shape) fun a b => ⟨some (sz a ≤ n), none, .bool (eqS a b), []⟩)) : Meets Try.prog 40 [.lst (.st .shape) a none, .lst (.st .shape) b none, .fn 26 []] [] (.ret (.bool (eqL a b))) :=
  fwp_sound (C := ⟨tbl, specL [(26, p2 (.st .shape) (.st .shape) fun a b => ⟨some (sz a ≤ n), none, .bool (eqS a b), []⟩)], fun _ => false, fun _ => []⟩) (ann := ⟨[(4, ⟨Nat, fun k => k ≤ a.length ∧ a.length = b.length ∧ eqL a b = eqL (a.drop k) (b.drop k), fun k => [(17, .int .i64 k)], fun _ => [], fun k => a.length - k⟩)], []⟩) mixed tblOK (specL_cons (hE) (specL_nil)) Try.func40 (Eq.mpr (by kernel_rfl) (vc_iEqualFunc n a b ha hb hn))
theorem en_iequal : Enters Try.prog 26 := Enters.mk' Try.func26 (by kernel_rfl)
theorem meets_iequal (n : Nat) (a b : Shape) (hn : sz a ≤ n + 1) (hL : PatOK Try.prog 40 (pff (.lst (.st .shape)) (.lst (.st .shape)) 26 fun a b => ⟨some (szL a ≤ n), none, .bool (eqL a b), []⟩)) : Meets Try.prog 26 [.st .shape a, .st .shape b] [] (.ret (.bool (eqS a b))) :=
  fwp_sound (C := ⟨tbl, specL [(39, p2 (.lst .str) (.lst .str) fun a b => .ret (.bool (decide (a = b)))), (40, pff (.lst (.st .shape)) (.lst (.st .shape)) 26 fun a b => ⟨some (szL a ≤ n), none, .bool (eqL a b), []⟩)], fun _ => false, fun _ => []⟩) (ann := ⟨[], []⟩) mixed tblOK (specL_cons pat_SEqual (specL_cons (hL) (specL_nil))) Try.func26 (Eq.mpr (by kernel_rfl) (vc_iequal n a b hn))
theorem pat_iequal : ∀ n : Nat, PatOK Try.prog 26 (p2 (.st .shape) (.st .shape) fun a b => ⟨some (sz a ≤ n), none, .bool (eqS a b), []⟩) := by
  intro n
  induction n with
  | zero => exact p2_ok en_iequal fun a b _ _ ho => absurd (ho _ rfl) (by have := sz_pos a; omega)
  | succ n ih => exact p2_ok en_iequal fun a b _ _ ho => meets_iequal n a b (ho _ rfl) (pff_ok en_iEqualFunc fun a b ha hb ho => meets_iEqualFunc n a b ha hb (ho _ rfl) ih)
theorem en_item : Enters Try.prog 16 := Enters.mk' Try.func16 (by kernel_rfl)
theorem meets_item (x : AL.Item) (hx : Wf (.st .item) x)  : Meets Try.prog 16 [.st .item x] [] (.ret (.bool (itemF x))) :=
  fwp_sound (C := ⟨tbl, specL [(24, p2 (.lst .str) .str fun a v => .ret (.bool (decide (v ∈ a)))), (25, p1 .str fun s => .ret (.bool (upperF s))), (27, p1 .str fun s => .ret (.bool (nameF s))), (26, p2 (.st .shape) (.st .shape) fun a b => ⟨some (sz a ≤ sz x.shape), none, .bool (eqS a b), []⟩), (28, p1 (.st .shape) fun s => .ret (.bool (closedS s))), (29, p1 (.st .shape) fun s => .ret (.st .shape (sortS' s)))], fun _ => false, fun _ => []⟩) (ann := ⟨[], []⟩) mixed tblOK (specL_cons pat_SContains (specL_cons pat_Upper (specL_cons pat_Name (specL_cons (pat_iequal (sz x.shape)) (specL_cons pat_Closed (specL_cons pat_Sort (specL_nil))))))) Try.func16 (Eq.mpr (by kernel_rfl) (vc_item x hx))
theorem pat_item : PatOK Try.prog 16 (p1 (.st .item) fun x => .ret (.bool (itemF x))) :=
  p1_ok en_item fun x hx _ => meets_item x hx
theorem en_iCheck : Enters Try.prog 11 := Enters.mk' Try.func11 (by kernel_rfl)
theorem meets_iCheck (l : List AL.Item) (hl : Wf (.lst (.st .item)) l)  : Meets Try.prog 11 [.lst (.st .item) l none] [] (.ret (.int .i64 (ifaceF l))) :=
  fwp_sound (C := ⟨tbl, specL [(16, p1 (.st .item) fun x => .ret (.bool (itemF x)))], fun _ => false, fun _ => []⟩) (ann := ⟨[(4, ⟨Nat, fun k => k ≤ l.length ∧ l.length ≤ 60 ∧ ifaceGo l none = ifaceGo (l.drop k) (if k = 0 then none else some (l.getD (k - 1) (dfl (.st .item))).name), fun k => [(10, .int .i64 k)], fun _ => [], fun k => l.length - k⟩)], []⟩) mixed tblOK (specL_cons pat_item (specL_nil)) Try.func11 (Eq.mpr (by kernel_rfl) (vc_iCheck l hl))
theorem pat_iCheck : PatOK Try.prog 11 (p1 (.lst (.st .item)) fun l => .ret (.int .i64 (ifaceF l))) :=
  p1_ok en_iCheck fun l hl _ => meets_iCheck l hl
theorem en_Size : Enters Try.prog 17 := Enters.mk' Try.func17 (by kernel_rfl)
theorem meets_Size (n : Nat) (s : AL.Shape) (m : Int) (hs : Wf (.st .shape) s) (ho : sz s ≤ n + 1 ∧ 0 ≤ m ∧ m ≤ 1000000) (hA : PatOK Try.prog 17 (p2 (.st .shape) (.int .i64) fun s m => ⟨some (sz s ≤ n ∧ 0 ≤ m ∧ m ≤ 1000000), none, .int .i64 (sizeF s m), []⟩)) : Meets Try.prog 17 [.st .shape s, .int .i64 m] [] (.ret (.int .i64 (sizeF s m))) :=
  fwp_sound (C := ⟨tbl, specL [(17, p2 (.st .shape) (.int .i64) fun s m => ⟨some (sz s ≤ n ∧ 0 ≤ m ∧ m ≤ 1000000), none, .int .i64 (sizeF s m), []⟩)], fun _ => false, fun _ => []⟩) (ann := ⟨[(3, ⟨Nat × Int, fun x => x.1 ≤ s.parts.length ∧ 1 ≤ x.2 ∧ x.2 ≤ m + 1 ∧ sizeL (s.parts.drop x.1) x.2 m = sizeF s m, fun x => [(5, .int .i64 x.2), (6, .int .i64 x.1)], fun _ => [], fun x => s.parts.length - x.1⟩)], []⟩) mixed tblOK (specL_cons (hA) (specL_nil)) Try.func17 (Eq.mpr (by kernel_rfl) (vc_Size n s m hs ho))
theorem pat_Size : ∀ n : Nat, PatOK Try.prog 17 (p2 (.st .shape) (.int .i64) fun s m => ⟨some (sz s ≤ n ∧ 0 ≤ m ∧ m ≤ 1000000), none, .int .i64 (sizeF s m), []⟩) := by
  intro n
  induction n with
  | zero => exact p2_ok en_Size fun a m _ _ ho => absurd (ho _ rfl).1 (by have := sz_pos a; omega)
  | succ n ih => exact p2_ok en_Size fun a m ha _ ho => meets_Size n a m ha (ho _ rfl) ih
theorem en_small17 : Enters Try.prog 12 := Enters.mk' Try.func12 (by kernel_rfl)
theorem meets_small17 (l : List AL.Item) (N : Nat) (hl : Wf (.lst (.st .item)) l) (hN : ∀ x ∈ l, sz x.shape ≤ N)  : Meets Try.prog 12 [.lst (.st .item) l none] [] (.ret (.bool (smallF l))) :=
  fwp_sound (C := ⟨tbl, specL [(17, p2 (.st .shape) (.int .i64) fun s m => ⟨some (sz s ≤ N ∧ 0 ≤ m ∧ m ≤ 1000000), none, .int .i64 (sizeF s m), []⟩)], fun _ => false, fun _ => []⟩) (ann := ⟨[(3, ⟨Nat × Int, fun x => x.1 ≤ l.length ∧ 0 ≤ x.2 ∧ x.2 ≤ 6000 ∧ smallGo (l.drop x.1) x.2 = smallF l, fun x => [(3, .int .i64 x.2), (4, .int .i64 x.1)], fun _ => [], fun x => l.length - x.1⟩)], []⟩) mixed tblOK (specL_cons (pat_Size N) (specL_nil)) Try.func12 (Eq.mpr (by kernel_rfl) (vc_small17 l N hl hN))
theorem pat_small17 : PatOK Try.prog 12 (p1 (.lst (.st .item)) fun l => .ret (.bool (smallF l))) :=
  p1_ok en_small17 fun l hl _ => meets_small17 l (szI l) hl (szI_le l)
theorem en_DifferSelf : Enters Try.prog 4 := Enters.mk' Try.func4 (by kernel_rfl)
theorem meets_DifferSelf (a b : List AL.Item) (ha : Wf (.lst (.st .item)) a) (hb : Wf (.lst (.st .item)) b)  : Meets Try.prog 4 [.lst (.st .item) a none, .lst (.st .item) b none] [] (.ret (.bool true)) :=
  fwp_sound (C := ⟨tbl, specL [(11, p1 (.lst (.st .item)) fun l => .ret (.int .i64 (ifaceF l))), (12, p1 (.lst (.st .item)) fun l => .ret (.bool (smallF l))), (6, p0 (.ret (.bool true))), (13, p2 (.lst (.st .item)) (.lst (.st .item)) fun old now => ⟨some (old.length + now.length ≤ 1000000), none, .lst (.st .change) (diffF old now) none, []⟩)], fun _ => false, fun _ => []⟩) (ann := ⟨[(9, ⟨Nat, fun k => k ≤ (diffF a b).length, fun k => [(7, .int .i64 k)], fun _ => [], fun k => (diffF a b).length - k⟩)], []⟩) mixed tblOK (specL_cons pat_iCheck (specL_cons pat_small17 (specL_cons pat_awake (specL_cons pat_Diff (specL_nil))))) Try.func4 (Eq.mpr (by kernel_rfl) (vc_DifferSelf a b ha hb))
theorem en_DifferChain : Enters Try.prog 5 := Enters.mk' Try.func5 (by kernel_rfl)
theorem meets_DifferChain (a b c : List AL.Item) (ha : Wf (.lst (.st .item)) a) (hb : Wf (.lst (.st .item)) b) (hc : Wf (.lst (.st .item)) c)  : Meets Try.prog 5 [.lst (.st .item) a none, .lst (.st .item) b none, .lst (.st .item) c none] [] (.ret (.bool true)) :=
  fwp_sound (C := ⟨tbl, specL [(11, p1 (.lst (.st .item)) fun l => .ret (.int .i64 (ifaceF l))), (12, p1 (.lst (.st .item)) fun l => .ret (.bool (smallF l))), (6, p0 (.ret (.bool true))), (13, p2 (.lst (.st .item)) (.lst (.st .item)) fun old now => ⟨some (old.length + now.length ≤ 1000000), none, .lst (.st .change) (diffF old now) none, []⟩), (7, p1 (.lst (.st .change)) fun l => .ret (.int .i64 (classF l)))], fun _ => false, fun _ => []⟩) (ann := ⟨[], []⟩) mixed tblOK (specL_cons pat_iCheck (specL_cons pat_small17 (specL_cons pat_awake (specL_cons pat_Diff (specL_cons pat_Class (specL_nil)))))) Try.func5 (Eq.mpr (by kernel_rfl) (vc_DifferChain a b c ha hb hc))
end Go.AL.Seat
