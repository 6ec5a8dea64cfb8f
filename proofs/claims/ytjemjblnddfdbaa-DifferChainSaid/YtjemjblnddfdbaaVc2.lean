/-
  What the functions' conditions say, proved. No condition.
-/
import Derived.Test.YtjemjblnddfdbaaAlR
import Derived.Test.YtjemjblnddfdbaaAlY
import Derived.Test.YtjemjblnddfdbaaPg
import Derived.Test.YtjemjblnddfdbaaPi
import Derived.Test.YtjemjblnddfdbaaPj
import Derived.Test.YtjemjblnddfdbaaPk
set_option linter.unusedVariables false
set_option linter.unusedSimpArgs false
set_option linter.unnecessarySimpa false
set_option linter.deprecated false
open Go Go.AL Go.Pd
namespace Go.AL.Seat
set_option linter.unusedVariables false
set_option maxRecDepth 100000
theorem vc_Show (l : List Change) (hl : Wf (.lst (.st .change)) l) (hb : showN l ≤ 1000000) :
    (∃ (x : Nat × Str),
        (x.fst ≤ List.length l ∧
            showGo (List.drop x.fst l) x.snd = showF l ∧ List.length x.snd + showN (List.drop x.fst l) ≤ (1000000 : Nat)) ∧
          (0 : Int) = (↑x.fst : Int) ∧
            l = l ∧
              noOf UInt8 = noOf UInt8 ∧ l = l ∧ (↑(List.length l) : Int) = (↑(List.length l) : Int) ∧ [] = x.snd ∧ True) ∧
      ∀ (x : Nat × Str),
        x.fst ≤ List.length l ∧
            showGo (List.drop x.fst l) x.snd = showF l ∧ List.length x.snd + showN (List.drop x.fst l) ≤ (1000000 : Nat) →
          if decide ((↑x.fst : Int) < (↑(List.length l) : Int)) = true then
            ((0 : Int) ≤ (↑x.fst : Int) ∧ (↑x.fst : Int) < (↑(List.length l) : Int)) ∧
              if decide ((1 : Int) ≤ (List.getD l (Int.toNat (↑x.fst : Int)) (dfl (Ty.st SN.change))).kind) = true then
                if decide ((List.getD l (Int.toNat (↑x.fst : Int)) (dfl (Ty.st SN.change))).kind ≤ (5 : Int)) = true then
                  inR IntKind.i64 ((List.getD l (Int.toNat (↑x.fst : Int)) (dfl (Ty.st SN.change))).kind - (1 : Int)) ∧
                    ((0 : Int) ≤ (List.getD l (Int.toNat (↑x.fst : Int)) (dfl (Ty.st SN.change))).kind - (1 : Int) ∧
                        (List.getD l (Int.toNat (↑x.fst : Int)) (dfl (Ty.st SN.change))).kind - (1 : Int) ≤
                            (List.getD l (Int.toNat (↑x.fst : Int)) (dfl (Ty.st SN.change))).kind ∧
                          (List.getD l (Int.toNat (↑x.fst : Int)) (dfl (Ty.st SN.change))).kind ≤
                            (↑(List.length [(43 : UInt8), (45 : UInt8), (33 : UInt8), (126 : UInt8), (60 : UInt8)]) :
                              Int)) ∧
                      List.length
                              (List.drop
                                (Int.toNat
                                  ((List.getD l (Int.toNat (↑x.fst : Int)) (dfl (Ty.st SN.change))).kind - (1 : Int)))
                                (List.take (Int.toNat (List.getD l (Int.toNat (↑x.fst : Int)) (dfl (Ty.st SN.change))).kind)
                                  [(43 : UInt8), (45 : UInt8), (33 : UInt8), (126 : UInt8), (60 : UInt8)])) +
                            List.length [(32 : UInt8)] ≤
                          (9223372036854775807 : Nat) ∧
                        List.length
                                (List.drop
                                    (Int.toNat
                                      ((List.getD l (Int.toNat (↑x.fst : Int)) (dfl (Ty.st SN.change))).kind - (1 : Int)))
                                    (List.take
                                      (Int.toNat (List.getD l (Int.toNat (↑x.fst : Int)) (dfl (Ty.st SN.change))).kind)
                                      [(43 : UInt8), (45 : UInt8), (33 : UInt8), (126 : UInt8), (60 : UInt8)]) ++
                                  [(32 : UInt8)]) +
                              List.length (List.getD l (Int.toNat (↑x.fst : Int)) (dfl (Ty.st SN.change))).name ≤
                            (9223372036854775807 : Nat) ∧
                          List.length
                                  (List.drop
                                        (Int.toNat
                                          ((List.getD l (Int.toNat (↑x.fst : Int)) (dfl (Ty.st SN.change))).kind -
                                            (1 : Int)))
                                        (List.take
                                          (Int.toNat (List.getD l (Int.toNat (↑x.fst : Int)) (dfl (Ty.st SN.change))).kind)
                                          [(43 : UInt8), (45 : UInt8), (33 : UInt8), (126 : UInt8), (60 : UInt8)]) ++
                                      [(32 : UInt8)] ++
                                    (List.getD l (Int.toNat (↑x.fst : Int)) (dfl (Ty.st SN.change))).name) +
                                List.length [(10 : UInt8)] ≤
                              (9223372036854775807 : Nat) ∧
                            List.length x.snd +
                                  List.length
                                    (List.drop
                                            (Int.toNat
                                              ((List.getD l (Int.toNat (↑x.fst : Int)) (dfl (Ty.st SN.change))).kind -
                                                (1 : Int)))
                                            (List.take
                                              (Int.toNat
                                                (List.getD l (Int.toNat (↑x.fst : Int)) (dfl (Ty.st SN.change))).kind)
                                              [(43 : UInt8), (45 : UInt8), (33 : UInt8), (126 : UInt8), (60 : UInt8)]) ++
                                          [(32 : UInt8)] ++
                                        (List.getD l (Int.toNat (↑x.fst : Int)) (dfl (Ty.st SN.change))).name ++
                                      [(10 : UInt8)]) ≤
                                (140737488355328 : Nat) ∧
                              inR IntKind.i64 ((↑x.fst : Int) + (1 : Int)) ∧
                                ∃ (y : Nat × Str),
                                  (y.fst ≤ List.length l ∧
                                      showGo (List.drop y.fst l) y.snd = showF l ∧
                                        List.length y.snd + showN (List.drop y.fst l) ≤ (1000000 : Nat)) ∧
                                    List.length l - y.fst < List.length l - x.fst ∧
                                      (↑x.fst : Int) + (1 : Int) = (↑y.fst : Int) ∧
                                        l = l ∧
                                          noOf UInt8 = noOf UInt8 ∧
                                            l = l ∧
                                              (↑(List.length l) : Int) = (↑(List.length l) : Int) ∧
                                                x.snd ++
                                                      (List.drop
                                                              (Int.toNat
                                                                ((List.getD l (Int.toNat (↑x.fst : Int))
                                                                      (dfl (Ty.st SN.change))).kind -
                                                                  (1 : Int)))
                                                              (List.take
                                                                (Int.toNat
                                                                  (List.getD l (Int.toNat (↑x.fst : Int))
                                                                      (dfl (Ty.st SN.change))).kind)
                                                                [(43 : UInt8), (45 : UInt8), (33 : UInt8), (126 : UInt8),
                                                                  (60 : UInt8)]) ++
                                                            [(32 : UInt8)] ++
                                                          (List.getD l (Int.toNat (↑x.fst : Int))
                                                              (dfl (Ty.st SN.change))).name ++
                                                        [(10 : UInt8)]) =
                                                    y.snd ∧
                                                  True
                else
                  List.length [(63 : UInt8)] + List.length [(32 : UInt8)] ≤ (9223372036854775807 : Nat) ∧
                    List.length ([(63 : UInt8)] ++ [(32 : UInt8)]) +
                          List.length (List.getD l (Int.toNat (↑x.fst : Int)) (dfl (Ty.st SN.change))).name ≤
                        (9223372036854775807 : Nat) ∧
                      List.length
                              ([(63 : UInt8)] ++ [(32 : UInt8)] ++
                                (List.getD l (Int.toNat (↑x.fst : Int)) (dfl (Ty.st SN.change))).name) +
                            List.length [(10 : UInt8)] ≤
                          (9223372036854775807 : Nat) ∧
                        List.length x.snd +
                              List.length
                                ([(63 : UInt8)] ++ [(32 : UInt8)] ++
                                    (List.getD l (Int.toNat (↑x.fst : Int)) (dfl (Ty.st SN.change))).name ++
                                  [(10 : UInt8)]) ≤
                            (140737488355328 : Nat) ∧
                          inR IntKind.i64 ((↑x.fst : Int) + (1 : Int)) ∧
                            ∃ (y : Nat × Str),
                              (y.fst ≤ List.length l ∧
                                  showGo (List.drop y.fst l) y.snd = showF l ∧
                                    List.length y.snd + showN (List.drop y.fst l) ≤ (1000000 : Nat)) ∧
                                List.length l - y.fst < List.length l - x.fst ∧
                                  (↑x.fst : Int) + (1 : Int) = (↑y.fst : Int) ∧
                                    l = l ∧
                                      noOf UInt8 = noOf UInt8 ∧
                                        l = l ∧
                                          (↑(List.length l) : Int) = (↑(List.length l) : Int) ∧
                                            x.snd ++
                                                  ([(63 : UInt8)] ++ [(32 : UInt8)] ++
                                                      (List.getD l (Int.toNat (↑x.fst : Int))
                                                          (dfl (Ty.st SN.change))).name ++
                                                    [(10 : UInt8)]) =
                                                y.snd ∧
                                              True
              else
                List.length [(63 : UInt8)] + List.length [(32 : UInt8)] ≤ (9223372036854775807 : Nat) ∧
                  List.length ([(63 : UInt8)] ++ [(32 : UInt8)]) +
                        List.length (List.getD l (Int.toNat (↑x.fst : Int)) (dfl (Ty.st SN.change))).name ≤
                      (9223372036854775807 : Nat) ∧
                    List.length
                            ([(63 : UInt8)] ++ [(32 : UInt8)] ++
                              (List.getD l (Int.toNat (↑x.fst : Int)) (dfl (Ty.st SN.change))).name) +
                          List.length [(10 : UInt8)] ≤
                        (9223372036854775807 : Nat) ∧
                      List.length x.snd +
                            List.length
                              ([(63 : UInt8)] ++ [(32 : UInt8)] ++
                                  (List.getD l (Int.toNat (↑x.fst : Int)) (dfl (Ty.st SN.change))).name ++
                                [(10 : UInt8)]) ≤
                          (140737488355328 : Nat) ∧
                        inR IntKind.i64 ((↑x.fst : Int) + (1 : Int)) ∧
                          ∃ (y : Nat × Str),
                            (y.fst ≤ List.length l ∧
                                showGo (List.drop y.fst l) y.snd = showF l ∧
                                  List.length y.snd + showN (List.drop y.fst l) ≤ (1000000 : Nat)) ∧
                              List.length l - y.fst < List.length l - x.fst ∧
                                (↑x.fst : Int) + (1 : Int) = (↑y.fst : Int) ∧
                                  l = l ∧
                                    noOf UInt8 = noOf UInt8 ∧
                                      l = l ∧
                                        (↑(List.length l) : Int) = (↑(List.length l) : Int) ∧
                                          x.snd ++
                                                ([(63 : UInt8)] ++ [(32 : UInt8)] ++
                                                    (List.getD l (Int.toNat (↑x.fst : Int)) (dfl (Ty.st SN.change))).name ++
                                                  [(10 : UInt8)]) =
                                              y.snd ∧
                                            True
          else List.length x.snd ≤ maxN ∧ True ∧ x.snd = showF l ∧ True := by
  have ln := hl.len
  simp only [Int.toNat_natCast, eq_self, true_and, and_true]
  refine ⟨⟨(0, []), ⟨Nat.zero_le _, rfl, by simpa using hb⟩, rfl, rfl⟩, ?_⟩
  rintro ⟨k, o⟩ ⟨h1, h2, h3⟩
  simp only at h1 h2 h3 ⊢
  refine ite_intro (fun h => ?_) (fun h => ?_)
  · replace h := of_decide_eq_true h
    have hk : k < l.length := by omega
    rw [drop_getD l k (dfl (.st .change)) hk] at h2 h3
    simp only [showGo, showN] at h2 h3
    have fin : ∀ t : Str, t = signF (l.getD k (dfl (.st .change))).kind → t.length = 1 → (t.length + [(32 : UInt8)].length ≤ 9223372036854775807 ∧ (t ++ [(32 : UInt8)]).length + (l.getD k (dfl (.st .change))).name.length ≤ 9223372036854775807 ∧ (t ++ [(32 : UInt8)] ++ (l.getD k (dfl (.st .change))).name).length + [(10 : UInt8)].length ≤ 9223372036854775807 ∧
        o.length + (t ++ [(32 : UInt8)] ++ (l.getD k (dfl (.st .change))).name ++ [(10 : UInt8)]).length ≤ 140737488355328 ∧ inR IntKind.i64 ((k : Int) + 1) ∧
        ∃ y : Nat × Str, (y.fst ≤ l.length ∧ showGo (l.drop y.fst) y.snd = showF l ∧ y.snd.length + showN (l.drop y.fst) ≤ 1000000) ∧ l.length - y.fst < l.length - k ∧ (k : Int) + 1 = (y.fst : Int) ∧ o ++ (t ++ [(32 : UInt8)] ++ (l.getD k (dfl (.st .change))).name ++ [(10 : UInt8)]) = y.snd) := by
      rintro t rfl ht
      have e1 : (signF (l.getD k (dfl (.st .change))).kind ++ [(32 : UInt8)] ++ (l.getD k (dfl (.st .change))).name ++ [(10 : UInt8)]).length = (l.getD k (dfl (.st .change))).name.length + 3 := by simp only [List.length_append, List.length_singleton, ht]; omega
      refine ⟨by simp only [List.length_singleton]; omega, by simp only [List.length_append, List.length_singleton]; omega, by simp only [List.length_append, List.length_singleton]; omega, by rw [e1]; omega, inR_len hk ln, (k + 1, _), ⟨by omega, h2, ?_⟩, by simp only; omega, rfl, rfl⟩
      simp only
      rw [List.length_append, e1]
      omega
    have hq : ∀ h : ¬ (1 ≤ (l.getD k (dfl (.st .change))).kind ∧ (l.getD k (dfl (.st .change))).kind ≤ 5), [(63 : UInt8)] = signF (l.getD k (dfl (.st .change))).kind := fun h => by unfold signF; rw [if_neg h]
    refine ⟨by omega, ite_intro (fun a1 => ?_) (fun a1 => ?_)⟩
    · replace a1 := of_decide_eq_true a1
      refine ite_intro (fun a2 => ?_) (fun a2 => ?_)
      · replace a2 := of_decide_eq_true a2
        have e2 : (signs.take (l.getD k (dfl (.st .change))).kind.toNat).drop ((l.getD k (dfl (.st .change))).kind - 1).toNat = signF (l.getD k (dfl (.st .change))).kind := by unfold signF; rw [if_pos ⟨a1, a2⟩]
        refine ⟨inR_i64 (by omega) (by omega), ⟨by omega, by omega, by simp only [List.length_cons, List.length_nil]; omega⟩, ?_⟩
        refine fin _ e2 ?_
        show ((signs.take (l.getD k (dfl (.st .change))).kind.toNat).drop ((l.getD k (dfl (.st .change))).kind - 1).toNat).length = 1
        have hsl : signs.length = 5 := rfl
        rw [List.length_drop, List.length_take, hsl]
        omega
      · exact fin _ (hq fun e => a2 (decide_eq_true e.2)) rfl
    · exact fin _ (hq fun e => a1 (decide_eq_true e.1)) rfl
  · replace h : ¬ ((k : Int) < (l.length : Int)) := fun e => h (decide_eq_true e)
    have e : k = l.length := by omega
    subst e
    rw [List.drop_length] at h2 h3
    simp only [showGo, showN] at h2 h3
    refine ⟨?_, h2⟩
    first | omega | (unfold maxN; omega)
theorem vc_rClass (l : List Change) (hl : Wf (.lst (.st .change)) l) :
    (∃ (x : Nat × Int),
        (x.fst ≤ List.length l ∧ classR (List.drop x.fst l) x.snd = classF l) ∧
          (0 : Int) = x.snd ∧ (0 : Int) = (↑x.fst : Int) ∧ l = l ∧ (0 : Int) = (0 : Int) ∧ True) ∧
      ∀ (x : Nat × Int),
        x.fst ≤ List.length l ∧ classR (List.drop x.fst l) x.snd = classF l →
          if decide ((↑x.fst : Int) < (↑(List.length l) : Int)) = true then
            ((0 : Int) ≤ (↑x.fst : Int) ∧ (↑x.fst : Int) < (↑(List.length l) : Int)) ∧
              if decide ((List.getD l (Int.toNat (↑x.fst : Int)) (dfl (Ty.st SN.change))).kind = (2 : Int)) = true then
                if decide ((List.getD l (Int.toNat (↑x.fst : Int)) (dfl (Ty.st SN.change))).kind = (1 : Int)) = true then
                  inR IntKind.i64 ((↑x.fst : Int) + (1 : Int)) ∧
                    ∃ (y : Nat × Int),
                      (y.fst ≤ List.length l ∧ classR (List.drop y.fst l) y.snd = classF l) ∧
                        List.length l - y.fst < List.length l - x.fst ∧
                          (2 : Int) = y.snd ∧
                            (↑x.fst : Int) + (1 : Int) = (↑y.fst : Int) ∧ l = l ∧ (0 : Int) = (0 : Int) ∧ True
                else
                  if decide ((List.getD l (Int.toNat (↑x.fst : Int)) (dfl (Ty.st SN.change))).kind = (5 : Int)) = true then
                    inR IntKind.i64 ((↑x.fst : Int) + (1 : Int)) ∧
                      ∃ (y : Nat × Int),
                        (y.fst ≤ List.length l ∧ classR (List.drop y.fst l) y.snd = classF l) ∧
                          List.length l - y.fst < List.length l - x.fst ∧
                            (2 : Int) = y.snd ∧
                              (↑x.fst : Int) + (1 : Int) = (↑y.fst : Int) ∧ l = l ∧ (0 : Int) = (0 : Int) ∧ True
                  else
                    inR IntKind.i64 ((↑x.fst : Int) + (1 : Int)) ∧
                      ∃ (y : Nat × Int),
                        (y.fst ≤ List.length l ∧ classR (List.drop y.fst l) y.snd = classF l) ∧
                          List.length l - y.fst < List.length l - x.fst ∧
                            (2 : Int) = y.snd ∧
                              (↑x.fst : Int) + (1 : Int) = (↑y.fst : Int) ∧ l = l ∧ (0 : Int) = (0 : Int) ∧ True
              else
                if decide ((List.getD l (Int.toNat (↑x.fst : Int)) (dfl (Ty.st SN.change))).kind = (3 : Int)) = true then
                  if decide ((List.getD l (Int.toNat (↑x.fst : Int)) (dfl (Ty.st SN.change))).kind = (1 : Int)) = true then
                    inR IntKind.i64 ((↑x.fst : Int) + (1 : Int)) ∧
                      ∃ (y : Nat × Int),
                        (y.fst ≤ List.length l ∧ classR (List.drop y.fst l) y.snd = classF l) ∧
                          List.length l - y.fst < List.length l - x.fst ∧
                            (2 : Int) = y.snd ∧
                              (↑x.fst : Int) + (1 : Int) = (↑y.fst : Int) ∧ l = l ∧ (0 : Int) = (0 : Int) ∧ True
                  else
                    if
                        decide ((List.getD l (Int.toNat (↑x.fst : Int)) (dfl (Ty.st SN.change))).kind = (5 : Int)) =
                          true then
                      inR IntKind.i64 ((↑x.fst : Int) + (1 : Int)) ∧
                        ∃ (y : Nat × Int),
                          (y.fst ≤ List.length l ∧ classR (List.drop y.fst l) y.snd = classF l) ∧
                            List.length l - y.fst < List.length l - x.fst ∧
                              (2 : Int) = y.snd ∧
                                (↑x.fst : Int) + (1 : Int) = (↑y.fst : Int) ∧ l = l ∧ (0 : Int) = (0 : Int) ∧ True
                    else
                      inR IntKind.i64 ((↑x.fst : Int) + (1 : Int)) ∧
                        ∃ (y : Nat × Int),
                          (y.fst ≤ List.length l ∧ classR (List.drop y.fst l) y.snd = classF l) ∧
                            List.length l - y.fst < List.length l - x.fst ∧
                              (2 : Int) = y.snd ∧
                                (↑x.fst : Int) + (1 : Int) = (↑y.fst : Int) ∧ l = l ∧ (0 : Int) = (0 : Int) ∧ True
                else
                  if decide ((List.getD l (Int.toNat (↑x.fst : Int)) (dfl (Ty.st SN.change))).kind = (4 : Int)) = true then
                    if
                        decide ((List.getD l (Int.toNat (↑x.fst : Int)) (dfl (Ty.st SN.change))).kind = (1 : Int)) =
                          true then
                      inR IntKind.i64 ((↑x.fst : Int) + (1 : Int)) ∧
                        ∃ (y : Nat × Int),
                          (y.fst ≤ List.length l ∧ classR (List.drop y.fst l) y.snd = classF l) ∧
                            List.length l - y.fst < List.length l - x.fst ∧
                              (2 : Int) = y.snd ∧
                                (↑x.fst : Int) + (1 : Int) = (↑y.fst : Int) ∧ l = l ∧ (0 : Int) = (0 : Int) ∧ True
                    else
                      if
                          decide ((List.getD l (Int.toNat (↑x.fst : Int)) (dfl (Ty.st SN.change))).kind = (5 : Int)) =
                            true then
                        inR IntKind.i64 ((↑x.fst : Int) + (1 : Int)) ∧
                          ∃ (y : Nat × Int),
                            (y.fst ≤ List.length l ∧ classR (List.drop y.fst l) y.snd = classF l) ∧
                              List.length l - y.fst < List.length l - x.fst ∧
                                (2 : Int) = y.snd ∧
                                  (↑x.fst : Int) + (1 : Int) = (↑y.fst : Int) ∧ l = l ∧ (0 : Int) = (0 : Int) ∧ True
                      else
                        inR IntKind.i64 ((↑x.fst : Int) + (1 : Int)) ∧
                          ∃ (y : Nat × Int),
                            (y.fst ≤ List.length l ∧ classR (List.drop y.fst l) y.snd = classF l) ∧
                              List.length l - y.fst < List.length l - x.fst ∧
                                (2 : Int) = y.snd ∧
                                  (↑x.fst : Int) + (1 : Int) = (↑y.fst : Int) ∧ l = l ∧ (0 : Int) = (0 : Int) ∧ True
                  else
                    if
                        decide ((List.getD l (Int.toNat (↑x.fst : Int)) (dfl (Ty.st SN.change))).kind = (1 : Int)) =
                          true then
                      if decide (x.snd = (0 : Int)) = true then
                        inR IntKind.i64 ((↑x.fst : Int) + (1 : Int)) ∧
                          ∃ (y : Nat × Int),
                            (y.fst ≤ List.length l ∧ classR (List.drop y.fst l) y.snd = classF l) ∧
                              List.length l - y.fst < List.length l - x.fst ∧
                                (1 : Int) = y.snd ∧
                                  (↑x.fst : Int) + (1 : Int) = (↑y.fst : Int) ∧ l = l ∧ (0 : Int) = (0 : Int) ∧ True
                      else
                        inR IntKind.i64 ((↑x.fst : Int) + (1 : Int)) ∧
                          ∃ (y : Nat × Int),
                            (y.fst ≤ List.length l ∧ classR (List.drop y.fst l) y.snd = classF l) ∧
                              List.length l - y.fst < List.length l - x.fst ∧
                                x.snd = y.snd ∧
                                  (↑x.fst : Int) + (1 : Int) = (↑y.fst : Int) ∧ l = l ∧ (0 : Int) = (0 : Int) ∧ True
                    else
                      if
                          decide ((List.getD l (Int.toNat (↑x.fst : Int)) (dfl (Ty.st SN.change))).kind = (5 : Int)) =
                            true then
                        if decide (x.snd = (0 : Int)) = true then
                          inR IntKind.i64 ((↑x.fst : Int) + (1 : Int)) ∧
                            ∃ (y : Nat × Int),
                              (y.fst ≤ List.length l ∧ classR (List.drop y.fst l) y.snd = classF l) ∧
                                List.length l - y.fst < List.length l - x.fst ∧
                                  (1 : Int) = y.snd ∧
                                    (↑x.fst : Int) + (1 : Int) = (↑y.fst : Int) ∧ l = l ∧ (0 : Int) = (0 : Int) ∧ True
                        else
                          inR IntKind.i64 ((↑x.fst : Int) + (1 : Int)) ∧
                            ∃ (y : Nat × Int),
                              (y.fst ≤ List.length l ∧ classR (List.drop y.fst l) y.snd = classF l) ∧
                                List.length l - y.fst < List.length l - x.fst ∧
                                  x.snd = y.snd ∧
                                    (↑x.fst : Int) + (1 : Int) = (↑y.fst : Int) ∧ l = l ∧ (0 : Int) = (0 : Int) ∧ True
                      else
                        inR IntKind.i64 ((↑x.fst : Int) + (1 : Int)) ∧
                          ∃ (y : Nat × Int),
                            (y.fst ≤ List.length l ∧ classR (List.drop y.fst l) y.snd = classF l) ∧
                              List.length l - y.fst < List.length l - x.fst ∧
                                x.snd = y.snd ∧
                                  (↑x.fst : Int) + (1 : Int) = (↑y.fst : Int) ∧ l = l ∧ (0 : Int) = (0 : Int) ∧ True
          else True ∧ x.snd = classF l ∧ True := by
  have ln := hl.len
  simp only [Int.toNat_natCast, eq_self, true_and, and_true]
  refine ⟨⟨(0, 0), ⟨Nat.zero_le _, classR_F l⟩, rfl, rfl⟩, ?_⟩
  rintro ⟨k, c⟩ ⟨h1, h2⟩
  simp only at h1 h2 ⊢
  refine ite_intro (fun h => ?_) (fun h => ?_)
  · replace h := of_decide_eq_true h
    have hk : k < l.length := by omega
    rw [drop_getD l k (dfl (.st .change)) hk] at h2
    simp only [classR] at h2
    have fin : ∀ d : Int, (if ((l.getD k (dfl (.st .change))).kind = 1 ∨ (l.getD k (dfl (.st .change))).kind = 5) ∧ (if (l.getD k (dfl (.st .change))).kind = 2 ∨ (l.getD k (dfl (.st .change))).kind = 3 ∨ (l.getD k (dfl (.st .change))).kind = 4 then (2 : Int) else c) = 0 then 1 else if (l.getD k (dfl (.st .change))).kind = 2 ∨ (l.getD k (dfl (.st .change))).kind = 3 ∨ (l.getD k (dfl (.st .change))).kind = 4 then 2 else c) = d →
        (inR IntKind.i64 ((k : Int) + 1) ∧ ∃ y : Nat × Int, (y.fst ≤ l.length ∧ classR (l.drop y.fst) y.snd = classF l) ∧ l.length - y.fst < l.length - k ∧ d = y.snd ∧ (k : Int) + 1 = (y.fst : Int)) := by
      intro d hd
      rw [hd] at h2
      exact ⟨inR_len hk ln, (k + 1, d), ⟨by omega, h2⟩, by simp only; omega, rfl, rfl⟩
    refine ⟨by omega, ?_⟩
    repeat' (refine ite_intro (fun _ => ?_) (fun _ => ?_))
    all_goals refine fin _ ?_
    all_goals simp_all
  · replace h : ¬ ((k : Int) < (l.length : Int)) := fun e => h (decide_eq_true e)
    have e : k = l.length := by omega
    subst e
    rw [List.drop_length] at h2
    exact h2
theorem vc_rShow (l : List Change) (hl : Wf (.lst (.st .change)) l) (hb : showN l ≤ 1000000) :
    (∃ (x : Nat × Str),
        (x.fst ≤ List.length l ∧
            showGo (List.drop x.fst l) x.snd = showF l ∧ List.length x.snd + showN (List.drop x.fst l) ≤ (1000000 : Nat)) ∧
          [] = x.snd ∧
            (0 : Int) = (↑x.fst : Int) ∧
              l = l ∧
                noOf UInt8 = noOf UInt8 ∧
                  [[(63 : UInt8)], [(43 : UInt8)], [(45 : UInt8)], [(33 : UInt8)], [(126 : UInt8)], [(60 : UInt8)]] =
                      [[(63 : UInt8)], [(43 : UInt8)], [(45 : UInt8)], [(33 : UInt8)], [(126 : UInt8)], [(60 : UInt8)]] ∧
                    List.length
                          [[(63 : UInt8)], [(43 : UInt8)], [(45 : UInt8)], [(33 : UInt8)], [(126 : UInt8)],
                            [(60 : UInt8)]] =
                        List.length
                          [[(63 : UInt8)], [(43 : UInt8)], [(45 : UInt8)], [(33 : UInt8)], [(126 : UInt8)],
                            [(60 : UInt8)]] ∧
                      True) ∧
      ∀ (x : Nat × Str),
        x.fst ≤ List.length l ∧
            showGo (List.drop x.fst l) x.snd = showF l ∧ List.length x.snd + showN (List.drop x.fst l) ≤ (1000000 : Nat) →
          if decide ((↑x.fst : Int) < (↑(List.length l) : Int)) = true then
            ((0 : Int) ≤ (↑x.fst : Int) ∧ (↑x.fst : Int) < (↑(List.length l) : Int)) ∧
              if decide ((List.getD l (Int.toNat (↑x.fst : Int)) (dfl (Ty.st SN.change))).kind < (1 : Int)) = true then
                ((0 : Int) ≤ (0 : Int) ∧
                    (0 : Int) <
                      (↑(List.length
                            [[(63 : UInt8)], [(43 : UInt8)], [(45 : UInt8)], [(33 : UInt8)], [(126 : UInt8)],
                              [(60 : UInt8)]]) :
                        Int)) ∧
                  List.length x.snd +
                        List.length
                          (List.getD
                            [[(63 : UInt8)], [(43 : UInt8)], [(45 : UInt8)], [(33 : UInt8)], [(126 : UInt8)],
                              [(60 : UInt8)]]
                            (Int.toNat (0 : Int)) (dfl Ty.str)) ≤
                      (9223372036854775807 : Nat) ∧
                    List.length
                            (x.snd ++
                              List.getD
                                [[(63 : UInt8)], [(43 : UInt8)], [(45 : UInt8)], [(33 : UInt8)], [(126 : UInt8)],
                                  [(60 : UInt8)]]
                                (Int.toNat (0 : Int)) (dfl Ty.str)) +
                          List.length [(32 : UInt8)] ≤
                        (9223372036854775807 : Nat) ∧
                      ((0 : Int) ≤ (↑x.fst : Int) ∧ (↑x.fst : Int) < (↑(List.length l) : Int)) ∧
                        List.length
                                (x.snd ++
                                    List.getD
                                      [[(63 : UInt8)], [(43 : UInt8)], [(45 : UInt8)], [(33 : UInt8)], [(126 : UInt8)],
                                        [(60 : UInt8)]]
                                      (Int.toNat (0 : Int)) (dfl Ty.str) ++
                                  [(32 : UInt8)]) +
                              List.length (List.getD l (Int.toNat (↑x.fst : Int)) (dfl (Ty.st SN.change))).name ≤
                            (9223372036854775807 : Nat) ∧
                          List.length
                                  (x.snd ++
                                        List.getD
                                          [[(63 : UInt8)], [(43 : UInt8)], [(45 : UInt8)], [(33 : UInt8)], [(126 : UInt8)],
                                            [(60 : UInt8)]]
                                          (Int.toNat (0 : Int)) (dfl Ty.str) ++
                                      [(32 : UInt8)] ++
                                    (List.getD l (Int.toNat (↑x.fst : Int)) (dfl (Ty.st SN.change))).name) +
                                List.length [(10 : UInt8)] ≤
                              (9223372036854775807 : Nat) ∧
                            inR IntKind.i64 ((↑x.fst : Int) + (1 : Int)) ∧
                              ∃ (y : Nat × Str),
                                (y.fst ≤ List.length l ∧
                                    showGo (List.drop y.fst l) y.snd = showF l ∧
                                      List.length y.snd + showN (List.drop y.fst l) ≤ (1000000 : Nat)) ∧
                                  List.length l - y.fst < List.length l - x.fst ∧
                                    x.snd ++
                                                List.getD
                                                  [[(63 : UInt8)], [(43 : UInt8)], [(45 : UInt8)], [(33 : UInt8)],
                                                    [(126 : UInt8)], [(60 : UInt8)]]
                                                  (Int.toNat (0 : Int)) (dfl Ty.str) ++
                                              [(32 : UInt8)] ++
                                            (List.getD l (Int.toNat (↑x.fst : Int)) (dfl (Ty.st SN.change))).name ++
                                          [(10 : UInt8)] =
                                        y.snd ∧
                                      (↑x.fst : Int) + (1 : Int) = (↑y.fst : Int) ∧
                                        l = l ∧
                                          noOf UInt8 = noOf UInt8 ∧
                                            [[(63 : UInt8)], [(43 : UInt8)], [(45 : UInt8)], [(33 : UInt8)],
                                                  [(126 : UInt8)], [(60 : UInt8)]] =
                                                [[(63 : UInt8)], [(43 : UInt8)], [(45 : UInt8)], [(33 : UInt8)],
                                                  [(126 : UInt8)], [(60 : UInt8)]] ∧
                                              List.length
                                                    [[(63 : UInt8)], [(43 : UInt8)], [(45 : UInt8)], [(33 : UInt8)],
                                                      [(126 : UInt8)], [(60 : UInt8)]] =
                                                  List.length
                                                    [[(63 : UInt8)], [(43 : UInt8)], [(45 : UInt8)], [(33 : UInt8)],
                                                      [(126 : UInt8)], [(60 : UInt8)]] ∧
                                                True
              else
                if decide ((5 : Int) < (List.getD l (Int.toNat (↑x.fst : Int)) (dfl (Ty.st SN.change))).kind) = true then
                  ((0 : Int) ≤ (0 : Int) ∧
                      (0 : Int) <
                        (↑(List.length
                              [[(63 : UInt8)], [(43 : UInt8)], [(45 : UInt8)], [(33 : UInt8)], [(126 : UInt8)],
                                [(60 : UInt8)]]) :
                          Int)) ∧
                    List.length x.snd +
                          List.length
                            (List.getD
                              [[(63 : UInt8)], [(43 : UInt8)], [(45 : UInt8)], [(33 : UInt8)], [(126 : UInt8)],
                                [(60 : UInt8)]]
                              (Int.toNat (0 : Int)) (dfl Ty.str)) ≤
                        (9223372036854775807 : Nat) ∧
                      List.length
                              (x.snd ++
                                List.getD
                                  [[(63 : UInt8)], [(43 : UInt8)], [(45 : UInt8)], [(33 : UInt8)], [(126 : UInt8)],
                                    [(60 : UInt8)]]
                                  (Int.toNat (0 : Int)) (dfl Ty.str)) +
                            List.length [(32 : UInt8)] ≤
                          (9223372036854775807 : Nat) ∧
                        ((0 : Int) ≤ (↑x.fst : Int) ∧ (↑x.fst : Int) < (↑(List.length l) : Int)) ∧
                          List.length
                                  (x.snd ++
                                      List.getD
                                        [[(63 : UInt8)], [(43 : UInt8)], [(45 : UInt8)], [(33 : UInt8)], [(126 : UInt8)],
                                          [(60 : UInt8)]]
                                        (Int.toNat (0 : Int)) (dfl Ty.str) ++
                                    [(32 : UInt8)]) +
                                List.length (List.getD l (Int.toNat (↑x.fst : Int)) (dfl (Ty.st SN.change))).name ≤
                              (9223372036854775807 : Nat) ∧
                            List.length
                                    (x.snd ++
                                          List.getD
                                            [[(63 : UInt8)], [(43 : UInt8)], [(45 : UInt8)], [(33 : UInt8)],
                                              [(126 : UInt8)], [(60 : UInt8)]]
                                            (Int.toNat (0 : Int)) (dfl Ty.str) ++
                                        [(32 : UInt8)] ++
                                      (List.getD l (Int.toNat (↑x.fst : Int)) (dfl (Ty.st SN.change))).name) +
                                  List.length [(10 : UInt8)] ≤
                                (9223372036854775807 : Nat) ∧
                              inR IntKind.i64 ((↑x.fst : Int) + (1 : Int)) ∧
                                ∃ (y : Nat × Str),
                                  (y.fst ≤ List.length l ∧
                                      showGo (List.drop y.fst l) y.snd = showF l ∧
                                        List.length y.snd + showN (List.drop y.fst l) ≤ (1000000 : Nat)) ∧
                                    List.length l - y.fst < List.length l - x.fst ∧
                                      x.snd ++
                                                  List.getD
                                                    [[(63 : UInt8)], [(43 : UInt8)], [(45 : UInt8)], [(33 : UInt8)],
                                                      [(126 : UInt8)], [(60 : UInt8)]]
                                                    (Int.toNat (0 : Int)) (dfl Ty.str) ++
                                                [(32 : UInt8)] ++
                                              (List.getD l (Int.toNat (↑x.fst : Int)) (dfl (Ty.st SN.change))).name ++
                                            [(10 : UInt8)] =
                                          y.snd ∧
                                        (↑x.fst : Int) + (1 : Int) = (↑y.fst : Int) ∧
                                          l = l ∧
                                            noOf UInt8 = noOf UInt8 ∧
                                              [[(63 : UInt8)], [(43 : UInt8)], [(45 : UInt8)], [(33 : UInt8)],
                                                    [(126 : UInt8)], [(60 : UInt8)]] =
                                                  [[(63 : UInt8)], [(43 : UInt8)], [(45 : UInt8)], [(33 : UInt8)],
                                                    [(126 : UInt8)], [(60 : UInt8)]] ∧
                                                List.length
                                                      [[(63 : UInt8)], [(43 : UInt8)], [(45 : UInt8)], [(33 : UInt8)],
                                                        [(126 : UInt8)], [(60 : UInt8)]] =
                                                    List.length
                                                      [[(63 : UInt8)], [(43 : UInt8)], [(45 : UInt8)], [(33 : UInt8)],
                                                        [(126 : UInt8)], [(60 : UInt8)]] ∧
                                                  True
                else
                  ((0 : Int) ≤ (List.getD l (Int.toNat (↑x.fst : Int)) (dfl (Ty.st SN.change))).kind ∧
                      (List.getD l (Int.toNat (↑x.fst : Int)) (dfl (Ty.st SN.change))).kind <
                        (↑(List.length
                              [[(63 : UInt8)], [(43 : UInt8)], [(45 : UInt8)], [(33 : UInt8)], [(126 : UInt8)],
                                [(60 : UInt8)]]) :
                          Int)) ∧
                    List.length x.snd +
                          List.length
                            (List.getD
                              [[(63 : UInt8)], [(43 : UInt8)], [(45 : UInt8)], [(33 : UInt8)], [(126 : UInt8)],
                                [(60 : UInt8)]]
                              (Int.toNat (List.getD l (Int.toNat (↑x.fst : Int)) (dfl (Ty.st SN.change))).kind)
                              (dfl Ty.str)) ≤
                        (9223372036854775807 : Nat) ∧
                      List.length
                              (x.snd ++
                                List.getD
                                  [[(63 : UInt8)], [(43 : UInt8)], [(45 : UInt8)], [(33 : UInt8)], [(126 : UInt8)],
                                    [(60 : UInt8)]]
                                  (Int.toNat (List.getD l (Int.toNat (↑x.fst : Int)) (dfl (Ty.st SN.change))).kind)
                                  (dfl Ty.str)) +
                            List.length [(32 : UInt8)] ≤
                          (9223372036854775807 : Nat) ∧
                        ((0 : Int) ≤ (↑x.fst : Int) ∧ (↑x.fst : Int) < (↑(List.length l) : Int)) ∧
                          List.length
                                  (x.snd ++
                                      List.getD
                                        [[(63 : UInt8)], [(43 : UInt8)], [(45 : UInt8)], [(33 : UInt8)], [(126 : UInt8)],
                                          [(60 : UInt8)]]
                                        (Int.toNat (List.getD l (Int.toNat (↑x.fst : Int)) (dfl (Ty.st SN.change))).kind)
                                        (dfl Ty.str) ++
                                    [(32 : UInt8)]) +
                                List.length (List.getD l (Int.toNat (↑x.fst : Int)) (dfl (Ty.st SN.change))).name ≤
                              (9223372036854775807 : Nat) ∧
                            List.length
                                    (x.snd ++
                                          List.getD
                                            [[(63 : UInt8)], [(43 : UInt8)], [(45 : UInt8)], [(33 : UInt8)],
                                              [(126 : UInt8)], [(60 : UInt8)]]
                                            (Int.toNat
                                              (List.getD l (Int.toNat (↑x.fst : Int)) (dfl (Ty.st SN.change))).kind)
                                            (dfl Ty.str) ++
                                        [(32 : UInt8)] ++
                                      (List.getD l (Int.toNat (↑x.fst : Int)) (dfl (Ty.st SN.change))).name) +
                                  List.length [(10 : UInt8)] ≤
                                (9223372036854775807 : Nat) ∧
                              inR IntKind.i64 ((↑x.fst : Int) + (1 : Int)) ∧
                                ∃ (y : Nat × Str),
                                  (y.fst ≤ List.length l ∧
                                      showGo (List.drop y.fst l) y.snd = showF l ∧
                                        List.length y.snd + showN (List.drop y.fst l) ≤ (1000000 : Nat)) ∧
                                    List.length l - y.fst < List.length l - x.fst ∧
                                      x.snd ++
                                                  List.getD
                                                    [[(63 : UInt8)], [(43 : UInt8)], [(45 : UInt8)], [(33 : UInt8)],
                                                      [(126 : UInt8)], [(60 : UInt8)]]
                                                    (Int.toNat
                                                      (List.getD l (Int.toNat (↑x.fst : Int)) (dfl (Ty.st SN.change))).kind)
                                                    (dfl Ty.str) ++
                                                [(32 : UInt8)] ++
                                              (List.getD l (Int.toNat (↑x.fst : Int)) (dfl (Ty.st SN.change))).name ++
                                            [(10 : UInt8)] =
                                          y.snd ∧
                                        (↑x.fst : Int) + (1 : Int) = (↑y.fst : Int) ∧
                                          l = l ∧
                                            noOf UInt8 = noOf UInt8 ∧
                                              [[(63 : UInt8)], [(43 : UInt8)], [(45 : UInt8)], [(33 : UInt8)],
                                                    [(126 : UInt8)], [(60 : UInt8)]] =
                                                  [[(63 : UInt8)], [(43 : UInt8)], [(45 : UInt8)], [(33 : UInt8)],
                                                    [(126 : UInt8)], [(60 : UInt8)]] ∧
                                                List.length
                                                      [[(63 : UInt8)], [(43 : UInt8)], [(45 : UInt8)], [(33 : UInt8)],
                                                        [(126 : UInt8)], [(60 : UInt8)]] =
                                                    List.length
                                                      [[(63 : UInt8)], [(43 : UInt8)], [(45 : UInt8)], [(33 : UInt8)],
                                                        [(126 : UInt8)], [(60 : UInt8)]] ∧
                                                  True
          else True ∧ x.snd = showF l ∧ True := by
  have ln := hl.len
  simp only [Int.toNat_natCast, eq_self, true_and, and_true]
  refine ⟨⟨(0, []), ⟨Nat.zero_le _, rfl, by simpa using hb⟩, rfl, rfl⟩, ?_⟩
  rintro ⟨k, o⟩ ⟨h1, h2, h3⟩
  simp only at h1 h2 h3 ⊢
  refine ite_intro (fun h => ?_) (fun h => ?_)
  · replace h := of_decide_eq_true h
    have hk : k < l.length := by omega
    rw [drop_getD l k (dfl (.st .change)) hk] at h2 h3
    simp only [showGo, showN] at h2 h3
    have fin : ∀ t : Str, t = signF (l.getD k (dfl (.st .change))).kind → t.length = 1 → (o.length + t.length ≤ 9223372036854775807 ∧ (o ++ t).length + [(32 : UInt8)].length ≤ 9223372036854775807 ∧ (0 ≤ (k : Int) ∧ (k : Int) < (l.length : Int)) ∧
        (o ++ t ++ [(32 : UInt8)]).length + (l.getD k (dfl (.st .change))).name.length ≤ 9223372036854775807 ∧ (o ++ t ++ [(32 : UInt8)] ++ (l.getD k (dfl (.st .change))).name).length + [(10 : UInt8)].length ≤ 9223372036854775807 ∧ inR IntKind.i64 ((k : Int) + 1) ∧
        ∃ y : Nat × Str, (y.fst ≤ l.length ∧ showGo (l.drop y.fst) y.snd = showF l ∧ y.snd.length + showN (l.drop y.fst) ≤ 1000000) ∧ l.length - y.fst < l.length - k ∧ o ++ t ++ [(32 : UInt8)] ++ (l.getD k (dfl (.st .change))).name ++ [(10 : UInt8)] = y.snd ∧ (k : Int) + 1 = (y.fst : Int)) := by
      rintro t rfl ht
      refine ⟨by omega, by simp only [List.length_append, List.length_singleton]; omega, by omega, by simp only [List.length_append, List.length_singleton]; omega, by simp only [List.length_append, List.length_singleton]; omega, inR_len hk ln, (k + 1, _), ⟨by omega, h2, ?_⟩, by simp only; omega, by simp only [List.append_assoc], rfl⟩
      simp only [List.length_append, List.length_singleton]
      omega
    have hq : ∀ h : ¬ (1 ≤ (l.getD k (dfl (.st .change))).kind ∧ (l.getD k (dfl (.st .change))).kind ≤ 5), [(63 : UInt8)] = signF (l.getD k (dfl (.st .change))).kind := fun h => by unfold signF; rw [if_neg h]
    refine ⟨by omega, ite_intro (fun a1 => ?_) (fun a1 => ?_)⟩
    · replace a1 := of_decide_eq_true a1
      exact ⟨by decide, fin [63] (hq (by omega)) rfl⟩
    · replace a1 := fun e => a1 (decide_eq_true e)
      refine ite_intro (fun a2 => ?_) (fun a2 => ?_)
      · replace a2 := of_decide_eq_true a2
        exact ⟨by decide, fin [63] (hq (by omega)) rfl⟩
      · replace a2 : ¬ (5 : Int) < (l.getD k (dfl (.st .change))).kind := fun e => a2 (decide_eq_true e)
        replace a1 : ¬ (l.getD k (dfl (.st .change))).kind < (1 : Int) := a1
        have key : [[(63 : UInt8)], [43], [45], [33], [126], [60]].getD (l.getD k (dfl (.st .change))).kind.toNat (dfl Ty.str) = signF (l.getD k (dfl (.st .change))).kind ∧ (signF (l.getD k (dfl (.st .change))).kind).length = 1 := by
          have : (l.getD k (dfl (.st .change))).kind = 1 ∨ (l.getD k (dfl (.st .change))).kind = 2 ∨ (l.getD k (dfl (.st .change))).kind = 3 ∨ (l.getD k (dfl (.st .change))).kind = 4 ∨ (l.getD k (dfl (.st .change))).kind = 5 := by omega
          rcases this with e | e | e | e | e <;> rw [e] <;> decide
        exact ⟨⟨by omega, by simp only [List.length_cons, List.length_nil]; omega⟩, fin _ key.1 (by rw [key.1]; exact key.2)⟩
  · replace h : ¬ ((k : Int) < (l.length : Int)) := fun e => h (decide_eq_true e)
    have e : k = l.length := by omega
    subst e
    rw [List.drop_length] at h2
    exact h2
theorem vc_awake   :
    List.length
            [{ kind := (3 : Int), name := [(102 : UInt8)],
                shape :=
                  { kind := (6 : Int), pkg := [], name := [], names := [[(97 : UInt8)]],
                    parts := [{ kind := (1 : Int), pkg := [], name := [], names := [], parts := [] : Shape }] : Shape } :
                AL.Item }] +
          List.length
            [{ kind := (3 : Int), name := [(102 : UInt8)],
                shape :=
                  { kind := (6 : Int), pkg := [], name := [], names := [[(97 : UInt8)], [(98 : UInt8)]],
                    parts :=
                      [{ kind := (1 : Int), pkg := [], name := [], names := [], parts := [] : Shape },
                        { kind := (1 : Int), pkg := [], name := [], names := [], parts := [] : Shape }] :
                    Shape } :
                AL.Item },
              { kind := (2 : Int), name := [(75 : UInt8)],
                shape := { kind := (0 : Int), pkg := [], name := [], names := [], parts := [] : Shape } : AL.Item }] ≤
        (1000000 : Nat) ∧
      List.length
              [{ kind := (3 : Int), name := [(102 : UInt8)],
                  shape :=
                    { kind := (6 : Int), pkg := [], name := [], names := [[(97 : UInt8)], [(98 : UInt8)]],
                      parts :=
                        [{ kind := (1 : Int), pkg := [], name := [], names := [], parts := [] : Shape },
                          { kind := (1 : Int), pkg := [], name := [], names := [], parts := [] : Shape }] :
                      Shape } :
                  AL.Item },
                { kind := (2 : Int), name := [(75 : UInt8)],
                  shape := { kind := (0 : Int), pkg := [], name := [], names := [], parts := [] : Shape } : AL.Item }] +
            List.length
              [{ kind := (3 : Int), name := [(102 : UInt8)],
                  shape :=
                    { kind := (6 : Int), pkg := [], name := [], names := [[(97 : UInt8)]],
                      parts := [{ kind := (1 : Int), pkg := [], name := [], names := [], parts := [] : Shape }] : Shape } :
                  AL.Item }] ≤
          (1000000 : Nat) ∧
        showN
              (diffF
                [{ kind := (3 : Int), name := [(102 : UInt8)],
                    shape :=
                      { kind := (6 : Int), pkg := [], name := [], names := [[(97 : UInt8)]],
                        parts := [{ kind := (1 : Int), pkg := [], name := [], names := [], parts := [] : Shape }] :
                        Shape } :
                    AL.Item }]
                [{ kind := (3 : Int), name := [(102 : UInt8)],
                    shape :=
                      { kind := (6 : Int), pkg := [], name := [], names := [[(97 : UInt8)], [(98 : UInt8)]],
                        parts :=
                          [{ kind := (1 : Int), pkg := [], name := [], names := [], parts := [] : Shape },
                            { kind := (1 : Int), pkg := [], name := [], names := [], parts := [] : Shape }] :
                        Shape } :
                    AL.Item },
                  { kind := (2 : Int), name := [(75 : UInt8)],
                    shape := { kind := (0 : Int), pkg := [], name := [], names := [], parts := [] : Shape } : AL.Item }]) ≤
            (1000000 : Nat) ∧
          if
              decide
                  (showF
                      (diffF
                        [{ kind := (3 : Int), name := [(102 : UInt8)],
                            shape :=
                              { kind := (6 : Int), pkg := [], name := [], names := [[(97 : UInt8)]],
                                parts := [{ kind := (1 : Int), pkg := [], name := [], names := [], parts := [] : Shape }] :
                                Shape } :
                            AL.Item }]
                        [{ kind := (3 : Int), name := [(102 : UInt8)],
                            shape :=
                              { kind := (6 : Int), pkg := [], name := [], names := [[(97 : UInt8)], [(98 : UInt8)]],
                                parts :=
                                  [{ kind := (1 : Int), pkg := [], name := [], names := [], parts := [] : Shape },
                                    { kind := (1 : Int), pkg := [], name := [], names := [], parts := [] : Shape }] :
                                Shape } :
                            AL.Item },
                          { kind := (2 : Int), name := [(75 : UInt8)],
                            shape := { kind := (0 : Int), pkg := [], name := [], names := [], parts := [] : Shape } :
                            AL.Item }]) =
                    [(43 : UInt8), (32 : UInt8), (75 : UInt8), (10 : UInt8), (60 : UInt8), (32 : UInt8), (102 : UInt8),
                      (10 : UInt8)]) =
                true then
            if
                decide
                    (classF
                        (diffF
                          [{ kind := (3 : Int), name := [(102 : UInt8)],
                              shape :=
                                { kind := (6 : Int), pkg := [], name := [], names := [[(97 : UInt8)]],
                                  parts :=
                                    [{ kind := (1 : Int), pkg := [], name := [], names := [], parts := [] : Shape }] :
                                  Shape } :
                              AL.Item }]
                          [{ kind := (3 : Int), name := [(102 : UInt8)],
                              shape :=
                                { kind := (6 : Int), pkg := [], name := [], names := [[(97 : UInt8)], [(98 : UInt8)]],
                                  parts :=
                                    [{ kind := (1 : Int), pkg := [], name := [], names := [], parts := [] : Shape },
                                      { kind := (1 : Int), pkg := [], name := [], names := [], parts := [] : Shape }] :
                                  Shape } :
                              AL.Item },
                            { kind := (2 : Int), name := [(75 : UInt8)],
                              shape := { kind := (0 : Int), pkg := [], name := [], names := [], parts := [] : Shape } :
                              AL.Item }]) =
                      (1 : Int)) =
                  true then
              showN
                    (diffF
                      [{ kind := (3 : Int), name := [(102 : UInt8)],
                          shape :=
                            { kind := (6 : Int), pkg := [], name := [], names := [[(97 : UInt8)], [(98 : UInt8)]],
                              parts :=
                                [{ kind := (1 : Int), pkg := [], name := [], names := [], parts := [] : Shape },
                                  { kind := (1 : Int), pkg := [], name := [], names := [], parts := [] : Shape }] :
                              Shape } :
                          AL.Item },
                        { kind := (2 : Int), name := [(75 : UInt8)],
                          shape := { kind := (0 : Int), pkg := [], name := [], names := [], parts := [] : Shape } : AL.Item }]
                      [{ kind := (3 : Int), name := [(102 : UInt8)],
                          shape :=
                            { kind := (6 : Int), pkg := [], name := [], names := [[(97 : UInt8)]],
                              parts := [{ kind := (1 : Int), pkg := [], name := [], names := [], parts := [] : Shape }] :
                              Shape } :
                          AL.Item }]) ≤
                  (1000000 : Nat) ∧
                if
                    decide
                        (showF
                            (diffF
                              [{ kind := (3 : Int), name := [(102 : UInt8)],
                                  shape :=
                                    { kind := (6 : Int), pkg := [], name := [], names := [[(97 : UInt8)], [(98 : UInt8)]],
                                      parts :=
                                        [{ kind := (1 : Int), pkg := [], name := [], names := [], parts := [] : Shape },
                                          { kind := (1 : Int), pkg := [], name := [], names := [], parts := [] : Shape }] :
                                      Shape } :
                                  AL.Item },
                                { kind := (2 : Int), name := [(75 : UInt8)],
                                  shape := { kind := (0 : Int), pkg := [], name := [], names := [], parts := [] : Shape } :
                                  AL.Item }]
                              [{ kind := (3 : Int), name := [(102 : UInt8)],
                                  shape :=
                                    { kind := (6 : Int), pkg := [], name := [], names := [[(97 : UInt8)]],
                                      parts :=
                                        [{ kind := (1 : Int), pkg := [], name := [], names := [], parts := [] : Shape }] :
                                      Shape } :
                                  AL.Item }]) =
                          [(45 : UInt8), (32 : UInt8), (75 : UInt8), (10 : UInt8), (126 : UInt8), (32 : UInt8),
                            (102 : UInt8), (10 : UInt8)]) =
                      true then
                  True ∧
                    decide
                          (classF
                              (diffF
                                [{ kind := (3 : Int), name := [(102 : UInt8)],
                                    shape :=
                                      { kind := (6 : Int), pkg := [], name := [], names := [[(97 : UInt8)], [(98 : UInt8)]],
                                        parts :=
                                          [{ kind := (1 : Int), pkg := [], name := [], names := [], parts := [] : Shape },
                                            { kind := (1 : Int), pkg := [], name := [], names := [], parts := [] :
                                              Shape }] :
                                        Shape } :
                                    AL.Item },
                                  { kind := (2 : Int), name := [(75 : UInt8)],
                                    shape :=
                                      { kind := (0 : Int), pkg := [], name := [], names := [], parts := [] : Shape } :
                                    AL.Item }]
                                [{ kind := (3 : Int), name := [(102 : UInt8)],
                                    shape :=
                                      { kind := (6 : Int), pkg := [], name := [], names := [[(97 : UInt8)]],
                                        parts :=
                                          [{ kind := (1 : Int), pkg := [], name := [], names := [], parts := [] : Shape }] :
                                        Shape } :
                                    AL.Item }]) =
                            (2 : Int)) =
                        true ∧
                      True
                else True ∧ false = true ∧ True
            else True ∧ false = true ∧ True
          else True ∧ false = true ∧ True := by
  have h1 := aw_there
  have h2 := aw_back
  unfold aw1 aw2 shI at h1 h2
  rw [h1, h2]
  refine ⟨by decide, by decide, by decide, ?_⟩
  rw [show showF [⟨1, [75]⟩, ⟨5, [102]⟩] = [43, 32, 75, 10, 60, 32, 102, 10] from by decide, show showF [⟨2, [75]⟩, ⟨4, [102]⟩] = [45, 32, 75, 10, 126, 32, 102, 10] from by decide,
    show classF [⟨1, [75]⟩, ⟨5, [102]⟩] = 1 from by decide, show classF [⟨2, [75]⟩, ⟨4, [102]⟩] = 2 from by decide]
  decide
theorem vc_DifferClasses (l : List Change) (hl : Wf (.lst (.st .change)) l) :
    (∃ (x : Nat),
        (x ≤ List.length l ∧ minN (List.take x l) ≤ (20000 : Nat)) ∧
          (0 : Int) = (↑(minN (List.take x l)) : Int) ∧ (0 : Int) = (↑x : Int) ∧ l = l ∧ True) ∧
      ∀ (x : Nat),
        x ≤ List.length l ∧ minN (List.take x l) ≤ (20000 : Nat) →
          if decide ((↑x : Int) < (↑(List.length l) : Int)) = true then
            ((0 : Int) ≤ (↑x : Int) ∧ (↑x : Int) < (↑(List.length l) : Int)) ∧
              inR IntKind.i64
                  (min (↑(List.length (List.getD l (Int.toNat (↑x : Int)) (dfl (Ty.st SN.change))).name) : Int)
                      (20000 : Int) +
                    (5 : Int)) ∧
                inR IntKind.i64
                    ((↑(minN (List.take x l)) : Int) +
                      (min (↑(List.length (List.getD l (Int.toNat (↑x : Int)) (dfl (Ty.st SN.change))).name) : Int)
                          (20000 : Int) +
                        (5 : Int))) ∧
                  if
                      decide
                          ((20000 : Int) <
                            (↑(minN (List.take x l)) : Int) +
                              (min (↑(List.length (List.getD l (Int.toNat (↑x : Int)) (dfl (Ty.st SN.change))).name) : Int)
                                  (20000 : Int) +
                                (5 : Int))) =
                        true then
                    True ∧ true = true ∧ True
                  else
                    inR IntKind.i64 ((↑x : Int) + (1 : Int)) ∧
                      ∃ (y : Nat),
                        (y ≤ List.length l ∧ minN (List.take y l) ≤ (20000 : Nat)) ∧
                          List.length l - y < List.length l - x ∧
                            (↑(minN (List.take x l)) : Int) +
                                  (min
                                      (↑(List.length (List.getD l (Int.toNat (↑x : Int)) (dfl (Ty.st SN.change))).name) :
                                        Int)
                                      (20000 : Int) +
                                    (5 : Int)) =
                                (↑(minN (List.take y l)) : Int) ∧
                              (↑x : Int) + (1 : Int) = (↑y : Int) ∧ l = l ∧ True
          else
            if decide (classF l = classF l) = true then
              showN l ≤ (1000000 : Nat) ∧
                showN l ≤ (1000000 : Nat) ∧
                  if decide (showF l = showF l) = true then True ∧ true = true ∧ True else True ∧ false = true ∧ True
            else True ∧ false = true ∧ True := by
  have ln := hl.len
  simp only [Int.toNat_natCast, eq_self, true_and, and_true, decide_true, if_true]
  refine ⟨⟨0, ⟨Nat.zero_le _, by simp [minN]⟩, by simp [minN], rfl⟩, ?_⟩
  rintro k ⟨h1, h2⟩
  refine ite_intro (fun h => ?_) (fun h => ?_)
  · replace h := of_decide_eq_true h
    have hk : k < l.length := by omega
    have hs := minN_take_succ l k (dfl (.st .change)) hk
    have e : (min ((l.getD k (dfl (.st .change))).name.length : Int) 20000 + 5) = ((min (l.getD k (dfl (.st .change))).name.length 20000 + 5 : Nat) : Int) := by omega
    simp only [e]
    have hlt : min (l.getD k (dfl (.st .change))).name.length 20000 ≤ 20000 := Nat.min_le_right _ _
    refine ⟨by omega, inR_i64 (by omega) (by omega), inR_i64 (by omega) (by omega), ite_intro (fun h => trivial) (fun h => ?_)⟩
    replace h : ¬ (20000 : Int) < (minN (l.take k) : Int) + ((min (l.getD k (dfl (.st .change))).name.length 20000 + 5 : Nat) : Int) := fun e => h (decide_eq_true e)
    exact ⟨inR_len hk ln, k + 1, ⟨by omega, by omega⟩, by omega, by omega, by omega⟩
  · replace h : ¬ ((k : Int) < (l.length : Int)) := fun e => h (decide_eq_true e)
    have e : k = l.length := by omega
    subst e
    rw [List.take_length] at h2
    have := minN_show l h2
    omega
theorem vc_iEqualFunc (n : Nat) (a b : List Shape) (ha : Wf (.lst (.st .shape)) a) (hb : Wf (.lst (.st .shape)) b) (hn : szL a ≤ n) :
    if (!decide ((↑(List.length a) : Int) = (↑(List.length b) : Int))) = true then True ∧ false = eqL a b ∧ True
    else
      (∃ (x : Nat),
          (x ≤ List.length a ∧ List.length a = List.length b ∧ eqL a b = eqL (List.drop x a) (List.drop x b)) ∧
            (0 : Int) = (↑x : Int) ∧
              a = a ∧ b = b ∧ false = false ∧ a = a ∧ (↑(List.length a) : Int) = (↑(List.length a) : Int) ∧ True) ∧
        ∀ (x : Nat),
          x ≤ List.length a ∧ List.length a = List.length b ∧ eqL a b = eqL (List.drop x a) (List.drop x b) →
            if decide ((↑x : Int) < (↑(List.length a) : Int)) = true then
              ((0 : Int) ≤ (↑x : Int) ∧ (↑x : Int) < (↑(List.length a) : Int)) ∧
                ((0 : Int) ≤ (↑x : Int) ∧ (↑x : Int) < (↑(List.length b) : Int)) ∧
                  sz (List.getD a (Int.toNat (↑x : Int)) (dfl (Ty.st SN.shape))) ≤ n ∧
                    if
                        (!eqS (List.getD a (Int.toNat (↑x : Int)) (dfl (Ty.st SN.shape)))
                              (List.getD b (Int.toNat (↑x : Int)) (dfl (Ty.st SN.shape)))) =
                          true then
                      True ∧ false = eqL a b ∧ True
                    else
                      inR IntKind.i64 ((↑x : Int) + (1 : Int)) ∧
                        ∃ (y : Nat),
                          (y ≤ List.length a ∧
                              List.length a = List.length b ∧ eqL a b = eqL (List.drop y a) (List.drop y b)) ∧
                            List.length a - y < List.length a - x ∧
                              (↑x : Int) + (1 : Int) = (↑y : Int) ∧
                                a = a ∧
                                  b = b ∧ false = false ∧ a = a ∧ (↑(List.length a) : Int) = (↑(List.length a) : Int) ∧ True
            else True ∧ true = eqL a b ∧ True := by
  have la := ha.len
  simp only [Int.toNat_natCast, eq_self, true_and, and_true]
  refine ite_intro (fun h => ?_) (fun h => ?_)
  · symm; exact eqL_len (fun e => by simp [e] at h)
  have hl : a.length = b.length := by simp at h; omega
  refine ⟨⟨0, ⟨by omega, hl, by simp⟩, by simp⟩, ?_⟩
  rintro k ⟨h1, _, h3⟩
  refine ite_intro (fun h => ?_) (fun h => ?_)
  · replace h := of_decide_eq_true h
    have hk : k < a.length := by omega
    have hk' : k < b.length := by omega
    have hm := getD_mem a k (dfl (.st .shape)) hk
    have hz := Nat.le_trans (sz_mem hm) hn
    clear hm
    rw [drop_getD a k (dfl (.st .shape)) hk, drop_getD b k (dfl (.st .shape)) hk'] at h3
    refine ⟨by omega, by omega, ?_⟩
    generalize a.getD k _ = x at h3 hz ⊢
    generalize b.getD k _ = y at h3 ⊢
    refine ⟨hz, ?_⟩
    simp only [eqL] at h3
    cases e : eqS x y
    · rw [h3]; simp [e]
    · simp only [e, Bool.true_and] at h3
      simp
      exact ⟨inR_len hk la, k+1, ⟨by omega, hl, h3⟩, by omega, by omega⟩
  · replace h : ¬ ((k : Int) < (a.length : Int)) := fun e => h (decide_eq_true e)
    have e : k = a.length := by omega
    subst e; rw [h3, List.drop_length, hl, List.drop_length]; rfl
theorem vc_iequal (n : Nat) (a b : Shape) (hn : sz a ≤ n + 1) :
    if decide (a.kind = b.kind) = true then
      if decide (a.pkg = b.pkg) = true then
        if decide (a.name = b.name) = true then
          if decide (a.names = b.names) = true then szL a.parts ≤ n ∧ True ∧ eqL a.parts b.parts = eqS a b ∧ True
          else True ∧ false = eqS a b ∧ True
        else True ∧ false = eqS a b ∧ True
      else True ∧ false = eqS a b ∧ True
    else True ∧ false = eqS a b ∧ True := by
  obtain ⟨k, p, n', ns, ps⟩ := a
  obtain ⟨k', p', m', ms, qs⟩ := b
  simp only [sz] at hn
  rw [eqS]
  by_cases e1 : k = k' <;> by_cases e2 : p = p' <;> by_cases e3 : n' = m' <;> by_cases e4 : ns = ms <;> simp [e1, e2, e3, e4] <;> omega
theorem vc_item (x : AL.Item) (hx : Wf (.st .item) x) :
    if decide (x.kind = (2 : Int)) = true then
      if upperF x.name = true then
        if
            (!decide
                  (x.name ∈
                    [[(73 : UInt8), (110 : UInt8), (116 : UInt8)],
                      [(66 : UInt8), (111 : UInt8), (111 : UInt8), (108 : UInt8)],
                      [(84 : UInt8), (101 : UInt8), (120 : UInt8), (116 : UInt8)],
                      [(65 : UInt8), (110 : UInt8), (121 : UInt8)]])) =
              true then
          sz x.shape ≤ sz x.shape ∧
            True ∧
              eqS x.shape { kind := (0 : Int), pkg := [], name := [], names := [], parts := [] : Shape } = itemF x ∧ True
        else True ∧ false = itemF x ∧ True
      else True ∧ false = itemF x ∧ True
    else
      if decide (x.kind = (1 : Int)) = true then
        if (!upperF x.name) = true then True ∧ false = itemF x ∧ True
        else
          if
              decide
                  (x.name ∈
                    [[(73 : UInt8), (110 : UInt8), (116 : UInt8)],
                      [(66 : UInt8), (111 : UInt8), (111 : UInt8), (108 : UInt8)],
                      [(84 : UInt8), (101 : UInt8), (120 : UInt8), (116 : UInt8)],
                      [(65 : UInt8), (110 : UInt8), (121 : UInt8)]]) =
                true then
            True ∧ false = itemF x ∧ True
          else
            if closedS x.shape = true then
              sz (sortS' x.shape) ≤ sz x.shape ∧ True ∧ eqS (sortS' x.shape) x.shape = itemF x ∧ True
            else True ∧ false = itemF x ∧ True
      else
        if decide (x.kind = (3 : Int)) = true then
          if (!nameF x.name) = true then True ∧ false = itemF x ∧ True
          else
            if closedS x.shape = true then
              sz (sortS' x.shape) ≤ sz x.shape ∧ True ∧ eqS (sortS' x.shape) x.shape = itemF x ∧ True
            else True ∧ false = itemF x ∧ True
        else True ∧ false = itemF x ∧ True := by
  have pn : (x.name ∈ plainNames) = (x.name ∈ [[(73 : UInt8), (110 : UInt8), (116 : UInt8)], [(66 : UInt8), (111 : UInt8), (111 : UInt8), (108 : UInt8)], [(84 : UInt8), (101 : UInt8), (120 : UInt8), (116 : UInt8)], [(65 : UInt8), (110 : UInt8), (121 : UInt8)]]) := rfl
  have sn : noShape = { kind := (0 : Int), pkg := [], name := [], names := [], parts := [] : Shape } := rfl
  have hs : sz (sortS' x.shape) ≤ sz x.shape := Nat.le_of_eq (sz_sort' _)
  have hf : itemF x = itemF x := rfl
  conv at hf => rhs; unfold itemF
  rw [decide_eq_decide.2 (Iff.of_eq pn), sn] at hf
  generalize decide (x.name ∈ [[(73 : UInt8), (110 : UInt8), (116 : UInt8)], [(66 : UInt8), (111 : UInt8), (111 : UInt8), (108 : UInt8)], [(84 : UInt8), (101 : UInt8), (120 : UInt8), (116 : UInt8)], [(65 : UInt8), (110 : UInt8), (121 : UInt8)]]) = A at hf ⊢
  generalize upperF x.name = B at hf ⊢
  generalize nameF x.name = C at hf ⊢
  generalize closedS x.shape = D at hf ⊢
  generalize x.kind = K at hf ⊢
  generalize itemF x = F at hf ⊢
  generalize eqS x.shape _ = E1 at hf ⊢
  generalize eqS (sortS' x.shape) x.shape = E2 at hf ⊢
  repeat' (refine ite_intro (fun _ => ?_) (fun _ => ?_))
  all_goals (subst hf; simp_all)
theorem vc_iCheck (l : List AL.Item) (hl : Wf (.lst (.st .item)) l) :
    if decide ((60 : Int) < (↑(List.length l) : Int)) = true then True ∧ (160 : Int) = ifaceF l ∧ True
    else
      (∃ (x : Nat),
          (x ≤ List.length l ∧
              List.length l ≤ (60 : Nat) ∧
                ifaceGo l none =
                  ifaceGo (List.drop x l)
                    (if x = (0 : Nat) then none else some (List.getD l (x - (1 : Nat)) (dfl (Ty.st SN.item))).name)) ∧
            (0 : Int) = (↑x : Int) ∧
              l = l ∧ false = false ∧ l = l ∧ (↑(List.length l) : Int) = (↑(List.length l) : Int) ∧ True) ∧
        ∀ (x : Nat),
          x ≤ List.length l ∧
              List.length l ≤ (60 : Nat) ∧
                ifaceGo l none =
                  ifaceGo (List.drop x l)
                    (if x = (0 : Nat) then none else some (List.getD l (x - (1 : Nat)) (dfl (Ty.st SN.item))).name) →
            if decide ((↑x : Int) < (↑(List.length l) : Int)) = true then
              ((0 : Int) ≤ (↑x : Int) ∧ (↑x : Int) < (↑(List.length l) : Int)) ∧
                if (!itemF (List.getD l (Int.toNat (↑x : Int)) (dfl (Ty.st SN.item)))) = true then
                  True ∧ (160 : Int) = ifaceF l ∧ True
                else
                  if decide ((0 : Int) < (↑x : Int)) = true then
                    inR IntKind.i64 ((↑x : Int) - (1 : Int)) ∧
                      ((0 : Int) ≤ (↑x : Int) - (1 : Int) ∧ (↑x : Int) - (1 : Int) < (↑(List.length l) : Int)) ∧
                        if
                            (!Op.bytesLess (List.getD l (Int.toNat ((↑x : Int) - (1 : Int))) (dfl (Ty.st SN.item))).name
                                  (List.getD l (Int.toNat (↑x : Int)) (dfl (Ty.st SN.item))).name) =
                              true then
                          True ∧ (160 : Int) = ifaceF l ∧ True
                        else
                          inR IntKind.i64 ((↑x : Int) + (1 : Int)) ∧
                            ∃ (y : Nat),
                              (y ≤ List.length l ∧
                                  List.length l ≤ (60 : Nat) ∧
                                    ifaceGo l none =
                                      ifaceGo (List.drop y l)
                                        (if y = (0 : Nat) then none
                                        else some (List.getD l (y - (1 : Nat)) (dfl (Ty.st SN.item))).name)) ∧
                                List.length l - y < List.length l - x ∧
                                  (↑x : Int) + (1 : Int) = (↑y : Int) ∧
                                    l = l ∧
                                      false = false ∧ l = l ∧ (↑(List.length l) : Int) = (↑(List.length l) : Int) ∧ True
                  else
                    inR IntKind.i64 ((↑x : Int) + (1 : Int)) ∧
                      ∃ (y : Nat),
                        (y ≤ List.length l ∧
                            List.length l ≤ (60 : Nat) ∧
                              ifaceGo l none =
                                ifaceGo (List.drop y l)
                                  (if y = (0 : Nat) then none
                                  else some (List.getD l (y - (1 : Nat)) (dfl (Ty.st SN.item))).name)) ∧
                          List.length l - y < List.length l - x ∧
                            (↑x : Int) + (1 : Int) = (↑y : Int) ∧
                              l = l ∧ false = false ∧ l = l ∧ (↑(List.length l) : Int) = (↑(List.length l) : Int) ∧ True
            else True ∧ (0 : Int) = ifaceF l ∧ True := by
  have ln := hl.len
  simp only [Int.toNat_natCast, eq_self, true_and, and_true]
  refine ite_intro (fun h => ?_) (fun h => ?_)
  · replace h := of_decide_eq_true h
    unfold ifaceF; rw [if_pos (by omega)]
  replace h : ¬ (60 : Int) < (l.length : Int) := fun e => h (decide_eq_true e)
  have hF : ifaceF l = if ifaceGo l none = true then 0 else 160 := by unfold ifaceF; rw [if_neg (by omega)]
  refine ⟨⟨0, ⟨Nat.zero_le _, by omega, by simp⟩, rfl⟩, ?_⟩
  rintro k ⟨h1, h2, h3⟩
  refine ite_intro (fun hk => ?_) (fun hk => ?_)
  · replace hk := of_decide_eq_true hk
    have hk : k < l.length := by omega
    rw [drop_getD l k (dfl (.st .item)) hk] at h3
    simp only [ifaceGo] at h3
    refine ⟨by omega, ite_intro (fun a => ?_) (fun a => ?_)⟩
    · rw [Bool.not_eq_true'] at a
      rw [a, Bool.false_and, Bool.false_and] at h3
      rw [hF, h3]; rfl
    · have a : itemF (l.getD k (dfl (.st .item))) = true := by simpa using a
      rw [a, Bool.true_and] at h3
      refine ite_intro (fun b => ?_) (fun b => ?_)
      · replace b := of_decide_eq_true b
        have e : ((k : Int) - 1).toNat = k - 1 := by omega
        simp only [e]
        rw [if_neg (show ¬ k = 0 by omega)] at h3
        simp only at h3
        refine ⟨inR_i64 (by omega) (by omega), by omega, ite_intro (fun c => ?_) (fun c => ?_)⟩
        · rw [Bool.not_eq_true'] at c
          rw [c, Bool.false_and] at h3
          rw [hF, h3]; rfl
        · have c : Op.bytesLess (l.getD (k - 1) (dfl (.st .item))).name (l.getD k (dfl (.st .item))).name = true := by simpa using c
          rw [c, Bool.true_and] at h3
          exact ⟨inR_len hk ln, k + 1, ⟨by omega, h2, by rw [if_neg (by omega), Nat.add_sub_cancel]; exact h3⟩, by omega, by omega⟩
      · have e : k = 0 := by
          have : ¬ (0 : Int) < (k : Int) := fun e => b (decide_eq_true e)
          omega
        subst e
        rw [if_pos rfl] at h3
        simp only [Bool.true_and] at h3
        exact ⟨inR_len hk ln, 0 + 1, ⟨by omega, h2, by rw [if_neg (by omega), Nat.add_sub_cancel]; exact h3⟩, by omega, by omega⟩
  · replace hk : ¬ ((k : Int) < (l.length : Int)) := fun e => hk (decide_eq_true e)
    have e : k = l.length := by omega
    subst e
    rw [List.drop_length] at h3
    rw [hF, h3]; rfl
theorem vc_Size (n : Nat) (s : Shape) (m : Int) (hs : Wf (.st .shape) s) (ho : sz s ≤ n + 1 ∧ 0 ≤ m ∧ m ≤ 1000000) :
    (∃ (x : Nat × Int),
        (x.fst ≤ List.length s.parts ∧
            (1 : Int) ≤ x.snd ∧ x.snd ≤ m + (1 : Int) ∧ sizeL (List.drop x.fst s.parts) x.snd m = sizeF s m) ∧
          (1 : Int) = x.snd ∧ (0 : Int) = (↑x.fst : Int) ∧ s = s ∧ m = m ∧ (0 : Int) = (0 : Int) ∧ s = s ∧ True) ∧
      ∀ (x : Nat × Int),
        x.fst ≤ List.length s.parts ∧
            (1 : Int) ≤ x.snd ∧ x.snd ≤ m + (1 : Int) ∧ sizeL (List.drop x.fst s.parts) x.snd m = sizeF s m →
          if decide ((↑x.fst : Int) < (↑(List.length s.parts) : Int)) = true then
            if decide (x.snd ≤ m) = true then
              ((0 : Int) ≤ (↑x.fst : Int) ∧ (↑x.fst : Int) < (↑(List.length s.parts) : Int)) ∧
                inR IntKind.i64 (m - x.snd) ∧
                  (sz (List.getD s.parts (Int.toNat (↑x.fst : Int)) (dfl (Ty.st SN.shape))) ≤ n ∧
                      (0 : Int) ≤ m - x.snd ∧ m - x.snd ≤ (1000000 : Int)) ∧
                    inR IntKind.i64
                        (x.snd + sizeF (List.getD s.parts (Int.toNat (↑x.fst : Int)) (dfl (Ty.st SN.shape))) (m - x.snd)) ∧
                      inR IntKind.i64 ((↑x.fst : Int) + (1 : Int)) ∧
                        ∃ (y : Nat × Int),
                          (y.fst ≤ List.length s.parts ∧
                              (1 : Int) ≤ y.snd ∧
                                y.snd ≤ m + (1 : Int) ∧ sizeL (List.drop y.fst s.parts) y.snd m = sizeF s m) ∧
                            List.length s.parts - y.fst < List.length s.parts - x.fst ∧
                              x.snd +
                                    sizeF (List.getD s.parts (Int.toNat (↑x.fst : Int)) (dfl (Ty.st SN.shape)))
                                      (m - x.snd) =
                                  y.snd ∧
                                (↑x.fst : Int) + (1 : Int) = (↑y.fst : Int) ∧
                                  s = s ∧ m = m ∧ (0 : Int) = (0 : Int) ∧ s = s ∧ True
            else True ∧ x.snd = sizeF s m ∧ True
          else True ∧ x.snd = sizeF s m ∧ True := by
  have ln := hs.parts.len
  have hz := sz_eq s
  obtain ⟨ho1, ho2, ho3⟩ := ho
  have h0 : sizeL s.parts 1 m = sizeF s m := by cases s; rfl
  simp only [Int.toNat_natCast, eq_self, true_and, and_true]
  refine ⟨⟨(0, 1), ⟨Nat.zero_le _, by omega, by omega, h0⟩, rfl, rfl⟩, ?_⟩
  rintro ⟨k, c⟩ ⟨h1, h2, h3, h4⟩
  simp only at h1 h2 h3 h4 ⊢
  refine ite_intro (fun hk => ?_) (fun hk => ?_)
  · replace hk := of_decide_eq_true hk
    have hk : k < s.parts.length := by omega
    have hm := sz_mem (getD_mem s.parts k (dfl (.st .shape)) hk)
    rw [drop_getD s.parts k (dfl (.st .shape)) hk] at h4
    simp only [sizeL] at h4
    refine ite_intro (fun hc => ?_) (fun hc => ?_)
    · replace hc := of_decide_eq_true hc
      rw [if_pos hc] at h4
      have hb := sizeF_bd (s.parts.getD k (dfl (.st .shape))) (m - c) (by omega)
      exact ⟨by omega, inR_i64 (by omega) (by omega), by omega, inR_i64 (by omega) (by omega), inR_len hk ln, (k + 1, _), ⟨by omega, by simp only; omega, by simp only; omega, h4⟩, by simp only; omega, rfl, rfl⟩
    · rw [if_neg (fun e => hc (decide_eq_true e))] at h4
      exact h4
  · replace hk : ¬ ((k : Int) < (s.parts.length : Int)) := fun e => hk (decide_eq_true e)
    have e : k = s.parts.length := by omega
    subst e
    rw [List.drop_length] at h4
    exact h4
theorem vc_small17 (l : List AL.Item) (N : Nat) (hl : Wf (.lst (.st .item)) l) (hN : ∀ x ∈ l, sz x.shape ≤ N) :
    (∃ (x : Nat × Int),
        (x.fst ≤ List.length l ∧ (0 : Int) ≤ x.snd ∧ x.snd ≤ (6000 : Int) ∧ smallGo (List.drop x.fst l) x.snd = smallF l) ∧
          (0 : Int) = x.snd ∧ (0 : Int) = (↑x.fst : Int) ∧ l = l ∧ True) ∧
      ∀ (x : Nat × Int),
        x.fst ≤ List.length l ∧ (0 : Int) ≤ x.snd ∧ x.snd ≤ (6000 : Int) ∧ smallGo (List.drop x.fst l) x.snd = smallF l →
          if decide ((↑x.fst : Int) < (↑(List.length l) : Int)) = true then
            ((0 : Int) ≤ (↑x.fst : Int) ∧ (↑x.fst : Int) < (↑(List.length l) : Int)) ∧
              (sz (List.getD l (Int.toNat (↑x.fst : Int)) (dfl (Ty.st SN.item))).shape ≤ N ∧
                  (0 : Int) ≤ (800 : Int) ∧ (800 : Int) ≤ (1000000 : Int)) ∧
                inR IntKind.i64
                    ((20 : Int) + sizeF (List.getD l (Int.toNat (↑x.fst : Int)) (dfl (Ty.st SN.item))).shape (800 : Int)) ∧
                  inR IntKind.i64
                      (x.snd +
                        ((20 : Int) +
                          sizeF (List.getD l (Int.toNat (↑x.fst : Int)) (dfl (Ty.st SN.item))).shape (800 : Int))) ∧
                    if
                        decide
                            ((6000 : Int) <
                              x.snd +
                                ((20 : Int) +
                                  sizeF (List.getD l (Int.toNat (↑x.fst : Int)) (dfl (Ty.st SN.item))).shape (800 : Int))) =
                          true then
                      True ∧ false = smallF l ∧ True
                    else
                      inR IntKind.i64 ((↑x.fst : Int) + (1 : Int)) ∧
                        ∃ (y : Nat × Int),
                          (y.fst ≤ List.length l ∧
                              (0 : Int) ≤ y.snd ∧ y.snd ≤ (6000 : Int) ∧ smallGo (List.drop y.fst l) y.snd = smallF l) ∧
                            List.length l - y.fst < List.length l - x.fst ∧
                              x.snd +
                                    ((20 : Int) +
                                      sizeF (List.getD l (Int.toNat (↑x.fst : Int)) (dfl (Ty.st SN.item))).shape
                                        (800 : Int)) =
                                  y.snd ∧
                                (↑x.fst : Int) + (1 : Int) = (↑y.fst : Int) ∧ l = l ∧ True
          else True ∧ true = smallF l ∧ True := by
  have ln := hl.len
  simp only [Int.toNat_natCast, eq_self, true_and, and_true]
  refine ⟨⟨(0, 0), ⟨Nat.zero_le _, by omega, by omega, rfl⟩, rfl, rfl⟩, ?_⟩
  rintro ⟨k, c⟩ ⟨h1, h2, h3, h4⟩
  simp only at h1 h2 h3 h4 ⊢
  refine ite_intro (fun hk => ?_) (fun hk => ?_)
  · replace hk := of_decide_eq_true hk
    have hk : k < l.length := by omega
    have hm := hN _ (getD_mem l k (dfl (.st .item)) hk)
    rw [drop_getD l k (dfl (.st .item)) hk] at h4
    simp only [smallGo] at h4
    have hb := sizeF_bd (l.getD k (dfl (.st .item))).shape 800 (by omega)
    refine ⟨by omega, ⟨hm, by omega, by omega⟩, inR_i64 (by omega) (by omega), inR_i64 (by omega) (by omega), ite_intro (fun hc => ?_) (fun hc => ?_)⟩
    · replace hc := of_decide_eq_true hc
      rw [if_pos hc] at h4
      exact h4
    · replace hc : ¬ (6000 : Int) < c + (20 + sizeF (l.getD k (dfl (.st .item))).shape 800) := fun e => hc (decide_eq_true e)
      rw [if_neg hc] at h4
      exact ⟨inR_len hk ln, (k + 1, _), ⟨by omega, by simp only; omega, by simp only; omega, h4⟩, by simp only; omega, rfl, rfl⟩
  · replace hk : ¬ ((k : Int) < (l.length : Int)) := fun e => hk (decide_eq_true e)
    have e : k = l.length := by omega
    subst e
    rw [List.drop_length] at h4
    exact h4
theorem vc_DifferSelf (a b : List AL.Item) (ha : Wf (.lst (.st .item)) a) (hb : Wf (.lst (.st .item)) b) :
    if (!decide (ifaceF a = (0 : Int))) = true then True ∧ true = true ∧ True
    else
      if (!decide (ifaceF b = (0 : Int))) = true then True ∧ true = true ∧ True
      else
        if (!smallF a) = true then True ∧ true = true ∧ True
        else
          if (!smallF b) = true then True ∧ true = true ∧ True
          else
            List.length a + List.length a ≤ (1000000 : Nat) ∧
              if (!decide ((↑(List.length (diffF a a)) : Int) = (0 : Int))) = true then True ∧ false = true ∧ True
              else
                List.length a + List.length b ≤ (1000000 : Nat) ∧
                  List.length b + List.length a ≤ (1000000 : Nat) ∧
                    if (!decide ((↑(List.length (diffF a b)) : Int) = (↑(List.length (diffF b a)) : Int))) = true then
                      True ∧ false = true ∧ True
                    else
                      (∃ (x : Nat),
                          x ≤ List.length (diffF a b) ∧
                            (0 : Int) = (↑x : Int) ∧
                              a = a ∧
                                b = b ∧
                                  false = false ∧
                                    false = false ∧ diffF a b = diffF a b ∧ diffF b a = diffF b a ∧ false = false ∧ True) ∧
                        ∀ (x : Nat),
                          x ≤ List.length (diffF a b) →
                            if decide ((↑x : Int) < (↑(List.length (diffF a b)) : Int)) = true then
                              ((0 : Int) ≤ (↑x : Int) ∧ (↑x : Int) < (↑(List.length (diffF a b)) : Int)) ∧
                                ((0 : Int) ≤ (↑x : Int) ∧ (↑x : Int) < (↑(List.length (diffF b a)) : Int)) ∧
                                  if
                                      (!decide
                                            ((List.getD (diffF a b) (Int.toNat (↑x : Int)) (dfl (Ty.st SN.change))).name =
                                              (List.getD (diffF b a) (Int.toNat (↑x : Int))
                                                  (dfl (Ty.st SN.change))).name)) =
                                        true then
                                    True ∧ false = true ∧ True
                                  else
                                    if decide ((0 : Int) < (↑x : Int)) = true then
                                      inR IntKind.i64 ((↑x : Int) - (1 : Int)) ∧
                                        ((0 : Int) ≤ (↑x : Int) - (1 : Int) ∧
                                            (↑x : Int) - (1 : Int) < (↑(List.length (diffF a b)) : Int)) ∧
                                          if
                                              (!Op.bytesLess
                                                    (List.getD (diffF a b) (Int.toNat ((↑x : Int) - (1 : Int)))
                                                        (dfl (Ty.st SN.change))).name
                                                    (List.getD (diffF a b) (Int.toNat (↑x : Int))
                                                        (dfl (Ty.st SN.change))).name) =
                                                true then
                                            True ∧ false = true ∧ True
                                          else
                                            if
                                                (!decide
                                                        ((List.getD (diffF a b) (Int.toNat (↑x : Int))
                                                              (dfl (Ty.st SN.change))).kind =
                                                          (1 : Int)) ==
                                                      decide
                                                        ((List.getD (diffF b a) (Int.toNat (↑x : Int))
                                                              (dfl (Ty.st SN.change))).kind =
                                                          (2 : Int))) =
                                                  true then
                                              True ∧ false = true ∧ True
                                            else
                                              if
                                                  (!decide
                                                          ((List.getD (diffF a b) (Int.toNat (↑x : Int))
                                                                (dfl (Ty.st SN.change))).kind =
                                                            (2 : Int)) ==
                                                        decide
                                                          ((List.getD (diffF b a) (Int.toNat (↑x : Int))
                                                                (dfl (Ty.st SN.change))).kind =
                                                            (1 : Int))) =
                                                    true then
                                                True ∧ false = true ∧ True
                                              else
                                                if
                                                    (!decide
                                                            ((List.getD (diffF a b) (Int.toNat (↑x : Int))
                                                                  (dfl (Ty.st SN.change))).kind =
                                                              (3 : Int)) ==
                                                          decide
                                                            ((List.getD (diffF b a) (Int.toNat (↑x : Int))
                                                                  (dfl (Ty.st SN.change))).kind =
                                                              (3 : Int))) =
                                                      true then
                                                  True ∧ false = true ∧ True
                                                else
                                                  if
                                                      decide
                                                          ((List.getD (diffF a b) (Int.toNat (↑x : Int))
                                                                (dfl (Ty.st SN.change))).kind =
                                                            (5 : Int)) =
                                                        true then
                                                    if
                                                        (!decide
                                                              ((List.getD (diffF b a) (Int.toNat (↑x : Int))
                                                                    (dfl (Ty.st SN.change))).kind =
                                                                (4 : Int))) =
                                                          true then
                                                      True ∧ false = true ∧ True
                                                    else
                                                      inR IntKind.i64 ((↑x : Int) + (1 : Int)) ∧
                                                        ∃ (y : Nat),
                                                          y ≤ List.length (diffF a b) ∧
                                                            List.length (diffF a b) - y < List.length (diffF a b) - x ∧
                                                              (↑x : Int) + (1 : Int) = (↑y : Int) ∧
                                                                a = a ∧
                                                                  b = b ∧
                                                                    false = false ∧
                                                                      false = false ∧
                                                                        diffF a b = diffF a b ∧
                                                                          diffF b a = diffF b a ∧ false = false ∧ True
                                                  else
                                                    inR IntKind.i64 ((↑x : Int) + (1 : Int)) ∧
                                                      ∃ (y : Nat),
                                                        y ≤ List.length (diffF a b) ∧
                                                          List.length (diffF a b) - y < List.length (diffF a b) - x ∧
                                                            (↑x : Int) + (1 : Int) = (↑y : Int) ∧
                                                              a = a ∧
                                                                b = b ∧
                                                                  false = false ∧
                                                                    false = false ∧
                                                                      diffF a b = diffF a b ∧
                                                                        diffF b a = diffF b a ∧ false = false ∧ True
                                    else
                                      if
                                          (!decide
                                                  ((List.getD (diffF a b) (Int.toNat (↑x : Int))
                                                        (dfl (Ty.st SN.change))).kind =
                                                    (1 : Int)) ==
                                                decide
                                                  ((List.getD (diffF b a) (Int.toNat (↑x : Int))
                                                        (dfl (Ty.st SN.change))).kind =
                                                    (2 : Int))) =
                                            true then
                                        True ∧ false = true ∧ True
                                      else
                                        if
                                            (!decide
                                                    ((List.getD (diffF a b) (Int.toNat (↑x : Int))
                                                          (dfl (Ty.st SN.change))).kind =
                                                      (2 : Int)) ==
                                                  decide
                                                    ((List.getD (diffF b a) (Int.toNat (↑x : Int))
                                                          (dfl (Ty.st SN.change))).kind =
                                                      (1 : Int))) =
                                              true then
                                          True ∧ false = true ∧ True
                                        else
                                          if
                                              (!decide
                                                      ((List.getD (diffF a b) (Int.toNat (↑x : Int))
                                                            (dfl (Ty.st SN.change))).kind =
                                                        (3 : Int)) ==
                                                    decide
                                                      ((List.getD (diffF b a) (Int.toNat (↑x : Int))
                                                            (dfl (Ty.st SN.change))).kind =
                                                        (3 : Int))) =
                                                true then
                                            True ∧ false = true ∧ True
                                          else
                                            if
                                                decide
                                                    ((List.getD (diffF a b) (Int.toNat (↑x : Int))
                                                          (dfl (Ty.st SN.change))).kind =
                                                      (5 : Int)) =
                                                  true then
                                              if
                                                  (!decide
                                                        ((List.getD (diffF b a) (Int.toNat (↑x : Int))
                                                              (dfl (Ty.st SN.change))).kind =
                                                          (4 : Int))) =
                                                    true then
                                                True ∧ false = true ∧ True
                                              else
                                                inR IntKind.i64 ((↑x : Int) + (1 : Int)) ∧
                                                  ∃ (y : Nat),
                                                    y ≤ List.length (diffF a b) ∧
                                                      List.length (diffF a b) - y < List.length (diffF a b) - x ∧
                                                        (↑x : Int) + (1 : Int) = (↑y : Int) ∧
                                                          a = a ∧
                                                            b = b ∧
                                                              false = false ∧
                                                                false = false ∧
                                                                  diffF a b = diffF a b ∧
                                                                    diffF b a = diffF b a ∧ false = false ∧ True
                                            else
                                              inR IntKind.i64 ((↑x : Int) + (1 : Int)) ∧
                                                ∃ (y : Nat),
                                                  y ≤ List.length (diffF a b) ∧
                                                    List.length (diffF a b) - y < List.length (diffF a b) - x ∧
                                                      (↑x : Int) + (1 : Int) = (↑y : Int) ∧
                                                        a = a ∧
                                                          b = b ∧
                                                            false = false ∧
                                                              false = false ∧
                                                                diffF a b = diffF a b ∧
                                                                  diffF b a = diffF b a ∧ false = false ∧ True
                            else True ∧ true = true ∧ True := by
  simp only [Int.toNat_natCast, eq_self, true_and, and_true]
  refine ite_intro (fun _ => trivial) (fun h1 => ite_intro (fun _ => trivial) (fun h2 => ite_intro (fun _ => trivial) (fun h3 => ite_intro (fun _ => trivial) (fun h4 => ?_))))
  replace h1 : ifaceF a = 0 := by simpa using h1
  replace h2 : ifaceF b = 0 := by simpa using h2
  replace h3 : smallF a = true := by simpa using h3
  replace h4 : smallF b = true := by simpa using h4
  have l3 := smallF_len h3
  have l4 := smallF_len h4
  refine ⟨by omega, ?_⟩
  rw [diff_self h1, if_neg (by simp)]
  refine ⟨by omega, by omega, ?_⟩
  obtain ⟨N, n1, n2, e1, e2⟩ := diff_back h1 h2
  have hl1 : (diffF a b).length = N.length := by rw [e1, List.length_map]
  have hl2 : (diffF b a).length = N.length := by rw [e2, List.length_map]
  have hN : N.length ≤ 600 := by
    have := diffGo_len a b (namesU a b)
    have := namesU_len a b
    have e : (diffF a b).length = (diffGo a b (namesU a b)).length := rfl
    omega
  have g1 : ∀ k, k < N.length → (diffF a b).getD k (dfl (.st .change)) = ⟨changeF a b (N.getD k []), N.getD k []⟩ := fun k hk => by
    rw [e1]; simp [List.getD_eq_getElem?_getD, hk]
  have g2 : ∀ k, k < N.length → (diffF b a).getD k (dfl (.st .change)) = ⟨changeF b a (N.getD k []), N.getD k []⟩ := fun k hk => by
    rw [e2]; simp [List.getD_eq_getElem?_getD, hk]
  rw [hl1, hl2, if_neg (by simp)]
  refine ⟨⟨0, Nat.zero_le _, rfl⟩, ?_⟩
  rintro k hk
  refine ite_intro (fun h => ?_) (fun _ => trivial)
  replace h := of_decide_eq_true h
  have hk' : k < N.length := by omega
  have hb := change_back h1 h2 (n2 _ (getD_mem N k [] hk'))
  have fin : inR IntKind.i64 ((k : Int) + 1) ∧ ∃ y : Nat, y ≤ N.length ∧ N.length - y < N.length - k ∧ (k : Int) + 1 = (y : Int) := ⟨inR_i64 (by omega) (by omega), k + 1, by omega, by omega, by omega⟩
  simp only [g1 k hk', g2 k hk']
  generalize changeF a b (N.getD k []) = c at hb ⊢
  generalize changeF b a (N.getD k []) = d at hb ⊢
  obtain ⟨_, b1, b2, b3, b5⟩ := hb
  have tail : (if (!(decide (c = (1 : Int)) == decide (d = (2 : Int)))) = true then false = true else if (!(decide (c = (2 : Int)) == decide (d = (1 : Int)))) = true then false = true else
      if (!(decide (c = (3 : Int)) == decide (d = (3 : Int)))) = true then false = true else if decide (c = (5 : Int)) = true then if (!decide (d = (4 : Int))) = true then false = true else
        inR IntKind.i64 ((k : Int) + 1) ∧ ∃ y : Nat, y ≤ N.length ∧ N.length - y < N.length - k ∧ (k : Int) + 1 = (y : Int)
      else inR IntKind.i64 ((k : Int) + 1) ∧ ∃ y : Nat, y ≤ N.length ∧ N.length - y < N.length - k ∧ (k : Int) + 1 = (y : Int)) := by
    rw [if_neg (by simp [b1]), if_neg (by simp [b2]), if_neg (by simp [b3])]
    refine ite_intro (fun h5 => ?_) (fun _ => fin)
    rw [if_neg (by simp [b5 (of_decide_eq_true h5)])]
    exact fin
  refine ⟨by omega, by omega, ?_⟩
  rw [if_neg (by simp)]
  refine ite_intro (fun hp => ?_) (fun _ => tail)
  replace hp := of_decide_eq_true hp
  have e : ((k : Int) - 1).toNat = k - 1 := by omega
  simp only [e, g1 (k - 1) (show k - 1 < N.length by omega)]
  refine ⟨inR_i64 (by omega) (by omega), by omega, ?_⟩
  have hlt : Op.bytesLess (N.getD (k - 1) []) (N.getD k []) = true := by
    rw [Go.Proofs.bytesLess_eq, decide_eq_true_eq]
    have := List.pairwise_iff_getElem.1 n1 (k - 1) k (by omega) hk' (by omega)
    rw [List.getD_eq_getElem?_getD, List.getD_eq_getElem?_getD, List.getElem?_eq_getElem (show k - 1 < N.length by omega), List.getElem?_eq_getElem hk']
    exact this
  rw [if_neg (by simp only [hlt]; decide)]
  exact tail
theorem vc_DifferChain (a b c : List AL.Item) (ha : Wf (.lst (.st .item)) a) (hb : Wf (.lst (.st .item)) b) (hc : Wf (.lst (.st .item)) c) :
    if (!decide (ifaceF a = (0 : Int))) = true then True ∧ true = true ∧ True
    else
      if (!decide (ifaceF b = (0 : Int))) = true then True ∧ true = true ∧ True
      else
        if (!decide (ifaceF c = (0 : Int))) = true then True ∧ true = true ∧ True
        else
          if (!smallF a) = true then True ∧ true = true ∧ True
          else
            if (!smallF b) = true then True ∧ true = true ∧ True
            else
              if (!smallF c) = true then True ∧ true = true ∧ True
              else
                List.length a + List.length b ≤ (1000000 : Nat) ∧
                  List.length b + List.length c ≤ (1000000 : Nat) ∧
                    List.length a + List.length c ≤ (1000000 : Nat) ∧
                      if decide (classF (diffF a c) ≤ max (classF (diffF a b)) (classF (diffF b c))) = true then
                        True ∧ true = true ∧ True
                      else True ∧ false = true ∧ True := by
  simp only [Int.toNat_natCast, eq_self, true_and, and_true]
  refine ite_intro (fun _ => trivial) (fun h1 => ite_intro (fun _ => trivial) (fun h2 => ite_intro (fun _ => trivial) (fun h3 => ite_intro (fun _ => trivial) (fun h4 => ite_intro (fun _ => trivial) (fun h5 => ite_intro (fun _ => trivial) (fun h6 => ?_))))))
  replace h1 : ifaceF a = 0 := by simpa using h1
  replace h2 : ifaceF b = 0 := by simpa using h2
  replace h3 : ifaceF c = 0 := by simpa using h3
  have l4 := smallF_len (l := a) (by simpa using h4)
  have l5 := smallF_len (l := b) (by simpa using h5)
  have l6 := smallF_len (l := c) (by simpa using h6)
  refine ⟨by omega, by omega, by omega, ?_⟩
  rw [if_pos (decide_eq_true (diff_chain h1 h2 h3))]
  trivial
end Go.AL.Seat
