/-
  What the functions' conditions say, proved. No condition.
-/
import Derived.Test.YtjemjblnddfdbaaAlR
import Derived.Test.YtjemjblnddfdbaaAlY
import Derived.Test.YtjemjblnddfdbaaPg
import Derived.Test.YtjemjblnddfdbaaPi
set_option linter.unusedVariables false
set_option linter.unusedSimpArgs false
set_option linter.unnecessarySimpa false
set_option linter.deprecated false
open Go Go.AL Go.Pd
namespace Go.AL.Seat
set_option linter.unusedVariables false
set_option maxRecDepth 100000
theorem vc_Show (l : List Change) (hl : Wf (.lst (.st .change)) l) (hb : showN l ≤ 1000000) :
    (∃ (x : Nat × Str),
        (x.fst ≤ List.length l ∧
            showGo (List.drop x.fst l) x.snd = showF l ∧ List.length x.snd + showN (List.drop x.fst l) ≤ (1000000 : Nat)) ∧
          (0 : Int) = (↑x.fst : Int) ∧
            l = l ∧
              noOf UInt8 = noOf UInt8 ∧ l = l ∧ (↑(List.length l) : Int) = (↑(List.length l) : Int) ∧ [] = x.snd ∧ True) ∧
      ∀ (x : Nat × Str),
        x.fst ≤ List.length l ∧
            showGo (List.drop x.fst l) x.snd = showF l ∧ List.length x.snd + showN (List.drop x.fst l) ≤ (1000000 : Nat) →
          if decide ((↑x.fst : Int) < (↑(List.length l) : Int)) = true then
            ((0 : Int) ≤ (↑x.fst : Int) ∧ (↑x.fst : Int) < (↑(List.length l) : Int)) ∧
              if decide ((1 : Int) ≤ (List.getD l (Int.toNat (↑x.fst : Int)) (dfl (Ty.st SN.change))).kind) = true then
                if decide ((List.getD l (Int.toNat (↑x.fst : Int)) (dfl (Ty.st SN.change))).kind ≤ (5 : Int)) = true then
                  inR IntKind.i64 ((List.getD l (Int.toNat (↑x.fst : Int)) (dfl (Ty.st SN.change))).kind - (1 : Int)) ∧
                    ((0 : Int) ≤ (List.getD l (Int.toNat (↑x.fst : Int)) (dfl (Ty.st SN.change))).kind - (1 : Int) ∧
                        (List.getD l (Int.toNat (↑x.fst : Int)) (dfl (Ty.st SN.change))).kind - (1 : Int) ≤
                            (List.getD l (Int.toNat (↑x.fst : Int)) (dfl (Ty.st SN.change))).kind ∧
                          (List.getD l (Int.toNat (↑x.fst : Int)) (dfl (Ty.st SN.change))).kind ≤
                            (↑(List.length [(43 : UInt8), (45 : UInt8), (33 : UInt8), (126 : UInt8), (60 : UInt8)]) :
                              Int)) ∧
                      List.length
                              (List.drop
                                (Int.toNat
                                  ((List.getD l (Int.toNat (↑x.fst : Int)) (dfl (Ty.st SN.change))).kind - (1 : Int)))
                                (List.take (Int.toNat (List.getD l (Int.toNat (↑x.fst : Int)) (dfl (Ty.st SN.change))).kind)
                                  [(43 : UInt8), (45 : UInt8), (33 : UInt8), (126 : UInt8), (60 : UInt8)])) +
                            List.length [(32 : UInt8)] ≤
                          (9223372036854775807 : Nat) ∧
                        List.length
                                (List.drop
                                    (Int.toNat
                                      ((List.getD l (Int.toNat (↑x.fst : Int)) (dfl (Ty.st SN.change))).kind - (1 : Int)))
                                    (List.take
                                      (Int.toNat (List.getD l (Int.toNat (↑x.fst : Int)) (dfl (Ty.st SN.change))).kind)
                                      [(43 : UInt8), (45 : UInt8), (33 : UInt8), (126 : UInt8), (60 : UInt8)]) ++
                                  [(32 : UInt8)]) +
                              List.length (List.getD l (Int.toNat (↑x.fst : Int)) (dfl (Ty.st SN.change))).name ≤
                            (9223372036854775807 : Nat) ∧
                          List.length
                                  (List.drop
                                        (Int.toNat
                                          ((List.getD l (Int.toNat (↑x.fst : Int)) (dfl (Ty.st SN.change))).kind -
                                            (1 : Int)))
                                        (List.take
                                          (Int.toNat (List.getD l (Int.toNat (↑x.fst : Int)) (dfl (Ty.st SN.change))).kind)
                                          [(43 : UInt8), (45 : UInt8), (33 : UInt8), (126 : UInt8), (60 : UInt8)]) ++
                                      [(32 : UInt8)] ++
                                    (List.getD l (Int.toNat (↑x.fst : Int)) (dfl (Ty.st SN.change))).name) +
                                List.length [(10 : UInt8)] ≤
                              (9223372036854775807 : Nat) ∧
                            List.length x.snd +
                                  List.length
                                    (List.drop
                                            (Int.toNat
                                              ((List.getD l (Int.toNat (↑x.fst : Int)) (dfl (Ty.st SN.change))).kind -
                                                (1 : Int)))
                                            (List.take
                                              (Int.toNat
                                                (List.getD l (Int.toNat (↑x.fst : Int)) (dfl (Ty.st SN.change))).kind)
                                              [(43 : UInt8), (45 : UInt8), (33 : UInt8), (126 : UInt8), (60 : UInt8)]) ++
                                          [(32 : UInt8)] ++
                                        (List.getD l (Int.toNat (↑x.fst : Int)) (dfl (Ty.st SN.change))).name ++
                                      [(10 : UInt8)]) ≤
                                (140737488355328 : Nat) ∧
                              inR IntKind.i64 ((↑x.fst : Int) + (1 : Int)) ∧
                                ∃ (y : Nat × Str),
                                  (y.fst ≤ List.length l ∧
                                      showGo (List.drop y.fst l) y.snd = showF l ∧
                                        List.length y.snd + showN (List.drop y.fst l) ≤ (1000000 : Nat)) ∧
                                    List.length l - y.fst < List.length l - x.fst ∧
                                      (↑x.fst : Int) + (1 : Int) = (↑y.fst : Int) ∧
                                        l = l ∧
                                          noOf UInt8 = noOf UInt8 ∧
                                            l = l ∧
                                              (↑(List.length l) : Int) = (↑(List.length l) : Int) ∧
                                                x.snd ++
                                                      (List.drop
                                                              (Int.toNat
                                                                ((List.getD l (Int.toNat (↑x.fst : Int))
                                                                      (dfl (Ty.st SN.change))).kind -
                                                                  (1 : Int)))
                                                              (List.take
                                                                (Int.toNat
                                                                  (List.getD l (Int.toNat (↑x.fst : Int))
                                                                      (dfl (Ty.st SN.change))).kind)
                                                                [(43 : UInt8), (45 : UInt8), (33 : UInt8), (126 : UInt8),
                                                                  (60 : UInt8)]) ++
                                                            [(32 : UInt8)] ++
                                                          (List.getD l (Int.toNat (↑x.fst : Int))
                                                              (dfl (Ty.st SN.change))).name ++
                                                        [(10 : UInt8)]) =
                                                    y.snd ∧
                                                  True
                else
                  List.length [(63 : UInt8)] + List.length [(32 : UInt8)] ≤ (9223372036854775807 : Nat) ∧
                    List.length ([(63 : UInt8)] ++ [(32 : UInt8)]) +
                          List.length (List.getD l (Int.toNat (↑x.fst : Int)) (dfl (Ty.st SN.change))).name ≤
                        (9223372036854775807 : Nat) ∧
                      List.length
                              ([(63 : UInt8)] ++ [(32 : UInt8)] ++
                                (List.getD l (Int.toNat (↑x.fst : Int)) (dfl (Ty.st SN.change))).name) +
                            List.length [(10 : UInt8)] ≤
                          (9223372036854775807 : Nat) ∧
                        List.length x.snd +
                              List.length
                                ([(63 : UInt8)] ++ [(32 : UInt8)] ++
                                    (List.getD l (Int.toNat (↑x.fst : Int)) (dfl (Ty.st SN.change))).name ++
                                  [(10 : UInt8)]) ≤
                            (140737488355328 : Nat) ∧
                          inR IntKind.i64 ((↑x.fst : Int) + (1 : Int)) ∧
                            ∃ (y : Nat × Str),
                              (y.fst ≤ List.length l ∧
                                  showGo (List.drop y.fst l) y.snd = showF l ∧
                                    List.length y.snd + showN (List.drop y.fst l) ≤ (1000000 : Nat)) ∧
                                List.length l - y.fst < List.length l - x.fst ∧
                                  (↑x.fst : Int) + (1 : Int) = (↑y.fst : Int) ∧
                                    l = l ∧
                                      noOf UInt8 = noOf UInt8 ∧
                                        l = l ∧
                                          (↑(List.length l) : Int) = (↑(List.length l) : Int) ∧
                                            x.snd ++
                                                  ([(63 : UInt8)] ++ [(32 : UInt8)] ++
                                                      (List.getD l (Int.toNat (↑x.fst : Int))
                                                          (dfl (Ty.st SN.change))).name ++
                                                    [(10 : UInt8)]) =
                                                y.snd ∧
                                              True
              else
                List.length [(63 : UInt8)] + List.length [(32 : UInt8)] ≤ (9223372036854775807 : Nat) ∧
                  List.length ([(63 : UInt8)] ++ [(32 : UInt8)]) +
                        List.length (List.getD l (Int.toNat (↑x.fst : Int)) (dfl (Ty.st SN.change))).name ≤
                      (9223372036854775807 : Nat) ∧
                    List.length
                            ([(63 : UInt8)] ++ [(32 : UInt8)] ++
                              (List.getD l (Int.toNat (↑x.fst : Int)) (dfl (Ty.st SN.change))).name) +
                          List.length [(10 : UInt8)] ≤
                        (9223372036854775807 : Nat) ∧
                      List.length x.snd +
                            List.length
                              ([(63 : UInt8)] ++ [(32 : UInt8)] ++
                                  (List.getD l (Int.toNat (↑x.fst : Int)) (dfl (Ty.st SN.change))).name ++
                                [(10 : UInt8)]) ≤
                          (140737488355328 : Nat) ∧
                        inR IntKind.i64 ((↑x.fst : Int) + (1 : Int)) ∧
                          ∃ (y : Nat × Str),
                            (y.fst ≤ List.length l ∧
                                showGo (List.drop y.fst l) y.snd = showF l ∧
                                  List.length y.snd + showN (List.drop y.fst l) ≤ (1000000 : Nat)) ∧
                              List.length l - y.fst < List.length l - x.fst ∧
                                (↑x.fst : Int) + (1 : Int) = (↑y.fst : Int) ∧
                                  l = l ∧
                                    noOf UInt8 = noOf UInt8 ∧
                                      l = l ∧
                                        (↑(List.length l) : Int) = (↑(List.length l) : Int) ∧
                                          x.snd ++
                                                ([(63 : UInt8)] ++ [(32 : UInt8)] ++
                                                    (List.getD l (Int.toNat (↑x.fst : Int)) (dfl (Ty.st SN.change))).name ++
                                                  [(10 : UInt8)]) =
                                              y.snd ∧
                                            True
          else List.length x.snd ≤ maxN ∧ True ∧ x.snd = showF l ∧ True := by
  have ln := hl.len
  simp only [Int.toNat_natCast, eq_self, true_and, and_true]
  refine ⟨⟨(0, []), ⟨Nat.zero_le _, rfl, by simpa using hb⟩, rfl, rfl⟩, ?_⟩
  rintro ⟨k, o⟩ ⟨h1, h2, h3⟩
  simp only at h1 h2 h3 ⊢
  refine ite_intro (fun h => ?_) (fun h => ?_)
  · replace h := of_decide_eq_true h
    have hk : k < l.length := by omega
    rw [drop_getD l k (dfl (.st .change)) hk] at h2 h3
    simp only [showGo, showN] at h2 h3
    have fin : ∀ t : Str, t = signF (l.getD k (dfl (.st .change))).kind → t.length = 1 → (t.length + [(32 : UInt8)].length ≤ 9223372036854775807 ∧ (t ++ [(32 : UInt8)]).length + (l.getD k (dfl (.st .change))).name.length ≤ 9223372036854775807 ∧ (t ++ [(32 : UInt8)] ++ (l.getD k (dfl (.st .change))).name).length + [(10 : UInt8)].length ≤ 9223372036854775807 ∧
        o.length + (t ++ [(32 : UInt8)] ++ (l.getD k (dfl (.st .change))).name ++ [(10 : UInt8)]).length ≤ 140737488355328 ∧ inR IntKind.i64 ((k : Int) + 1) ∧
        ∃ y : Nat × Str, (y.fst ≤ l.length ∧ showGo (l.drop y.fst) y.snd = showF l ∧ y.snd.length + showN (l.drop y.fst) ≤ 1000000) ∧ l.length - y.fst < l.length - k ∧ (k : Int) + 1 = (y.fst : Int) ∧ o ++ (t ++ [(32 : UInt8)] ++ (l.getD k (dfl (.st .change))).name ++ [(10 : UInt8)]) = y.snd) := by
      rintro t rfl ht
      have e1 : (signF (l.getD k (dfl (.st .change))).kind ++ [(32 : UInt8)] ++ (l.getD k (dfl (.st .change))).name ++ [(10 : UInt8)]).length = (l.getD k (dfl (.st .change))).name.length + 3 := by simp only [List.length_append, List.length_singleton, ht]; omega
      refine ⟨by simp only [List.length_singleton]; omega, by simp only [List.length_append, List.length_singleton]; omega, by simp only [List.length_append, List.length_singleton]; omega, by rw [e1]; omega, inR_len hk ln, (k + 1, _), ⟨by omega, h2, ?_⟩, by simp only; omega, rfl, rfl⟩
      simp only
      rw [List.length_append, e1]
      omega
    have hq : ∀ h : ¬ (1 ≤ (l.getD k (dfl (.st .change))).kind ∧ (l.getD k (dfl (.st .change))).kind ≤ 5), [(63 : UInt8)] = signF (l.getD k (dfl (.st .change))).kind := fun h => by unfold signF; rw [if_neg h]
    refine ⟨by omega, ite_intro (fun a1 => ?_) (fun a1 => ?_)⟩
    · replace a1 := of_decide_eq_true a1
      refine ite_intro (fun a2 => ?_) (fun a2 => ?_)
      · replace a2 := of_decide_eq_true a2
        have e2 : (signs.take (l.getD k (dfl (.st .change))).kind.toNat).drop ((l.getD k (dfl (.st .change))).kind - 1).toNat = signF (l.getD k (dfl (.st .change))).kind := by unfold signF; rw [if_pos ⟨a1, a2⟩]
        refine ⟨inR_i64 (by omega) (by omega), ⟨by omega, by omega, by simp only [List.length_cons, List.length_nil]; omega⟩, ?_⟩
        refine fin _ e2 ?_
        show ((signs.take (l.getD k (dfl (.st .change))).kind.toNat).drop ((l.getD k (dfl (.st .change))).kind - 1).toNat).length = 1
        have hsl : signs.length = 5 := rfl
        rw [List.length_drop, List.length_take, hsl]
        omega
      · exact fin _ (hq fun e => a2 (decide_eq_true e.2)) rfl
    · exact fin _ (hq fun e => a1 (decide_eq_true e.1)) rfl
  · replace h : ¬ ((k : Int) < (l.length : Int)) := fun e => h (decide_eq_true e)
    have e : k = l.length := by omega
    subst e
    rw [List.drop_length] at h2 h3
    simp only [showGo, showN] at h2 h3
    refine ⟨?_, h2⟩
    first | omega | (unfold maxN; omega)
theorem vc_rClass (l : List Change) (hl : Wf (.lst (.st .change)) l) :
    (∃ (x : Nat × Int),
        (x.fst ≤ List.length l ∧ classR (List.drop x.fst l) x.snd = classF l) ∧
          (0 : Int) = x.snd ∧ (0 : Int) = (↑x.fst : Int) ∧ l = l ∧ (0 : Int) = (0 : Int) ∧ True) ∧
      ∀ (x : Nat × Int),
        x.fst ≤ List.length l ∧ classR (List.drop x.fst l) x.snd = classF l →
          if decide ((↑x.fst : Int) < (↑(List.length l) : Int)) = true then
            ((0 : Int) ≤ (↑x.fst : Int) ∧ (↑x.fst : Int) < (↑(List.length l) : Int)) ∧
              if decide ((List.getD l (Int.toNat (↑x.fst : Int)) (dfl (Ty.st SN.change))).kind = (2 : Int)) = true then
                if decide ((List.getD l (Int.toNat (↑x.fst : Int)) (dfl (Ty.st SN.change))).kind = (1 : Int)) = true then
                  inR IntKind.i64 ((↑x.fst : Int) + (1 : Int)) ∧
                    ∃ (y : Nat × Int),
                      (y.fst ≤ List.length l ∧ classR (List.drop y.fst l) y.snd = classF l) ∧
                        List.length l - y.fst < List.length l - x.fst ∧
                          (2 : Int) = y.snd ∧
                            (↑x.fst : Int) + (1 : Int) = (↑y.fst : Int) ∧ l = l ∧ (0 : Int) = (0 : Int) ∧ True
                else
                  if decide ((List.getD l (Int.toNat (↑x.fst : Int)) (dfl (Ty.st SN.change))).kind = (5 : Int)) = true then
                    inR IntKind.i64 ((↑x.fst : Int) + (1 : Int)) ∧
                      ∃ (y : Nat × Int),
                        (y.fst ≤ List.length l ∧ classR (List.drop y.fst l) y.snd = classF l) ∧
                          List.length l - y.fst < List.length l - x.fst ∧
                            (2 : Int) = y.snd ∧
                              (↑x.fst : Int) + (1 : Int) = (↑y.fst : Int) ∧ l = l ∧ (0 : Int) = (0 : Int) ∧ True
                  else
                    inR IntKind.i64 ((↑x.fst : Int) + (1 : Int)) ∧
                      ∃ (y : Nat × Int),
                        (y.fst ≤ List.length l ∧ classR (List.drop y.fst l) y.snd = classF l) ∧
                          List.length l - y.fst < List.length l - x.fst ∧
                            (2 : Int) = y.snd ∧
                              (↑x.fst : Int) + (1 : Int) = (↑y.fst : Int) ∧ l = l ∧ (0 : Int) = (0 : Int) ∧ True
              else
                if decide ((List.getD l (Int.toNat (↑x.fst : Int)) (dfl (Ty.st SN.change))).kind = (3 : Int)) = true then
                  if decide ((List.getD l (Int.toNat (↑x.fst : Int)) (dfl (Ty.st SN.change))).kind = (1 : Int)) = true then
                    inR IntKind.i64 ((↑x.fst : Int) + (1 : Int)) ∧
                      ∃ (y : Nat × Int),
                        (y.fst ≤ List.length l ∧ classR (List.drop y.fst l) y.snd = classF l) ∧
                          List.length l - y.fst < List.length l - x.fst ∧
                            (2 : Int) = y.snd ∧
                              (↑x.fst : Int) + (1 : Int) = (↑y.fst : Int) ∧ l = l ∧ (0 : Int) = (0 : Int) ∧ True
                  else
                    if
                        decide ((List.getD l (Int.toNat (↑x.fst : Int)) (dfl (Ty.st SN.change))).kind = (5 : Int)) =
                          true then
                      inR IntKind.i64 ((↑x.fst : Int) + (1 : Int)) ∧
                        ∃ (y : Nat × Int),
                          (y.fst ≤ List.length l ∧ classR (List.drop y.fst l) y.snd = classF l) ∧
                            List.length l - y.fst < List.length l - x.fst ∧
                              (2 : Int) = y.snd ∧
                                (↑x.fst : Int) + (1 : Int) = (↑y.fst : Int) ∧ l = l ∧ (0 : Int) = (0 : Int) ∧ True
                    else
                      inR IntKind.i64 ((↑x.fst : Int) + (1 : Int)) ∧
                        ∃ (y : Nat × Int),
                          (y.fst ≤ List.length l ∧ classR (List.drop y.fst l) y.snd = classF l) ∧
                            List.length l - y.fst < List.length l - x.fst ∧
                              (2 : Int) = y.snd ∧
                                (↑x.fst : Int) + (1 : Int) = (↑y.fst : Int) ∧ l = l ∧ (0 : Int) = (0 : Int) ∧ True
                else
                  if decide ((List.getD l (Int.toNat (↑x.fst : Int)) (dfl (Ty.st SN.change))).kind = (4 : Int)) = true then
                    if
                        decide ((List.getD l (Int.toNat (↑x.fst : Int)) (dfl (Ty.st SN.change))).kind = (1 : Int)) =
                          true then
                      inR IntKind.i64 ((↑x.fst : Int) + (1 : Int)) ∧
                        ∃ (y : Nat × Int),
                          (y.fst ≤ List.length l ∧ classR (List.drop y.fst l) y.snd = classF l) ∧
                            List.length l - y.fst < List.length l - x.fst ∧
                              (2 : Int) = y.snd ∧
                                (↑x.fst : Int) + (1 : Int) = (↑y.fst : Int) ∧ l = l ∧ (0 : Int) = (0 : Int) ∧ True
                    else
                      if
                          decide ((List.getD l (Int.toNat (↑x.fst : Int)) (dfl (Ty.st SN.change))).kind = (5 : Int)) =
                            true then
                        inR IntKind.i64 ((↑x.fst : Int) + (1 : Int)) ∧
                          ∃ (y : Nat × Int),
                            (y.fst ≤ List.length l ∧ classR (List.drop y.fst l) y.snd = classF l) ∧
                              List.length l - y.fst < List.length l - x.fst ∧
                                (2 : Int) = y.snd ∧
                                  (↑x.fst : Int) + (1 : Int) = (↑y.fst : Int) ∧ l = l ∧ (0 : Int) = (0 : Int) ∧ True
                      else
                        inR IntKind.i64 ((↑x.fst : Int) + (1 : Int)) ∧
                          ∃ (y : Nat × Int),
                            (y.fst ≤ List.length l ∧ classR (List.drop y.fst l) y.snd = classF l) ∧
                              List.length l - y.fst < List.length l - x.fst ∧
                                (2 : Int) = y.snd ∧
                                  (↑x.fst : Int) + (1 : Int) = (↑y.fst : Int) ∧ l = l ∧ (0 : Int) = (0 : Int) ∧ True
                  else
                    if
                        decide ((List.getD l (Int.toNat (↑x.fst : Int)) (dfl (Ty.st SN.change))).kind = (1 : Int)) =
                          true then
                      if decide (x.snd = (0 : Int)) = true then
                        inR IntKind.i64 ((↑x.fst : Int) + (1 : Int)) ∧
                          ∃ (y : Nat × Int),
                            (y.fst ≤ List.length l ∧ classR (List.drop y.fst l) y.snd = classF l) ∧
                              List.length l - y.fst < List.length l - x.fst ∧
                                (1 : Int) = y.snd ∧
                                  (↑x.fst : Int) + (1 : Int) = (↑y.fst : Int) ∧ l = l ∧ (0 : Int) = (0 : Int) ∧ True
                      else
                        inR IntKind.i64 ((↑x.fst : Int) + (1 : Int)) ∧
                          ∃ (y : Nat × Int),
                            (y.fst ≤ List.length l ∧ classR (List.drop y.fst l) y.snd = classF l) ∧
                              List.length l - y.fst < List.length l - x.fst ∧
                                x.snd = y.snd ∧
                                  (↑x.fst : Int) + (1 : Int) = (↑y.fst : Int) ∧ l = l ∧ (0 : Int) = (0 : Int) ∧ True
                    else
                      if
                          decide ((List.getD l (Int.toNat (↑x.fst : Int)) (dfl (Ty.st SN.change))).kind = (5 : Int)) =
                            true then
                        if decide (x.snd = (0 : Int)) = true then
                          inR IntKind.i64 ((↑x.fst : Int) + (1 : Int)) ∧
                            ∃ (y : Nat × Int),
                              (y.fst ≤ List.length l ∧ classR (List.drop y.fst l) y.snd = classF l) ∧
                                List.length l - y.fst < List.length l - x.fst ∧
                                  (1 : Int) = y.snd ∧
                                    (↑x.fst : Int) + (1 : Int) = (↑y.fst : Int) ∧ l = l ∧ (0 : Int) = (0 : Int) ∧ True
                        else
                          inR IntKind.i64 ((↑x.fst : Int) + (1 : Int)) ∧
                            ∃ (y : Nat × Int),
                              (y.fst ≤ List.length l ∧ classR (List.drop y.fst l) y.snd = classF l) ∧
                                List.length l - y.fst < List.length l - x.fst ∧
                                  x.snd = y.snd ∧
                                    (↑x.fst : Int) + (1 : Int) = (↑y.fst : Int) ∧ l = l ∧ (0 : Int) = (0 : Int) ∧ True
                      else
                        inR IntKind.i64 ((↑x.fst : Int) + (1 : Int)) ∧
                          ∃ (y : Nat × Int),
                            (y.fst ≤ List.length l ∧ classR (List.drop y.fst l) y.snd = classF l) ∧
                              List.length l - y.fst < List.length l - x.fst ∧
                                x.snd = y.snd ∧
                                  (↑x.fst : Int) + (1 : Int) = (↑y.fst : Int) ∧ l = l ∧ (0 : Int) = (0 : Int) ∧ True
          else True ∧ x.snd = classF l ∧ True := by
  have ln := hl.len
  simp only [Int.toNat_natCast, eq_self, true_and, and_true]
  refine ⟨⟨(0, 0), ⟨Nat.zero_le _, classR_F l⟩, rfl, rfl⟩, ?_⟩
  rintro ⟨k, c⟩ ⟨h1, h2⟩
  simp only at h1 h2 ⊢
  refine ite_intro (fun h => ?_) (fun h => ?_)
  · replace h := of_decide_eq_true h
    have hk : k < l.length := by omega
    rw [drop_getD l k (dfl (.st .change)) hk] at h2
    simp only [classR] at h2
    have fin : ∀ d : Int, (if ((l.getD k (dfl (.st .change))).kind = 1 ∨ (l.getD k (dfl (.st .change))).kind = 5) ∧ (if (l.getD k (dfl (.st .change))).kind = 2 ∨ (l.getD k (dfl (.st .change))).kind = 3 ∨ (l.getD k (dfl (.st .change))).kind = 4 then (2 : Int) else c) = 0 then 1 else if (l.getD k (dfl (.st .change))).kind = 2 ∨ (l.getD k (dfl (.st .change))).kind = 3 ∨ (l.getD k (dfl (.st .change))).kind = 4 then 2 else c) = d →
        (inR IntKind.i64 ((k : Int) + 1) ∧ ∃ y : Nat × Int, (y.fst ≤ l.length ∧ classR (l.drop y.fst) y.snd = classF l) ∧ l.length - y.fst < l.length - k ∧ d = y.snd ∧ (k : Int) + 1 = (y.fst : Int)) := by
      intro d hd
      rw [hd] at h2
      exact ⟨inR_len hk ln, (k + 1, d), ⟨by omega, h2⟩, by simp only; omega, rfl, rfl⟩
    refine ⟨by omega, ?_⟩
    repeat' (refine ite_intro (fun _ => ?_) (fun _ => ?_))
    all_goals refine fin _ ?_
    all_goals simp_all
  · replace h : ¬ ((k : Int) < (l.length : Int)) := fun e => h (decide_eq_true e)
    have e : k = l.length := by omega
    subst e
    rw [List.drop_length] at h2
    exact h2
theorem vc_rShow (l : List Change) (hl : Wf (.lst (.st .change)) l) (hb : showN l ≤ 1000000) :
    (∃ (x : Nat × Str),
        (x.fst ≤ List.length l ∧
            showGo (List.drop x.fst l) x.snd = showF l ∧ List.length x.snd + showN (List.drop x.fst l) ≤ (1000000 : Nat)) ∧
          [] = x.snd ∧
            (0 : Int) = (↑x.fst : Int) ∧
              l = l ∧
                noOf UInt8 = noOf UInt8 ∧
                  [[(63 : UInt8)], [(43 : UInt8)], [(45 : UInt8)], [(33 : UInt8)], [(126 : UInt8)], [(60 : UInt8)]] =
                      [[(63 : UInt8)], [(43 : UInt8)], [(45 : UInt8)], [(33 : UInt8)], [(126 : UInt8)], [(60 : UInt8)]] ∧
                    List.length
                          [[(63 : UInt8)], [(43 : UInt8)], [(45 : UInt8)], [(33 : UInt8)], [(126 : UInt8)],
                            [(60 : UInt8)]] =
                        List.length
                          [[(63 : UInt8)], [(43 : UInt8)], [(45 : UInt8)], [(33 : UInt8)], [(126 : UInt8)],
                            [(60 : UInt8)]] ∧
                      True) ∧
      ∀ (x : Nat × Str),
        x.fst ≤ List.length l ∧
            showGo (List.drop x.fst l) x.snd = showF l ∧ List.length x.snd + showN (List.drop x.fst l) ≤ (1000000 : Nat) →
          if decide ((↑x.fst : Int) < (↑(List.length l) : Int)) = true then
            ((0 : Int) ≤ (↑x.fst : Int) ∧ (↑x.fst : Int) < (↑(List.length l) : Int)) ∧
              if decide ((List.getD l (Int.toNat (↑x.fst : Int)) (dfl (Ty.st SN.change))).kind < (1 : Int)) = true then
                ((0 : Int) ≤ (0 : Int) ∧
                    (0 : Int) <
                      (↑(List.length
                            [[(63 : UInt8)], [(43 : UInt8)], [(45 : UInt8)], [(33 : UInt8)], [(126 : UInt8)],
                              [(60 : UInt8)]]) :
                        Int)) ∧
                  List.length x.snd +
                        List.length
                          (List.getD
                            [[(63 : UInt8)], [(43 : UInt8)], [(45 : UInt8)], [(33 : UInt8)], [(126 : UInt8)],
                              [(60 : UInt8)]]
                            (Int.toNat (0 : Int)) (dfl Ty.str)) ≤
                      (9223372036854775807 : Nat) ∧
                    List.length
                            (x.snd ++
                              List.getD
                                [[(63 : UInt8)], [(43 : UInt8)], [(45 : UInt8)], [(33 : UInt8)], [(126 : UInt8)],
                                  [(60 : UInt8)]]
                                (Int.toNat (0 : Int)) (dfl Ty.str)) +
                          List.length [(32 : UInt8)] ≤
                        (9223372036854775807 : Nat) ∧
                      ((0 : Int) ≤ (↑x.fst : Int) ∧ (↑x.fst : Int) < (↑(List.length l) : Int)) ∧
                        List.length
                                (x.snd ++
                                    List.getD
                                      [[(63 : UInt8)], [(43 : UInt8)], [(45 : UInt8)], [(33 : UInt8)], [(126 : UInt8)],
                                        [(60 : UInt8)]]
                                      (Int.toNat (0 : Int)) (dfl Ty.str) ++
                                  [(32 : UInt8)]) +
                              List.length (List.getD l (Int.toNat (↑x.fst : Int)) (dfl (Ty.st SN.change))).name ≤
                            (9223372036854775807 : Nat) ∧
                          List.length
                                  (x.snd ++
                                        List.getD
                                          [[(63 : UInt8)], [(43 : UInt8)], [(45 : UInt8)], [(33 : UInt8)], [(126 : UInt8)],
                                            [(60 : UInt8)]]
                                          (Int.toNat (0 : Int)) (dfl Ty.str) ++
                                      [(32 : UInt8)] ++
                                    (List.getD l (Int.toNat (↑x.fst : Int)) (dfl (Ty.st SN.change))).name) +
                                List.length [(10 : UInt8)] ≤
                              (9223372036854775807 : Nat) ∧
                            inR IntKind.i64 ((↑x.fst : Int) + (1 : Int)) ∧
                              ∃ (y : Nat × Str),
                                (y.fst ≤ List.length l ∧
                                    showGo (List.drop y.fst l) y.snd = showF l ∧
                                      List.length y.snd + showN (List.drop y.fst l) ≤ (1000000 : Nat)) ∧
                                  List.length l - y.fst < List.length l - x.fst ∧
                                    x.snd ++
                                                List.getD
                                                  [[(63 : UInt8)], [(43 : UInt8)], [(45 : UInt8)], [(33 : UInt8)],
                                                    [(126 : UInt8)], [(60 : UInt8)]]
                                                  (Int.toNat (0 : Int)) (dfl Ty.str) ++
                                              [(32 : UInt8)] ++
                                            (List.getD l (Int.toNat (↑x.fst : Int)) (dfl (Ty.st SN.change))).name ++
                                          [(10 : UInt8)] =
                                        y.snd ∧
                                      (↑x.fst : Int) + (1 : Int) = (↑y.fst : Int) ∧
                                        l = l ∧
                                          noOf UInt8 = noOf UInt8 ∧
                                            [[(63 : UInt8)], [(43 : UInt8)], [(45 : UInt8)], [(33 : UInt8)],
                                                  [(126 : UInt8)], [(60 : UInt8)]] =
                                                [[(63 : UInt8)], [(43 : UInt8)], [(45 : UInt8)], [(33 : UInt8)],
                                                  [(126 : UInt8)], [(60 : UInt8)]] ∧
                                              List.length
                                                    [[(63 : UInt8)], [(43 : UInt8)], [(45 : UInt8)], [(33 : UInt8)],
                                                      [(126 : UInt8)], [(60 : UInt8)]] =
                                                  List.length
                                                    [[(63 : UInt8)], [(43 : UInt8)], [(45 : UInt8)], [(33 : UInt8)],
                                                      [(126 : UInt8)], [(60 : UInt8)]] ∧
                                                True
              else
                if decide ((5 : Int) < (List.getD l (Int.toNat (↑x.fst : Int)) (dfl (Ty.st SN.change))).kind) = true then
                  ((0 : Int) ≤ (0 : Int) ∧
                      (0 : Int) <
                        (↑(List.length
                              [[(63 : UInt8)], [(43 : UInt8)], [(45 : UInt8)], [(33 : UInt8)], [(126 : UInt8)],
                                [(60 : UInt8)]]) :
                          Int)) ∧
                    List.length x.snd +
                          List.length
                            (List.getD
                              [[(63 : UInt8)], [(43 : UInt8)], [(45 : UInt8)], [(33 : UInt8)], [(126 : UInt8)],
                                [(60 : UInt8)]]
                              (Int.toNat (0 : Int)) (dfl Ty.str)) ≤
                        (9223372036854775807 : Nat) ∧
                      List.length
                              (x.snd ++
                                List.getD
                                  [[(63 : UInt8)], [(43 : UInt8)], [(45 : UInt8)], [(33 : UInt8)], [(126 : UInt8)],
                                    [(60 : UInt8)]]
                                  (Int.toNat (0 : Int)) (dfl Ty.str)) +
                            List.length [(32 : UInt8)] ≤
                          (9223372036854775807 : Nat) ∧
                        ((0 : Int) ≤ (↑x.fst : Int) ∧ (↑x.fst : Int) < (↑(List.length l) : Int)) ∧
                          List.length
                                  (x.snd ++
                                      List.getD
                                        [[(63 : UInt8)], [(43 : UInt8)], [(45 : UInt8)], [(33 : UInt8)], [(126 : UInt8)],
                                          [(60 : UInt8)]]
                                        (Int.toNat (0 : Int)) (dfl Ty.str) ++
                                    [(32 : UInt8)]) +
                                List.length (List.getD l (Int.toNat (↑x.fst : Int)) (dfl (Ty.st SN.change))).name ≤
                              (9223372036854775807 : Nat) ∧
                            List.length
                                    (x.snd ++
                                          List.getD
                                            [[(63 : UInt8)], [(43 : UInt8)], [(45 : UInt8)], [(33 : UInt8)],
                                              [(126 : UInt8)], [(60 : UInt8)]]
                                            (Int.toNat (0 : Int)) (dfl Ty.str) ++
                                        [(32 : UInt8)] ++
                                      (List.getD l (Int.toNat (↑x.fst : Int)) (dfl (Ty.st SN.change))).name) +
                                  List.length [(10 : UInt8)] ≤
                                (9223372036854775807 : Nat) ∧
                              inR IntKind.i64 ((↑x.fst : Int) + (1 : Int)) ∧
                                ∃ (y : Nat × Str),
                                  (y.fst ≤ List.length l ∧
                                      showGo (List.drop y.fst l) y.snd = showF l ∧
                                        List.length y.snd + showN (List.drop y.fst l) ≤ (1000000 : Nat)) ∧
                                    List.length l - y.fst < List.length l - x.fst ∧
                                      x.snd ++
                                                  List.getD
                                                    [[(63 : UInt8)], [(43 : UInt8)], [(45 : UInt8)], [(33 : UInt8)],
                                                      [(126 : UInt8)], [(60 : UInt8)]]
                                                    (Int.toNat (0 : Int)) (dfl Ty.str) ++
                                                [(32 : UInt8)] ++
                                              (List.getD l (Int.toNat (↑x.fst : Int)) (dfl (Ty.st SN.change))).name ++
                                            [(10 : UInt8)] =
                                          y.snd ∧
                                        (↑x.fst : Int) + (1 : Int) = (↑y.fst : Int) ∧
                                          l = l ∧
                                            noOf UInt8 = noOf UInt8 ∧
                                              [[(63 : UInt8)], [(43 : UInt8)], [(45 : UInt8)], [(33 : UInt8)],
                                                    [(126 : UInt8)], [(60 : UInt8)]] =
                                                  [[(63 : UInt8)], [(43 : UInt8)], [(45 : UInt8)], [(33 : UInt8)],
                                                    [(126 : UInt8)], [(60 : UInt8)]] ∧
                                                List.length
                                                      [[(63 : UInt8)], [(43 : UInt8)], [(45 : UInt8)], [(33 : UInt8)],
                                                        [(126 : UInt8)], [(60 : UInt8)]] =
                                                    List.length
                                                      [[(63 : UInt8)], [(43 : UInt8)], [(45 : UInt8)], [(33 : UInt8)],
                                                        [(126 : UInt8)], [(60 : UInt8)]] ∧
                                                  True
                else
                  ((0 : Int) ≤ (List.getD l (Int.toNat (↑x.fst : Int)) (dfl (Ty.st SN.change))).kind ∧
                      (List.getD l (Int.toNat (↑x.fst : Int)) (dfl (Ty.st SN.change))).kind <
                        (↑(List.length
                              [[(63 : UInt8)], [(43 : UInt8)], [(45 : UInt8)], [(33 : UInt8)], [(126 : UInt8)],
                                [(60 : UInt8)]]) :
                          Int)) ∧
                    List.length x.snd +
                          List.length
                            (List.getD
                              [[(63 : UInt8)], [(43 : UInt8)], [(45 : UInt8)], [(33 : UInt8)], [(126 : UInt8)],
                                [(60 : UInt8)]]
                              (Int.toNat (List.getD l (Int.toNat (↑x.fst : Int)) (dfl (Ty.st SN.change))).kind)
                              (dfl Ty.str)) ≤
                        (9223372036854775807 : Nat) ∧
                      List.length
                              (x.snd ++
                                List.getD
                                  [[(63 : UInt8)], [(43 : UInt8)], [(45 : UInt8)], [(33 : UInt8)], [(126 : UInt8)],
                                    [(60 : UInt8)]]
                                  (Int.toNat (List.getD l (Int.toNat (↑x.fst : Int)) (dfl (Ty.st SN.change))).kind)
                                  (dfl Ty.str)) +
                            List.length [(32 : UInt8)] ≤
                          (9223372036854775807 : Nat) ∧
                        ((0 : Int) ≤ (↑x.fst : Int) ∧ (↑x.fst : Int) < (↑(List.length l) : Int)) ∧
                          List.length
                                  (x.snd ++
                                      List.getD
                                        [[(63 : UInt8)], [(43 : UInt8)], [(45 : UInt8)], [(33 : UInt8)], [(126 : UInt8)],
                                          [(60 : UInt8)]]
                                        (Int.toNat (List.getD l (Int.toNat (↑x.fst : Int)) (dfl (Ty.st SN.change))).kind)
                                        (dfl Ty.str) ++
                                    [(32 : UInt8)]) +
                                List.length (List.getD l (Int.toNat (↑x.fst : Int)) (dfl (Ty.st SN.change))).name ≤
                              (9223372036854775807 : Nat) ∧
                            List.length
                                    (x.snd ++
                                          List.getD
                                            [[(63 : UInt8)], [(43 : UInt8)], [(45 : UInt8)], [(33 : UInt8)],
                                              [(126 : UInt8)], [(60 : UInt8)]]
                                            (Int.toNat
                                              (List.getD l (Int.toNat (↑x.fst : Int)) (dfl (Ty.st SN.change))).kind)
                                            (dfl Ty.str) ++
                                        [(32 : UInt8)] ++
                                      (List.getD l (Int.toNat (↑x.fst : Int)) (dfl (Ty.st SN.change))).name) +
                                  List.length [(10 : UInt8)] ≤
                                (9223372036854775807 : Nat) ∧
                              inR IntKind.i64 ((↑x.fst : Int) + (1 : Int)) ∧
                                ∃ (y : Nat × Str),
                                  (y.fst ≤ List.length l ∧
                                      showGo (List.drop y.fst l) y.snd = showF l ∧
                                        List.length y.snd + showN (List.drop y.fst l) ≤ (1000000 : Nat)) ∧
                                    List.length l - y.fst < List.length l - x.fst ∧
                                      x.snd ++
                                                  List.getD
                                                    [[(63 : UInt8)], [(43 : UInt8)], [(45 : UInt8)], [(33 : UInt8)],
                                                      [(126 : UInt8)], [(60 : UInt8)]]
                                                    (Int.toNat
                                                      (List.getD l (Int.toNat (↑x.fst : Int)) (dfl (Ty.st SN.change))).kind)
                                                    (dfl Ty.str) ++
                                                [(32 : UInt8)] ++
                                              (List.getD l (Int.toNat (↑x.fst : Int)) (dfl (Ty.st SN.change))).name ++
                                            [(10 : UInt8)] =
                                          y.snd ∧
                                        (↑x.fst : Int) + (1 : Int) = (↑y.fst : Int) ∧
                                          l = l ∧
                                            noOf UInt8 = noOf UInt8 ∧
                                              [[(63 : UInt8)], [(43 : UInt8)], [(45 : UInt8)], [(33 : UInt8)],
                                                    [(126 : UInt8)], [(60 : UInt8)]] =
                                                  [[(63 : UInt8)], [(43 : UInt8)], [(45 : UInt8)], [(33 : UInt8)],
                                                    [(126 : UInt8)], [(60 : UInt8)]] ∧
                                                List.length
                                                      [[(63 : UInt8)], [(43 : UInt8)], [(45 : UInt8)], [(33 : UInt8)],
                                                        [(126 : UInt8)], [(60 : UInt8)]] =
                                                    List.length
                                                      [[(63 : UInt8)], [(43 : UInt8)], [(45 : UInt8)], [(33 : UInt8)],
                                                        [(126 : UInt8)], [(60 : UInt8)]] ∧
                                                  True
          else True ∧ x.snd = showF l ∧ True := by
  have ln := hl.len
  simp only [Int.toNat_natCast, eq_self, true_and, and_true]
  refine ⟨⟨(0, []), ⟨Nat.zero_le _, rfl, by simpa using hb⟩, rfl, rfl⟩, ?_⟩
  rintro ⟨k, o⟩ ⟨h1, h2, h3⟩
  simp only at h1 h2 h3 ⊢
  refine ite_intro (fun h => ?_) (fun h => ?_)
  · replace h := of_decide_eq_true h
    have hk : k < l.length := by omega
    rw [drop_getD l k (dfl (.st .change)) hk] at h2 h3
    simp only [showGo, showN] at h2 h3
    have fin : ∀ t : Str, t = signF (l.getD k (dfl (.st .change))).kind → t.length = 1 → (o.length + t.length ≤ 9223372036854775807 ∧ (o ++ t).length + [(32 : UInt8)].length ≤ 9223372036854775807 ∧ (0 ≤ (k : Int) ∧ (k : Int) < (l.length : Int)) ∧
        (o ++ t ++ [(32 : UInt8)]).length + (l.getD k (dfl (.st .change))).name.length ≤ 9223372036854775807 ∧ (o ++ t ++ [(32 : UInt8)] ++ (l.getD k (dfl (.st .change))).name).length + [(10 : UInt8)].length ≤ 9223372036854775807 ∧ inR IntKind.i64 ((k : Int) + 1) ∧
        ∃ y : Nat × Str, (y.fst ≤ l.length ∧ showGo (l.drop y.fst) y.snd = showF l ∧ y.snd.length + showN (l.drop y.fst) ≤ 1000000) ∧ l.length - y.fst < l.length - k ∧ o ++ t ++ [(32 : UInt8)] ++ (l.getD k (dfl (.st .change))).name ++ [(10 : UInt8)] = y.snd ∧ (k : Int) + 1 = (y.fst : Int)) := by
      rintro t rfl ht
      refine ⟨by omega, by simp only [List.length_append, List.length_singleton]; omega, by omega, by simp only [List.length_append, List.length_singleton]; omega, by simp only [List.length_append, List.length_singleton]; omega, inR_len hk ln, (k + 1, _), ⟨by omega, h2, ?_⟩, by simp only; omega, by simp only [List.append_assoc], rfl⟩
      simp only [List.length_append, List.length_singleton]
      omega
    have hq : ∀ h : ¬ (1 ≤ (l.getD k (dfl (.st .change))).kind ∧ (l.getD k (dfl (.st .change))).kind ≤ 5), [(63 : UInt8)] = signF (l.getD k (dfl (.st .change))).kind := fun h => by unfold signF; rw [if_neg h]
    refine ⟨by omega, ite_intro (fun a1 => ?_) (fun a1 => ?_)⟩
    · replace a1 := of_decide_eq_true a1
      exact ⟨by decide, fin [63] (hq (by omega)) rfl⟩
    · replace a1 := fun e => a1 (decide_eq_true e)
      refine ite_intro (fun a2 => ?_) (fun a2 => ?_)
      · replace a2 := of_decide_eq_true a2
        exact ⟨by decide, fin [63] (hq (by omega)) rfl⟩
      · replace a2 : ¬ (5 : Int) < (l.getD k (dfl (.st .change))).kind := fun e => a2 (decide_eq_true e)
        replace a1 : ¬ (l.getD k (dfl (.st .change))).kind < (1 : Int) := a1
        have key : [[(63 : UInt8)], [43], [45], [33], [126], [60]].getD (l.getD k (dfl (.st .change))).kind.toNat (dfl Ty.str) = signF (l.getD k (dfl (.st .change))).kind ∧ (signF (l.getD k (dfl (.st .change))).kind).length = 1 := by
          have : (l.getD k (dfl (.st .change))).kind = 1 ∨ (l.getD k (dfl (.st .change))).kind = 2 ∨ (l.getD k (dfl (.st .change))).kind = 3 ∨ (l.getD k (dfl (.st .change))).kind = 4 ∨ (l.getD k (dfl (.st .change))).kind = 5 := by omega
          rcases this with e | e | e | e | e <;> rw [e] <;> decide
        exact ⟨⟨by omega, by simp only [List.length_cons, List.length_nil]; omega⟩, fin _ key.1 (by rw [key.1]; exact key.2)⟩
  · replace h : ¬ ((k : Int) < (l.length : Int)) := fun e => h (decide_eq_true e)
    have e : k = l.length := by omega
    subst e
    rw [List.drop_length] at h2
    exact h2
theorem vc_awake   :
    List.length
            [{ kind := (3 : Int), name := [(102 : UInt8)],
                shape :=
                  { kind := (6 : Int), pkg := [], name := [], names := [[(97 : UInt8)]],
                    parts := [{ kind := (1 : Int), pkg := [], name := [], names := [], parts := [] : Shape }] : Shape } :
                AL.Item }] +
          List.length
            [{ kind := (3 : Int), name := [(102 : UInt8)],
                shape :=
                  { kind := (6 : Int), pkg := [], name := [], names := [[(97 : UInt8)], [(98 : UInt8)]],
                    parts :=
                      [{ kind := (1 : Int), pkg := [], name := [], names := [], parts := [] : Shape },
                        { kind := (1 : Int), pkg := [], name := [], names := [], parts := [] : Shape }] :
                    Shape } :
                AL.Item },
              { kind := (2 : Int), name := [(75 : UInt8)],
                shape := { kind := (0 : Int), pkg := [], name := [], names := [], parts := [] : Shape } : AL.Item }] ≤
        (1000000 : Nat) ∧
      List.length
              [{ kind := (3 : Int), name := [(102 : UInt8)],
                  shape :=
                    { kind := (6 : Int), pkg := [], name := [], names := [[(97 : UInt8)], [(98 : UInt8)]],
                      parts :=
                        [{ kind := (1 : Int), pkg := [], name := [], names := [], parts := [] : Shape },
                          { kind := (1 : Int), pkg := [], name := [], names := [], parts := [] : Shape }] :
                      Shape } :
                  AL.Item },
                { kind := (2 : Int), name := [(75 : UInt8)],
                  shape := { kind := (0 : Int), pkg := [], name := [], names := [], parts := [] : Shape } : AL.Item }] +
            List.length
              [{ kind := (3 : Int), name := [(102 : UInt8)],
                  shape :=
                    { kind := (6 : Int), pkg := [], name := [], names := [[(97 : UInt8)]],
                      parts := [{ kind := (1 : Int), pkg := [], name := [], names := [], parts := [] : Shape }] : Shape } :
                  AL.Item }] ≤
          (1000000 : Nat) ∧
        showN
              (diffF
                [{ kind := (3 : Int), name := [(102 : UInt8)],
                    shape :=
                      { kind := (6 : Int), pkg := [], name := [], names := [[(97 : UInt8)]],
                        parts := [{ kind := (1 : Int), pkg := [], name := [], names := [], parts := [] : Shape }] :
                        Shape } :
                    AL.Item }]
                [{ kind := (3 : Int), name := [(102 : UInt8)],
                    shape :=
                      { kind := (6 : Int), pkg := [], name := [], names := [[(97 : UInt8)], [(98 : UInt8)]],
                        parts :=
                          [{ kind := (1 : Int), pkg := [], name := [], names := [], parts := [] : Shape },
                            { kind := (1 : Int), pkg := [], name := [], names := [], parts := [] : Shape }] :
                        Shape } :
                    AL.Item },
                  { kind := (2 : Int), name := [(75 : UInt8)],
                    shape := { kind := (0 : Int), pkg := [], name := [], names := [], parts := [] : Shape } : AL.Item }]) ≤
            (1000000 : Nat) ∧
          if
              decide
                  (showF
                      (diffF
                        [{ kind := (3 : Int), name := [(102 : UInt8)],
                            shape :=
                              { kind := (6 : Int), pkg := [], name := [], names := [[(97 : UInt8)]],
                                parts := [{ kind := (1 : Int), pkg := [], name := [], names := [], parts := [] : Shape }] :
                                Shape } :
                            AL.Item }]
                        [{ kind := (3 : Int), name := [(102 : UInt8)],
                            shape :=
                              { kind := (6 : Int), pkg := [], name := [], names := [[(97 : UInt8)], [(98 : UInt8)]],
                                parts :=
                                  [{ kind := (1 : Int), pkg := [], name := [], names := [], parts := [] : Shape },
                                    { kind := (1 : Int), pkg := [], name := [], names := [], parts := [] : Shape }] :
                                Shape } :
                            AL.Item },
                          { kind := (2 : Int), name := [(75 : UInt8)],
                            shape := { kind := (0 : Int), pkg := [], name := [], names := [], parts := [] : Shape } :
                            AL.Item }]) =
                    [(43 : UInt8), (32 : UInt8), (75 : UInt8), (10 : UInt8), (60 : UInt8), (32 : UInt8), (102 : UInt8),
                      (10 : UInt8)]) =
                true then
            if
                decide
                    (classF
                        (diffF
                          [{ kind := (3 : Int), name := [(102 : UInt8)],
                              shape :=
                                { kind := (6 : Int), pkg := [], name := [], names := [[(97 : UInt8)]],
                                  parts :=
                                    [{ kind := (1 : Int), pkg := [], name := [], names := [], parts := [] : Shape }] :
                                  Shape } :
                              AL.Item }]
                          [{ kind := (3 : Int), name := [(102 : UInt8)],
                              shape :=
                                { kind := (6 : Int), pkg := [], name := [], names := [[(97 : UInt8)], [(98 : UInt8)]],
                                  parts :=
                                    [{ kind := (1 : Int), pkg := [], name := [], names := [], parts := [] : Shape },
                                      { kind := (1 : Int), pkg := [], name := [], names := [], parts := [] : Shape }] :
                                  Shape } :
                              AL.Item },
                            { kind := (2 : Int), name := [(75 : UInt8)],
                              shape := { kind := (0 : Int), pkg := [], name := [], names := [], parts := [] : Shape } :
                              AL.Item }]) =
                      (1 : Int)) =
                  true then
              showN
                    (diffF
                      [{ kind := (3 : Int), name := [(102 : UInt8)],
                          shape :=
                            { kind := (6 : Int), pkg := [], name := [], names := [[(97 : UInt8)], [(98 : UInt8)]],
                              parts :=
                                [{ kind := (1 : Int), pkg := [], name := [], names := [], parts := [] : Shape },
                                  { kind := (1 : Int), pkg := [], name := [], names := [], parts := [] : Shape }] :
                              Shape } :
                          AL.Item },
                        { kind := (2 : Int), name := [(75 : UInt8)],
                          shape := { kind := (0 : Int), pkg := [], name := [], names := [], parts := [] : Shape } : AL.Item }]
                      [{ kind := (3 : Int), name := [(102 : UInt8)],
                          shape :=
                            { kind := (6 : Int), pkg := [], name := [], names := [[(97 : UInt8)]],
                              parts := [{ kind := (1 : Int), pkg := [], name := [], names := [], parts := [] : Shape }] :
                              Shape } :
                          AL.Item }]) ≤
                  (1000000 : Nat) ∧
                if
                    decide
                        (showF
                            (diffF
                              [{ kind := (3 : Int), name := [(102 : UInt8)],
                                  shape :=
                                    { kind := (6 : Int), pkg := [], name := [], names := [[(97 : UInt8)], [(98 : UInt8)]],
                                      parts :=
                                        [{ kind := (1 : Int), pkg := [], name := [], names := [], parts := [] : Shape },
                                          { kind := (1 : Int), pkg := [], name := [], names := [], parts := [] : Shape }] :
                                      Shape } :
                                  AL.Item },
                                { kind := (2 : Int), name := [(75 : UInt8)],
                                  shape := { kind := (0 : Int), pkg := [], name := [], names := [], parts := [] : Shape } :
                                  AL.Item }]
                              [{ kind := (3 : Int), name := [(102 : UInt8)],
                                  shape :=
                                    { kind := (6 : Int), pkg := [], name := [], names := [[(97 : UInt8)]],
                                      parts :=
                                        [{ kind := (1 : Int), pkg := [], name := [], names := [], parts := [] : Shape }] :
                                      Shape } :
                                  AL.Item }]) =
                          [(45 : UInt8), (32 : UInt8), (75 : UInt8), (10 : UInt8), (126 : UInt8), (32 : UInt8),
                            (102 : UInt8), (10 : UInt8)]) =
                      true then
                  True ∧
                    decide
                          (classF
                              (diffF
                                [{ kind := (3 : Int), name := [(102 : UInt8)],
                                    shape :=
                                      { kind := (6 : Int), pkg := [], name := [], names := [[(97 : UInt8)], [(98 : UInt8)]],
                                        parts :=
                                          [{ kind := (1 : Int), pkg := [], name := [], names := [], parts := [] : Shape },
                                            { kind := (1 : Int), pkg := [], name := [], names := [], parts := [] :
                                              Shape }] :
                                        Shape } :
                                    AL.Item },
                                  { kind := (2 : Int), name := [(75 : UInt8)],
                                    shape :=
                                      { kind := (0 : Int), pkg := [], name := [], names := [], parts := [] : Shape } :
                                    AL.Item }]
                                [{ kind := (3 : Int), name := [(102 : UInt8)],
                                    shape :=
                                      { kind := (6 : Int), pkg := [], name := [], names := [[(97 : UInt8)]],
                                        parts :=
                                          [{ kind := (1 : Int), pkg := [], name := [], names := [], parts := [] : Shape }] :
                                        Shape } :
                                    AL.Item }]) =
                            (2 : Int)) =
                        true ∧
                      True
                else True ∧ false = true ∧ True
            else True ∧ false = true ∧ True
          else True ∧ false = true ∧ True := by
  have h1 := aw_there
  have h2 := aw_back
  unfold aw1 aw2 shI at h1 h2
  rw [h1, h2]
  refine ⟨by decide, by decide, by decide, ?_⟩
  rw [show showF [⟨1, [75]⟩, ⟨5, [102]⟩] = [43, 32, 75, 10, 60, 32, 102, 10] from by decide, show showF [⟨2, [75]⟩, ⟨4, [102]⟩] = [45, 32, 75, 10, 126, 32, 102, 10] from by decide,
    show classF [⟨1, [75]⟩, ⟨5, [102]⟩] = 1 from by decide, show classF [⟨2, [75]⟩, ⟨4, [102]⟩] = 2 from by decide]
  decide
theorem vc_DifferClasses (l : List Change) (hl : Wf (.lst (.st .change)) l) :
    (∃ (x : Nat),
        (x ≤ List.length l ∧ minN (List.take x l) ≤ (20000 : Nat)) ∧
          (0 : Int) = (↑(minN (List.take x l)) : Int) ∧ (0 : Int) = (↑x : Int) ∧ l = l ∧ True) ∧
      ∀ (x : Nat),
        x ≤ List.length l ∧ minN (List.take x l) ≤ (20000 : Nat) →
          if decide ((↑x : Int) < (↑(List.length l) : Int)) = true then
            ((0 : Int) ≤ (↑x : Int) ∧ (↑x : Int) < (↑(List.length l) : Int)) ∧
              inR IntKind.i64
                  (min (↑(List.length (List.getD l (Int.toNat (↑x : Int)) (dfl (Ty.st SN.change))).name) : Int)
                      (20000 : Int) +
                    (5 : Int)) ∧
                inR IntKind.i64
                    ((↑(minN (List.take x l)) : Int) +
                      (min (↑(List.length (List.getD l (Int.toNat (↑x : Int)) (dfl (Ty.st SN.change))).name) : Int)
                          (20000 : Int) +
                        (5 : Int))) ∧
                  if
                      decide
                          ((20000 : Int) <
                            (↑(minN (List.take x l)) : Int) +
                              (min (↑(List.length (List.getD l (Int.toNat (↑x : Int)) (dfl (Ty.st SN.change))).name) : Int)
                                  (20000 : Int) +
                                (5 : Int))) =
                        true then
                    True ∧ true = true ∧ True
                  else
                    inR IntKind.i64 ((↑x : Int) + (1 : Int)) ∧
                      ∃ (y : Nat),
                        (y ≤ List.length l ∧ minN (List.take y l) ≤ (20000 : Nat)) ∧
                          List.length l - y < List.length l - x ∧
                            (↑(minN (List.take x l)) : Int) +
                                  (min
                                      (↑(List.length (List.getD l (Int.toNat (↑x : Int)) (dfl (Ty.st SN.change))).name) :
                                        Int)
                                      (20000 : Int) +
                                    (5 : Int)) =
                                (↑(minN (List.take y l)) : Int) ∧
                              (↑x : Int) + (1 : Int) = (↑y : Int) ∧ l = l ∧ True
          else
            if decide (classF l = classF l) = true then
              showN l ≤ (1000000 : Nat) ∧
                showN l ≤ (1000000 : Nat) ∧
                  if decide (showF l = showF l) = true then True ∧ true = true ∧ True else True ∧ false = true ∧ True
            else True ∧ false = true ∧ True := by
  have ln := hl.len
  simp only [Int.toNat_natCast, eq_self, true_and, and_true, decide_true, if_true]
  refine ⟨⟨0, ⟨Nat.zero_le _, by simp [minN]⟩, by simp [minN], rfl⟩, ?_⟩
  rintro k ⟨h1, h2⟩
  refine ite_intro (fun h => ?_) (fun h => ?_)
  · replace h := of_decide_eq_true h
    have hk : k < l.length := by omega
    have hs := minN_take_succ l k (dfl (.st .change)) hk
    have e : (min ((l.getD k (dfl (.st .change))).name.length : Int) 20000 + 5) = ((min (l.getD k (dfl (.st .change))).name.length 20000 + 5 : Nat) : Int) := by omega
    simp only [e]
    have hlt : min (l.getD k (dfl (.st .change))).name.length 20000 ≤ 20000 := Nat.min_le_right _ _
    refine ⟨by omega, inR_i64 (by omega) (by omega), inR_i64 (by omega) (by omega), ite_intro (fun h => trivial) (fun h => ?_)⟩
    replace h : ¬ (20000 : Int) < (minN (l.take k) : Int) + ((min (l.getD k (dfl (.st .change))).name.length 20000 + 5 : Nat) : Int) := fun e => h (decide_eq_true e)
    exact ⟨inR_len hk ln, k + 1, ⟨by omega, by omega⟩, by omega, by omega, by omega⟩
  · replace h : ¬ ((k : Int) < (l.length : Int)) := fun e => h (decide_eq_true e)
    have e : k = l.length := by omega
    subst e
    rw [List.take_length] at h2
    have := minN_show l h2
    omega
end Go.AL.Seat
