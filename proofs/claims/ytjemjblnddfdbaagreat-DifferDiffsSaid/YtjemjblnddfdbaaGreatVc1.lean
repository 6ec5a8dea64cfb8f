/-
  What the functions' conditions say, proved. No condition.
-/
import Derived.Test.YtjemjblnddfdbaaGreatAlR
import Derived.Test.YtjemjblnddfdbaaGreatAlY
import Derived.Test.YtjemjblnddfdbaaGreatPd
import Derived.Test.YtjemjblnddfdbaaGreatPe
import Derived.Test.YtjemjblnddfdbaaGreatPf
import Derived.Test.YtjemjblnddfdbaaGreatPg
set_option linter.unusedVariables false
set_option linter.unusedSimpArgs false
set_option linter.unnecessarySimpa false
set_option linter.deprecated false
open Go Go.AL Go.Pd
namespace Go.AL.Seat
set_option linter.unusedVariables false
set_option maxRecDepth 100000
theorem vc_Class (l : List Change) (hl : Wf (.lst (.st .change)) l) :
    (∃ (x : Nat × Int),
        (x.fst ≤ List.length l ∧ ((0 : Int) ≤ x.snd ∧ x.snd ≤ (2 : Int)) ∧ classGo (List.drop x.fst l) x.snd = classF l) ∧
          (0 : Int) = x.snd ∧
            (0 : Int) = (↑x.fst : Int) ∧ l = l ∧ l = l ∧ (↑(List.length l) : Int) = (↑(List.length l) : Int) ∧ True) ∧
      ∀ (x : Nat × Int),
        x.fst ≤ List.length l ∧ ((0 : Int) ≤ x.snd ∧ x.snd ≤ (2 : Int)) ∧ classGo (List.drop x.fst l) x.snd = classF l →
          if decide ((↑x.fst : Int) < (↑(List.length l) : Int)) = true then
            ((0 : Int) ≤ (↑x.fst : Int) ∧ (↑x.fst : Int) < (↑(List.length l) : Int)) ∧
              if decide ((List.getD l (Int.toNat (↑x.fst : Int)) (dfl (Ty.st SN.change))).kind = (2 : Int)) = true then
                True ∧ (2 : Int) = classF l ∧ True
              else
                if decide ((List.getD l (Int.toNat (↑x.fst : Int)) (dfl (Ty.st SN.change))).kind = (3 : Int)) = true then
                  True ∧ (2 : Int) = classF l ∧ True
                else
                  if decide ((List.getD l (Int.toNat (↑x.fst : Int)) (dfl (Ty.st SN.change))).kind = (4 : Int)) = true then
                    True ∧ (2 : Int) = classF l ∧ True
                  else
                    if
                        decide ((List.getD l (Int.toNat (↑x.fst : Int)) (dfl (Ty.st SN.change))).kind = (1 : Int)) =
                          true then
                      inR IntKind.i64 ((↑x.fst : Int) + (1 : Int)) ∧
                        ∃ (y : Nat × Int),
                          (y.fst ≤ List.length l ∧
                              ((0 : Int) ≤ y.snd ∧ y.snd ≤ (2 : Int)) ∧ classGo (List.drop y.fst l) y.snd = classF l) ∧
                            List.length l - y.fst < List.length l - x.fst ∧
                              (1 : Int) = y.snd ∧
                                (↑x.fst : Int) + (1 : Int) = (↑y.fst : Int) ∧
                                  l = l ∧ l = l ∧ (↑(List.length l) : Int) = (↑(List.length l) : Int) ∧ True
                    else
                      if
                          decide ((List.getD l (Int.toNat (↑x.fst : Int)) (dfl (Ty.st SN.change))).kind = (5 : Int)) =
                            true then
                        inR IntKind.i64 ((↑x.fst : Int) + (1 : Int)) ∧
                          ∃ (y : Nat × Int),
                            (y.fst ≤ List.length l ∧
                                ((0 : Int) ≤ y.snd ∧ y.snd ≤ (2 : Int)) ∧ classGo (List.drop y.fst l) y.snd = classF l) ∧
                              List.length l - y.fst < List.length l - x.fst ∧
                                (1 : Int) = y.snd ∧
                                  (↑x.fst : Int) + (1 : Int) = (↑y.fst : Int) ∧
                                    l = l ∧ l = l ∧ (↑(List.length l) : Int) = (↑(List.length l) : Int) ∧ True
                      else
                        inR IntKind.i64 ((↑x.fst : Int) + (1 : Int)) ∧
                          ∃ (y : Nat × Int),
                            (y.fst ≤ List.length l ∧
                                ((0 : Int) ≤ y.snd ∧ y.snd ≤ (2 : Int)) ∧ classGo (List.drop y.fst l) y.snd = classF l) ∧
                              List.length l - y.fst < List.length l - x.fst ∧
                                x.snd = y.snd ∧
                                  (↑x.fst : Int) + (1 : Int) = (↑y.fst : Int) ∧
                                    l = l ∧ l = l ∧ (↑(List.length l) : Int) = (↑(List.length l) : Int) ∧ True
          else True ∧ x.snd = classF l ∧ True := by
  have hlen := hl.len
  refine ⟨⟨(0, 0), ⟨by simp, by simp, rfl⟩, rfl, rfl, rfl, rfl, rfl, trivial⟩, ?_⟩
  rintro ⟨k, c⟩ ⟨h1, h2, h3⟩
  simp only [dec_true, Int.toNat_natCast, true_and, and_true] at h1 h2 h3 ⊢
  split
  · have hlt : k < l.length := by omega
    rw [drop_getD l k (dfl (.st .change)) hlt] at h3
    generalize l.getD k (dfl (.st .change)) = y at h3 ⊢
    simp only [classGo] at h3
    refine ⟨⟨by omega, by omega⟩, ?_⟩
    split
    · rename_i e; simpa [e] using h3
    split
    · rename_i e; simpa [e] using h3
    split
    · rename_i e; simpa [e] using h3
    rename_i e1 e2 e3
    simp only [e1, e2, e3, or_self, if_false] at h3
    split
    · rename_i e; simp [e] at h3; exact ⟨inR_len hlt hlen, (k + 1, 1), ⟨by simp; omega, by simp, h3⟩, by simp; omega, by simp⟩
    split
    · rename_i e; simp [e] at h3; exact ⟨inR_len hlt hlen, (k + 1, 1), ⟨by simp; omega, by simp, h3⟩, by simp; omega, by simp⟩
    rename_i e4 e5
    simp [e4, e5] at h3
    exact ⟨inR_len hlt hlen, (k + 1, c), ⟨by simp; omega, by simp; omega, h3⟩, by simp; omega, by simp⟩
  · rename_i hge
    have : k = l.length := by omega
    subst this
    simpa [classGo] using h3
theorem vc_small (c : Int)  :
    if decide ((97 : Int) ≤ c) = true then True ∧ decide (c ≤ (122 : Int)) = smallI c ∧ True
    else True ∧ false = smallI c ∧ True := by
  unfold smallI; simp only [dec_true]; split <;> simp [*]
theorem vc_great (c : Int)  :
    if decide ((65 : Int) ≤ c) = true then True ∧ decide (c ≤ (90 : Int)) = greatI c ∧ True
    else True ∧ false = greatI c ∧ True := by
  unfold greatI; simp only [dec_true]; split <;> simp [*]
theorem vc_digit (c : Int)  :
    if decide ((48 : Int) ≤ c) = true then True ∧ decide (c ≤ (57 : Int)) = digitI c ∧ True
    else True ∧ false = digitI c ∧ True := by
  unfold digitI; simp only [dec_true]; split <;> simp [*]
theorem vc_rest (c : Int)  :
    if smallI c = true then True ∧ true = restI c ∧ True
    else
      if greatI c = true then True ∧ true = restI c ∧ True
      else if digitI c = true then True ∧ true = restI c ∧ True else True ∧ decide (c = (95 : Int)) = restI c ∧ True := by
  unfold restI; cases smallI c <;> cases greatI c <;> cases digitI c <;> simp
theorem vc_nameds (s : Str) (hs : Wf .str s) :
    if decide (s = []) = true then True ∧ false = namedF smallI s ∧ True
    else
      if decide ((24 : Int) < (↑(List.length s) : Int)) = true then True ∧ false = namedF smallI s ∧ True
      else
        ((0 : Int) ≤ (0 : Int) ∧ (0 : Int) < (↑(List.length s) : Int)) ∧
          if (!smallI (↑(UInt8.toNat (List.getD s (Int.toNat (0 : Int)) (0 : UInt8))) : Int)) = true then
            True ∧ false = namedF smallI s ∧ True
          else
            (∃ (x : Nat),
                (x ≤ List.length s ∧ namedF smallI s = List.all (List.drop x s) fun (c : UInt8) ↦ restI (bI c)) ∧
                  (0 : Int) = (↑x : Int) ∧
                    s = s ∧ false = false ∧ (↑(List.length s) : Int) = (↑(List.length s) : Int) ∧ True) ∧
              ∀ (x : Nat),
                (x ≤ List.length s ∧ namedF smallI s = List.all (List.drop x s) fun (c : UInt8) ↦ restI (bI c)) →
                  if decide ((↑x : Int) < (↑(List.length s) : Int)) = true then
                    ((0 : Int) ≤ (↑x : Int) ∧ (↑x : Int) < (↑(List.length s) : Int)) ∧
                      if (!restI (↑(UInt8.toNat (List.getD s (Int.toNat (↑x : Int)) (0 : UInt8))) : Int)) = true then
                        True ∧ false = namedF smallI s ∧ True
                      else
                        inR IntKind.i64 ((↑x : Int) + (1 : Int)) ∧
                          ∃ (y : Nat),
                            (y ≤ List.length s ∧
                                namedF smallI s = List.all (List.drop y s) fun (c : UInt8) ↦ restI (bI c)) ∧
                              List.length s - y < List.length s - x ∧
                                (↑x : Int) + (1 : Int) = (↑y : Int) ∧
                                  s = s ∧ false = false ∧ (↑(List.length s) : Int) = (↑(List.length s) : Int) ∧ True
                  else True ∧ true = namedF smallI s ∧ True := by
  have hlen := hs.str
  have eb : ∀ b : UInt8, (b.toNat : Int) = bI b := fun _ => rfl
  simp only [dec_true, Int.toNat_natCast, Int.toNat_zero, true_and, and_true, eb, namedF]
  generalize smallI (bI (s.getD 0 0)) = f0
  by_cases h0 : s = []
  · simp [h0]
  have hpos : 0 < s.length := List.length_pos_iff.2 h0
  by_cases h1 : s.length ≤ 24
  · rw [if_neg h0, if_neg (by omega)]
    refine ⟨by omega, ?_⟩
    cases f0 with
    | false => simp
    | true =>
      simp only [Bool.not_true, Bool.false_eq_true, if_false, h0, h1, decide_false, decide_true, Bool.not_false, Bool.true_and]
      refine ⟨⟨0, ⟨by omega, rfl⟩, rfl⟩, ?_⟩
      rintro k ⟨h3, h4⟩
      split
      · have hk : k < s.length := by omega
        rw [drop_getD s k 0 hk, List.all_cons] at h4
        generalize restI (bI (s.getD k 0)) = r at h4 ⊢
        refine ⟨by omega, ?_⟩
        cases r with
        | false => simpa using h4.symm
        | true =>
          simp only [Bool.not_true, Bool.false_eq_true, if_false]
          exact ⟨inR_len hk hlen, k + 1, ⟨by omega, by simpa using h4⟩, by omega, by omega⟩
      · have hk : k = s.length := by omega
        subst hk
        simpa using h4.symm
  · rw [if_neg h0, if_pos (by omega)]
    simp [h1]
theorem vc_namedg (s : Str) (hs : Wf .str s) :
    if decide (s = []) = true then True ∧ false = namedF greatI s ∧ True
    else
      if decide ((24 : Int) < (↑(List.length s) : Int)) = true then True ∧ false = namedF greatI s ∧ True
      else
        ((0 : Int) ≤ (0 : Int) ∧ (0 : Int) < (↑(List.length s) : Int)) ∧
          if (!greatI (↑(UInt8.toNat (List.getD s (Int.toNat (0 : Int)) (0 : UInt8))) : Int)) = true then
            True ∧ false = namedF greatI s ∧ True
          else
            (∃ (x : Nat),
                (x ≤ List.length s ∧ namedF greatI s = List.all (List.drop x s) fun (c : UInt8) ↦ restI (bI c)) ∧
                  (0 : Int) = (↑x : Int) ∧
                    s = s ∧ false = false ∧ (↑(List.length s) : Int) = (↑(List.length s) : Int) ∧ True) ∧
              ∀ (x : Nat),
                (x ≤ List.length s ∧ namedF greatI s = List.all (List.drop x s) fun (c : UInt8) ↦ restI (bI c)) →
                  if decide ((↑x : Int) < (↑(List.length s) : Int)) = true then
                    ((0 : Int) ≤ (↑x : Int) ∧ (↑x : Int) < (↑(List.length s) : Int)) ∧
                      if (!restI (↑(UInt8.toNat (List.getD s (Int.toNat (↑x : Int)) (0 : UInt8))) : Int)) = true then
                        True ∧ false = namedF greatI s ∧ True
                      else
                        inR IntKind.i64 ((↑x : Int) + (1 : Int)) ∧
                          ∃ (y : Nat),
                            (y ≤ List.length s ∧
                                namedF greatI s = List.all (List.drop y s) fun (c : UInt8) ↦ restI (bI c)) ∧
                              List.length s - y < List.length s - x ∧
                                (↑x : Int) + (1 : Int) = (↑y : Int) ∧
                                  s = s ∧ false = false ∧ (↑(List.length s) : Int) = (↑(List.length s) : Int) ∧ True
                  else True ∧ true = namedF greatI s ∧ True := by
  have hlen := hs.str
  have eb : ∀ b : UInt8, (b.toNat : Int) = bI b := fun _ => rfl
  simp only [dec_true, Int.toNat_natCast, Int.toNat_zero, true_and, and_true, eb, namedF]
  generalize greatI (bI (s.getD 0 0)) = f0
  by_cases h0 : s = []
  · simp [h0]
  have hpos : 0 < s.length := List.length_pos_iff.2 h0
  by_cases h1 : s.length ≤ 24
  · rw [if_neg h0, if_neg (by omega)]
    refine ⟨by omega, ?_⟩
    cases f0 with
    | false => simp
    | true =>
      simp only [Bool.not_true, Bool.false_eq_true, if_false, h0, h1, decide_false, decide_true, Bool.not_false, Bool.true_and]
      refine ⟨⟨0, ⟨by omega, rfl⟩, rfl⟩, ?_⟩
      rintro k ⟨h3, h4⟩
      split
      · have hk : k < s.length := by omega
        rw [drop_getD s k 0 hk, List.all_cons] at h4
        generalize restI (bI (s.getD k 0)) = r at h4 ⊢
        refine ⟨by omega, ?_⟩
        cases r with
        | false => simpa using h4.symm
        | true =>
          simp only [Bool.not_true, Bool.false_eq_true, if_false]
          exact ⟨inR_len hk hlen, k + 1, ⟨by omega, by simpa using h4⟩, by omega, by omega⟩
      · have hk : k = s.length := by omega
        subst hk
        simpa using h4.symm
  · rw [if_neg h0, if_pos (by omega)]
    simp [h1]
theorem vc_Word (s : Str)  :
    if decide (s = [(109 : UInt8), (111 : UInt8), (100 : UInt8), (117 : UInt8), (108 : UInt8), (101 : UInt8)]) = true then
      True ∧ true = wordF s ∧ True
    else
      if decide (s = [(105 : UInt8), (109 : UInt8), (112 : UInt8), (111 : UInt8), (114 : UInt8), (116 : UInt8)]) = true then
        True ∧ true = wordF s ∧ True
      else
        if decide (s = [(112 : UInt8), (105 : UInt8), (110 : UInt8)]) = true then True ∧ true = wordF s ∧ True
        else
          if decide (s = [(114 : UInt8), (97 : UInt8), (110 : UInt8), (103 : UInt8), (101 : UInt8)]) = true then
            True ∧ true = wordF s ∧ True
          else
            if decide (s = [(116 : UInt8), (121 : UInt8), (112 : UInt8), (101 : UInt8)]) = true then
              True ∧ true = wordF s ∧ True
            else
              if
                  decide (s = [(111 : UInt8), (112 : UInt8), (97 : UInt8), (113 : UInt8), (117 : UInt8), (101 : UInt8)]) =
                    true then
                True ∧ true = wordF s ∧ True
              else
                if decide (s = [(108 : UInt8), (101 : UInt8), (116 : UInt8)]) = true then True ∧ true = wordF s ∧ True
                else
                  if decide (s = [(105 : UInt8), (110 : UInt8)]) = true then True ∧ true = wordF s ∧ True
                  else
                    if
                        decide
                            (s =
                              [(101 : UInt8), (120 : UInt8), (112 : UInt8), (111 : UInt8), (114 : UInt8), (116 : UInt8)]) =
                          true then
                      True ∧ true = wordF s ∧ True
                    else
                      if decide (s = [(102 : UInt8), (117 : UInt8), (110 : UInt8)]) = true then True ∧ true = wordF s ∧ True
                      else
                        if decide (s = [(105 : UInt8), (102 : UInt8)]) = true then True ∧ true = wordF s ∧ True
                        else
                          if decide (s = [(116 : UInt8), (104 : UInt8), (101 : UInt8), (110 : UInt8)]) = true then
                            True ∧ true = wordF s ∧ True
                          else
                            if decide (s = [(101 : UInt8), (108 : UInt8), (115 : UInt8), (101 : UInt8)]) = true then
                              True ∧ true = wordF s ∧ True
                            else
                              if decide (s = [(99 : UInt8), (97 : UInt8), (115 : UInt8), (101 : UInt8)]) = true then
                                True ∧ true = wordF s ∧ True
                              else
                                if decide (s = [(111 : UInt8), (102 : UInt8)]) = true then True ∧ true = wordF s ∧ True
                                else
                                  if decide (s = [(97 : UInt8), (115 : UInt8)]) = true then True ∧ true = wordF s ∧ True
                                  else
                                    if decide (s = [(110 : UInt8), (101 : UInt8), (119 : UInt8)]) = true then
                                      True ∧ true = wordF s ∧ True
                                    else
                                      if decide (s = [(114 : UInt8), (97 : UInt8), (119 : UInt8)]) = true then
                                        True ∧ true = wordF s ∧ True
                                      else
                                        if
                                            decide (s = [(116 : UInt8), (114 : UInt8), (117 : UInt8), (101 : UInt8)]) =
                                              true then
                                          True ∧ true = wordF s ∧ True
                                        else
                                          if
                                              decide
                                                  (s =
                                                    [(102 : UInt8), (97 : UInt8), (108 : UInt8), (115 : UInt8),
                                                      (101 : UInt8)]) =
                                                true then
                                            True ∧ true = wordF s ∧ True
                                          else True ∧ false = wordF s ∧ True := by
  refine ite_intro (fun h => ?_) (fun h0 => ?_)
  · rw [of_decide_eq_true h]; exact ⟨trivial, rfl, trivial⟩
  refine ite_intro (fun h => ?_) (fun h1 => ?_)
  · rw [of_decide_eq_true h]; exact ⟨trivial, rfl, trivial⟩
  refine ite_intro (fun h => ?_) (fun h2 => ?_)
  · rw [of_decide_eq_true h]; exact ⟨trivial, rfl, trivial⟩
  refine ite_intro (fun h => ?_) (fun h3 => ?_)
  · rw [of_decide_eq_true h]; exact ⟨trivial, rfl, trivial⟩
  refine ite_intro (fun h => ?_) (fun h4 => ?_)
  · rw [of_decide_eq_true h]; exact ⟨trivial, rfl, trivial⟩
  refine ite_intro (fun h => ?_) (fun h5 => ?_)
  · rw [of_decide_eq_true h]; exact ⟨trivial, rfl, trivial⟩
  refine ite_intro (fun h => ?_) (fun h6 => ?_)
  · rw [of_decide_eq_true h]; exact ⟨trivial, rfl, trivial⟩
  refine ite_intro (fun h => ?_) (fun h7 => ?_)
  · rw [of_decide_eq_true h]; exact ⟨trivial, rfl, trivial⟩
  refine ite_intro (fun h => ?_) (fun h8 => ?_)
  · rw [of_decide_eq_true h]; exact ⟨trivial, rfl, trivial⟩
  refine ite_intro (fun h => ?_) (fun h9 => ?_)
  · rw [of_decide_eq_true h]; exact ⟨trivial, rfl, trivial⟩
  refine ite_intro (fun h => ?_) (fun h10 => ?_)
  · rw [of_decide_eq_true h]; exact ⟨trivial, rfl, trivial⟩
  refine ite_intro (fun h => ?_) (fun h11 => ?_)
  · rw [of_decide_eq_true h]; exact ⟨trivial, rfl, trivial⟩
  refine ite_intro (fun h => ?_) (fun h12 => ?_)
  · rw [of_decide_eq_true h]; exact ⟨trivial, rfl, trivial⟩
  refine ite_intro (fun h => ?_) (fun h13 => ?_)
  · rw [of_decide_eq_true h]; exact ⟨trivial, rfl, trivial⟩
  refine ite_intro (fun h => ?_) (fun h14 => ?_)
  · rw [of_decide_eq_true h]; exact ⟨trivial, rfl, trivial⟩
  refine ite_intro (fun h => ?_) (fun h15 => ?_)
  · rw [of_decide_eq_true h]; exact ⟨trivial, rfl, trivial⟩
  refine ite_intro (fun h => ?_) (fun h16 => ?_)
  · rw [of_decide_eq_true h]; exact ⟨trivial, rfl, trivial⟩
  refine ite_intro (fun h => ?_) (fun h17 => ?_)
  · rw [of_decide_eq_true h]; exact ⟨trivial, rfl, trivial⟩
  refine ite_intro (fun h => ?_) (fun h18 => ?_)
  · rw [of_decide_eq_true h]; exact ⟨trivial, rfl, trivial⟩
  refine ite_intro (fun h => ?_) (fun h19 => ?_)
  · rw [of_decide_eq_true h]; exact ⟨trivial, rfl, trivial⟩
  refine ⟨trivial, ?_, trivial⟩
  symm
  refine decide_eq_false fun hm => ?_
  unfold words at hm
  rcases List.mem_cons.1 hm with e | hm
  · exact h0 (decide_eq_true e)
  rcases List.mem_cons.1 hm with e | hm
  · exact h1 (decide_eq_true e)
  rcases List.mem_cons.1 hm with e | hm
  · exact h2 (decide_eq_true e)
  rcases List.mem_cons.1 hm with e | hm
  · exact h3 (decide_eq_true e)
  rcases List.mem_cons.1 hm with e | hm
  · exact h4 (decide_eq_true e)
  rcases List.mem_cons.1 hm with e | hm
  · exact h5 (decide_eq_true e)
  rcases List.mem_cons.1 hm with e | hm
  · exact h6 (decide_eq_true e)
  rcases List.mem_cons.1 hm with e | hm
  · exact h7 (decide_eq_true e)
  rcases List.mem_cons.1 hm with e | hm
  · exact h8 (decide_eq_true e)
  rcases List.mem_cons.1 hm with e | hm
  · exact h9 (decide_eq_true e)
  rcases List.mem_cons.1 hm with e | hm
  · exact h10 (decide_eq_true e)
  rcases List.mem_cons.1 hm with e | hm
  · exact h11 (decide_eq_true e)
  rcases List.mem_cons.1 hm with e | hm
  · exact h12 (decide_eq_true e)
  rcases List.mem_cons.1 hm with e | hm
  · exact h13 (decide_eq_true e)
  rcases List.mem_cons.1 hm with e | hm
  · exact h14 (decide_eq_true e)
  rcases List.mem_cons.1 hm with e | hm
  · exact h15 (decide_eq_true e)
  rcases List.mem_cons.1 hm with e | hm
  · exact h16 (decide_eq_true e)
  rcases List.mem_cons.1 hm with e | hm
  · exact h17 (decide_eq_true e)
  rcases List.mem_cons.1 hm with e | hm
  · exact h18 (decide_eq_true e)
  rcases List.mem_cons.1 hm with e | hm
  · exact h19 (decide_eq_true e)
  exact absurd hm List.not_mem_nil
theorem vc_Name (s : Str)  :
    if namedF smallI s = true then True ∧ (!wordF s) = nameF s ∧ True else True ∧ false = nameF s ∧ True := by
  unfold nameF; cases namedF smallI s <;> simp
theorem vc_Upper (s : Str)  :
    True ∧ namedF greatI s = upperF s ∧ True := by
  simp [upperF]
theorem vc_SEqual (a b : List Str) (ha : Wf (.lst .str) a) (hb : Wf (.lst .str) b) :
    if (!decide ((↑(List.length a) : Int) = (↑(List.length b) : Int))) = true then True ∧ false = decide (a = b) ∧ True
    else
      (∃ (x : Nat),
          (x ≤ List.length a ∧ List.length a = List.length b ∧ decide (a = b) = decide (List.drop x a = List.drop x b)) ∧
            (0 : Int) = (↑x : Int) ∧
              a = a ∧ b = b ∧ false = false ∧ (↑(List.length a) : Int) = (↑(List.length a) : Int) ∧ True) ∧
        ∀ (x : Nat),
          x ≤ List.length a ∧ List.length a = List.length b ∧ decide (a = b) = decide (List.drop x a = List.drop x b) →
            if decide ((↑x : Int) < (↑(List.length a) : Int)) = true then
              ((0 : Int) ≤ (↑x : Int) ∧ (↑x : Int) < (↑(List.length a) : Int)) ∧
                ((0 : Int) ≤ (↑x : Int) ∧ (↑x : Int) < (↑(List.length b) : Int)) ∧
                  if
                      (!decide
                            (List.getD a (Int.toNat (↑x : Int)) (dfl Ty.str) =
                              List.getD b (Int.toNat (↑x : Int)) (dfl Ty.str))) =
                        true then
                    True ∧ false = decide (a = b) ∧ True
                  else
                    inR IntKind.i64 ((↑x : Int) + (1 : Int)) ∧
                      ∃ (y : Nat),
                        (y ≤ List.length a ∧
                            List.length a = List.length b ∧ decide (a = b) = decide (List.drop y a = List.drop y b)) ∧
                          List.length a - y < List.length a - x ∧
                            (↑x : Int) + (1 : Int) = (↑y : Int) ∧
                              a = a ∧ b = b ∧ false = false ∧ (↑(List.length a) : Int) = (↑(List.length a) : Int) ∧ True
            else True ∧ true = decide (a = b) ∧ True := by
  have la := ha.len
  simp only [Int.toNat_natCast, eq_self, true_and, and_true]
  refine ite_intro (fun h => ?_) (fun h => ?_)
  · simp at h; symm; rw [decide_eq_false_iff_not]; intro e; subst e; exact h rfl
  have hl : a.length = b.length := by simp at h; omega
  refine ⟨⟨0, ⟨by omega, hl, by simp⟩, by simp⟩, ?_⟩
  rintro k ⟨h1, _, h3⟩
  refine ite_intro (fun h => ?_) (fun h => ?_)
  · replace h := of_decide_eq_true h
    have hk : k < a.length := by omega
    have hk' : k < b.length := by omega
    rw [drop_getD a k (dfl .str) hk, drop_getD b k (dfl .str) hk'] at h3
    refine ⟨by omega, by omega, ?_⟩
    by_cases e : a.getD k (dfl .str) = b.getD k (dfl .str)
    · rw [if_neg (by simpa using e)]
      rw [e] at h3
      exact ⟨inR_len hk la, k+1, ⟨by omega, hl, by simpa using h3⟩, by omega, by omega⟩
    · rw [if_pos (by simpa using e), h3]; symm; rw [decide_eq_false_iff_not]; intro hh; exact e (List.cons.inj hh).1
  · replace h : ¬ ((k : Int) < (a.length : Int)) := fun e => h (decide_eq_true e)
    have e : k = a.length := by omega
    subst e; rw [h3]; simp [hl]
theorem vc_plain (s : Str)  :
    if decide (s = [(73 : UInt8), (110 : UInt8), (116 : UInt8)]) = true then True ∧ true = plainF s ∧ True
    else
      if decide (s = [(66 : UInt8), (111 : UInt8), (111 : UInt8), (108 : UInt8)]) = true then True ∧ true = plainF s ∧ True
      else
        if decide (s = [(84 : UInt8), (101 : UInt8), (120 : UInt8), (116 : UInt8)]) = true then
          True ∧ true = plainF s ∧ True
        else True ∧ decide (s = [(65 : UInt8), (110 : UInt8), (121 : UInt8)]) = plainF s ∧ True := by
  simp only [eq_self, true_and, and_true, plainF]
  by_cases a : s = [73, 110, 116] <;> by_cases b : s = [66, 111, 111, 108] <;> by_cases c : s = [84, 101, 120, 116] <;> by_cases d : s = [65, 110, 121] <;> simp [a, b, c, d]
theorem vc_EqualFunc (n : Nat) (a b : List Shape) (ha : Wf (.lst (.st .shape)) a) (hb : Wf (.lst (.st .shape)) b) (hn : szL a ≤ n) :
    if (!decide ((↑(List.length a) : Int) = (↑(List.length b) : Int))) = true then True ∧ false = eqL a b ∧ True
    else
      (∃ (x : Nat),
          (x ≤ List.length a ∧ List.length a = List.length b ∧ eqL a b = eqL (List.drop x a) (List.drop x b)) ∧
            (0 : Int) = (↑x : Int) ∧
              a = a ∧ b = b ∧ false = false ∧ a = a ∧ (↑(List.length a) : Int) = (↑(List.length a) : Int) ∧ True) ∧
        ∀ (x : Nat),
          x ≤ List.length a ∧ List.length a = List.length b ∧ eqL a b = eqL (List.drop x a) (List.drop x b) →
            if decide ((↑x : Int) < (↑(List.length a) : Int)) = true then
              ((0 : Int) ≤ (↑x : Int) ∧ (↑x : Int) < (↑(List.length a) : Int)) ∧
                ((0 : Int) ≤ (↑x : Int) ∧ (↑x : Int) < (↑(List.length b) : Int)) ∧
                  sz (List.getD a (Int.toNat (↑x : Int)) (dfl (Ty.st SN.shape))) ≤ n ∧
                    if
                        (!eqS (List.getD a (Int.toNat (↑x : Int)) (dfl (Ty.st SN.shape)))
                              (List.getD b (Int.toNat (↑x : Int)) (dfl (Ty.st SN.shape)))) =
                          true then
                      True ∧ false = eqL a b ∧ True
                    else
                      inR IntKind.i64 ((↑x : Int) + (1 : Int)) ∧
                        ∃ (y : Nat),
                          (y ≤ List.length a ∧
                              List.length a = List.length b ∧ eqL a b = eqL (List.drop y a) (List.drop y b)) ∧
                            List.length a - y < List.length a - x ∧
                              (↑x : Int) + (1 : Int) = (↑y : Int) ∧
                                a = a ∧
                                  b = b ∧ false = false ∧ a = a ∧ (↑(List.length a) : Int) = (↑(List.length a) : Int) ∧ True
            else True ∧ true = eqL a b ∧ True := by
  have la := ha.len
  simp only [Int.toNat_natCast, eq_self, true_and, and_true]
  refine ite_intro (fun h => ?_) (fun h => ?_)
  · symm; exact eqL_len (fun e => by simp [e] at h)
  have hl : a.length = b.length := by simp at h; omega
  refine ⟨⟨0, ⟨by omega, hl, by simp⟩, by simp⟩, ?_⟩
  rintro k ⟨h1, _, h3⟩
  refine ite_intro (fun h => ?_) (fun h => ?_)
  · replace h := of_decide_eq_true h
    have hk : k < a.length := by omega
    have hk' : k < b.length := by omega
    have hm := getD_mem a k (dfl (.st .shape)) hk
    have hz := Nat.le_trans (sz_mem hm) hn
    clear hm
    rw [drop_getD a k (dfl (.st .shape)) hk, drop_getD b k (dfl (.st .shape)) hk'] at h3
    refine ⟨by omega, by omega, ?_⟩
    generalize a.getD k _ = x at h3 hz ⊢
    generalize b.getD k _ = y at h3 ⊢
    refine ⟨hz, ?_⟩
    simp only [eqL] at h3
    cases e : eqS x y
    · rw [h3]; simp [e]
    · simp only [e, Bool.true_and] at h3
      simp
      exact ⟨inR_len hk la, k+1, ⟨by omega, hl, h3⟩, by omega, by omega⟩
  · replace h : ¬ ((k : Int) < (a.length : Int)) := fun e => h (decide_eq_true e)
    have e : k = a.length := by omega
    subst e; rw [h3, List.drop_length, hl, List.drop_length]; rfl
theorem vc_equal (n : Nat) (a b : Shape) (hn : sz a ≤ n + 1) :
    if decide (a.kind = b.kind) = true then
      if decide (a.pkg = b.pkg) = true then
        if decide (a.name = b.name) = true then
          if decide (a.names = b.names) = true then szL a.parts ≤ n ∧ True ∧ eqL a.parts b.parts = eqS a b ∧ True
          else True ∧ false = eqS a b ∧ True
        else True ∧ false = eqS a b ∧ True
      else True ∧ false = eqS a b ∧ True
    else True ∧ false = eqS a b ∧ True := by
  obtain ⟨k, p, n', ns, ps⟩ := a
  obtain ⟨k', p', m', ms, qs⟩ := b
  simp only [sz] at hn
  rw [eqS]
  by_cases e1 : k = k' <;> by_cases e2 : p = p' <;> by_cases e3 : n' = m' <;> by_cases e4 : ns = ms <;> simp [e1, e2, e3, e4] <;> omega
theorem vc_Values (a : List Str)  :
    True ∧ a = a ∧ True := by
 trivial
theorem vc_named (s : Shape) (hs : Wf (.st .shape) s) (ho : s.parts.length * 16 ≤ 140737488355328) :
    if (!decide ((↑(List.length s.names) : Int) = (↑(List.length s.parts) : Int))) = true then
      True ∧ false = namedOK s ∧ True
    else
      (∃ (x : Nat),
          (x ≤ List.length s.names ∧
              List.length s.names = List.length s.parts ∧
                namedOK s = (List.all (List.drop x s.names) nameF && decide (List.Nodup s.names))) ∧
            (0 : Int) = (↑x : Int) ∧
              s = s ∧
                false = false ∧
                  s.names = s.names ∧ (↑(List.length s.names) : Int) = (↑(List.length s.names) : Int) ∧ s = s ∧ True) ∧
        ∀ (x : Nat),
          x ≤ List.length s.names ∧
              List.length s.names = List.length s.parts ∧
                namedOK s = (List.all (List.drop x s.names) nameF && decide (List.Nodup s.names)) →
            if decide ((↑x : Int) < (↑(List.length s.names) : Int)) = true then
              ((0 : Int) ≤ (↑x : Int) ∧ (↑x : Int) < (↑(List.length s.names) : Int)) ∧
                if (!nameF (List.getD s.names (Int.toNat (↑x : Int)) (dfl Ty.str))) = true then
                  True ∧ false = namedOK s ∧ True
                else
                  inR IntKind.i64 ((↑x : Int) + (1 : Int)) ∧
                    ∃ (y : Nat),
                      (y ≤ List.length s.names ∧
                          List.length s.names = List.length s.parts ∧
                            namedOK s = (List.all (List.drop y s.names) nameF && decide (List.Nodup s.names))) ∧
                        List.length s.names - y < List.length s.names - x ∧
                          (↑x : Int) + (1 : Int) = (↑y : Int) ∧
                            s = s ∧
                              false = false ∧
                                s.names = s.names ∧
                                  (↑(List.length s.names) : Int) = (↑(List.length s.names) : Int) ∧ s = s ∧ True
            else
              List.length s.names * (16 : Nat) ≤ (140737488355328 : Nat) ∧
                List.length (List.mergeSort s.names fun (x y : Str) ↦ decide (x ≤ y)) =
                    List.length (List.mergeSort s.names fun (x y : Str) ↦ decide (x ≤ y)) ∧
                  True ∧
                    decide
                          ((↑(List.length (Lib.compact (List.mergeSort s.names fun (x y : Str) ↦ decide (x ≤ y)))) : Int) =
                            (↑(List.length s.names) : Int)) =
                        namedOK s ∧
                      True := by
  have ln := hs.names.len
  simp only [Int.toNat_natCast, eq_self, true_and, and_true]
  refine ite_intro (fun h => ?_) (fun h => ?_)
  · have : s.names.length ≠ s.parts.length := by simp at h; omega
    simp [namedOK, this]
  have hl : s.names.length = s.parts.length := by simp at h; omega
  refine ⟨⟨0, ⟨by omega, hl, by simp [namedOK, hl]⟩, rfl⟩, ?_⟩
  rintro k ⟨h1, _, h3⟩
  refine ite_intro (fun h => ?_) (fun h => ?_)
  · replace h := of_decide_eq_true h
    have hk : k < s.names.length := by omega
    rw [drop_getD s.names k (dfl .str) hk] at h3
    refine ⟨by omega, ?_⟩
    simp only [List.all_cons] at h3
    cases e : nameF (s.names.getD k (dfl .str))
    · rw [e] at h3; rw [h3]; simp
    · simp only [e, Bool.true_and] at h3
      exact ⟨inR_len hk ln, k + 1, ⟨by omega, hl, h3⟩, by omega, by omega⟩
  · replace h : ¬ ((k : Int) < (s.names.length : Int)) := fun e => h (decide_eq_true e)
    have e : k = s.names.length := by omega
    subst e
    have hc := compact_sorted s.names
    unfold sortS at hc
    refine ⟨by omega, ?_⟩
    rw [h3, List.drop_length]
    simp only [List.all_nil, Bool.true_and]
    rw [decide_eq_decide, ← hc]
    omega
theorem vc_fits (s : Shape) (hs : Wf (.st .shape) s) (ho : s.parts.length * 16 ≤ 140737488355328) :
    if decide (s.pkg = []) = true then
      if decide (s.kind = (1 : Int)) = true then
        if decide (s.name = []) = true then
          if decide ((↑(List.length s.names) : Int) = (0 : Int)) = true then
            True ∧ decide ((↑(List.length s.parts) : Int) = (0 : Int)) = fitsF s ∧ True
          else True ∧ false = fitsF s ∧ True
        else True ∧ false = fitsF s ∧ True
      else
        if decide (s.kind = (2 : Int)) = true then
          if decide (s.name = []) = true then
            if decide ((↑(List.length s.names) : Int) = (0 : Int)) = true then
              True ∧ decide ((↑(List.length s.parts) : Int) = (0 : Int)) = fitsF s ∧ True
            else True ∧ false = fitsF s ∧ True
          else True ∧ false = fitsF s ∧ True
        else
          if decide (s.kind = (3 : Int)) = true then
            if decide (s.name = []) = true then
              if decide ((↑(List.length s.names) : Int) = (0 : Int)) = true then
                True ∧ decide ((↑(List.length s.parts) : Int) = (0 : Int)) = fitsF s ∧ True
              else True ∧ false = fitsF s ∧ True
            else True ∧ false = fitsF s ∧ True
          else
            if decide (s.kind = (4 : Int)) = true then
              if decide (s.name = []) = true then
                if decide ((↑(List.length s.names) : Int) = (0 : Int)) = true then
                  True ∧ decide ((↑(List.length s.parts) : Int) = (0 : Int)) = fitsF s ∧ True
                else True ∧ false = fitsF s ∧ True
              else True ∧ false = fitsF s ∧ True
            else
              if decide (s.kind = (5 : Int)) = true then
                if decide (s.name = []) = true then
                  if decide ((↑(List.length s.names) : Int) = (0 : Int)) = true then
                    True ∧ decide ((↑(List.length s.parts) : Int) = (1 : Int)) = fitsF s ∧ True
                  else True ∧ false = fitsF s ∧ True
                else True ∧ false = fitsF s ∧ True
              else
                if decide (s.kind = (6 : Int)) = true then
                  if decide (s.name = []) = true then
                    List.length s.parts * (16 : Nat) ≤ (140737488355328 : Nat) ∧ True ∧ namedOK s = fitsF s ∧ True
                  else True ∧ false = fitsF s ∧ True
                else
                  if decide (s.kind = (7 : Int)) = true then
                    if decide (s.name = []) = true then
                      List.length s.parts * (16 : Nat) ≤ (140737488355328 : Nat) ∧ True ∧ namedOK s = fitsF s ∧ True
                    else True ∧ false = fitsF s ∧ True
                  else
                    if decide (s.kind = (8 : Int)) = true then
                      if decide (s.name = []) = true then
                        if decide ((↑(List.length s.names) : Int) = (0 : Int)) = true then
                          True ∧ decide ((0 : Int) < (↑(List.length s.parts) : Int)) = fitsF s ∧ True
                        else True ∧ false = fitsF s ∧ True
                      else True ∧ false = fitsF s ∧ True
                    else
                      if decide (s.kind = (9 : Int)) = true then
                        if upperF s.name = true then
                          if decide (s.pkg = []) = true then
                            if (!plainF s.name) = true then
                              if decide ((↑(List.length s.names) : Int) = (0 : Int)) = true then
                                True ∧ decide ((↑(List.length s.parts) : Int) = (0 : Int)) = fitsF s ∧ True
                              else True ∧ false = fitsF s ∧ True
                            else
                              if nameF s.pkg = true then
                                if decide ((↑(List.length s.names) : Int) = (0 : Int)) = true then
                                  True ∧ decide ((↑(List.length s.parts) : Int) = (0 : Int)) = fitsF s ∧ True
                                else True ∧ false = fitsF s ∧ True
                              else True ∧ false = fitsF s ∧ True
                          else
                            if nameF s.pkg = true then
                              if decide ((↑(List.length s.names) : Int) = (0 : Int)) = true then
                                True ∧ decide ((↑(List.length s.parts) : Int) = (0 : Int)) = fitsF s ∧ True
                              else True ∧ false = fitsF s ∧ True
                            else True ∧ false = fitsF s ∧ True
                        else True ∧ false = fitsF s ∧ True
                      else
                        if decide (s.kind = (10 : Int)) = true then
                          if upperF s.name = true then
                            if nameF s.pkg = true then
                              if decide ((↑(List.length s.names) : Int) = (0 : Int)) = true then
                                True ∧ decide ((↑(List.length s.parts) : Int) = (0 : Int)) = fitsF s ∧ True
                              else True ∧ false = fitsF s ∧ True
                            else True ∧ false = fitsF s ∧ True
                          else True ∧ false = fitsF s ∧ True
                        else True ∧ false = fitsF s ∧ True
    else
      if decide (s.kind = (1 : Int)) = true then True ∧ false = fitsF s ∧ True
      else
        if decide (s.kind = (2 : Int)) = true then True ∧ false = fitsF s ∧ True
        else
          if decide (s.kind = (3 : Int)) = true then True ∧ false = fitsF s ∧ True
          else
            if decide (s.kind = (4 : Int)) = true then True ∧ false = fitsF s ∧ True
            else
              if decide (s.kind = (5 : Int)) = true then True ∧ false = fitsF s ∧ True
              else
                if decide (s.kind = (6 : Int)) = true then True ∧ false = fitsF s ∧ True
                else
                  if decide (s.kind = (7 : Int)) = true then True ∧ false = fitsF s ∧ True
                  else
                    if decide (s.kind = (8 : Int)) = true then True ∧ false = fitsF s ∧ True
                    else
                      if decide (s.kind = (9 : Int)) = true then
                        if upperF s.name = true then
                          if decide (s.pkg = []) = true then
                            if (!plainF s.name) = true then
                              if decide ((↑(List.length s.names) : Int) = (0 : Int)) = true then
                                True ∧ decide ((↑(List.length s.parts) : Int) = (0 : Int)) = fitsF s ∧ True
                              else True ∧ false = fitsF s ∧ True
                            else
                              if nameF s.pkg = true then
                                if decide ((↑(List.length s.names) : Int) = (0 : Int)) = true then
                                  True ∧ decide ((↑(List.length s.parts) : Int) = (0 : Int)) = fitsF s ∧ True
                                else True ∧ false = fitsF s ∧ True
                              else True ∧ false = fitsF s ∧ True
                          else
                            if nameF s.pkg = true then
                              if decide ((↑(List.length s.names) : Int) = (0 : Int)) = true then
                                True ∧ decide ((↑(List.length s.parts) : Int) = (0 : Int)) = fitsF s ∧ True
                              else True ∧ false = fitsF s ∧ True
                            else True ∧ false = fitsF s ∧ True
                        else True ∧ false = fitsF s ∧ True
                      else
                        if decide (s.kind = (10 : Int)) = true then
                          if upperF s.name = true then
                            if nameF s.pkg = true then
                              if decide ((↑(List.length s.names) : Int) = (0 : Int)) = true then
                                True ∧ decide ((↑(List.length s.parts) : Int) = (0 : Int)) = fitsF s ∧ True
                              else True ∧ false = fitsF s ∧ True
                            else True ∧ false = fitsF s ∧ True
                          else True ∧ false = fitsF s ∧ True
                        else True ∧ false = fitsF s ∧ True := by
  have n0 : ((s.names.length : Int) = 0) ↔ s.names = [] := by rw [← List.length_eq_zero_iff]; omega
  have p0 : ((s.parts.length : Int) = 0) ↔ s.parts = [] := by rw [← List.length_eq_zero_iff]; omega
  have p1 : ((s.parts.length : Int) = 1) ↔ s.parts.length = 1 := by omega
  have p2 : (0 < (s.parts.length : Int)) ↔ ¬ s.parts = [] := by rw [← List.length_eq_zero_iff]; omega
  simp only [n0, p0, p1, p2, decide_eq_true_eq, true_and, and_true, ho]
  have hf : fitsF s = fitsF s := rfl
  conv at hf => rhs; unfold fitsF
  revert hf
  generalize fitsF s = F
  generalize namedOK s = A
  generalize upperF s.name = B
  generalize nameF s.pkg = C
  generalize plainF s.name = D
  generalize s.kind = K
  intro hf
  repeat' (refine ite_intro (fun _ => ?_) (fun _ => ?_))
  all_goals (subst hf; simp_all)
theorem vc_allFits (n : Nat) (s : Shape) (hs : Wf (.st .shape) s) (hn : sz s ≤ n + 1) (hb : n ≤ 1000000) :
    List.length s.parts * (16 : Nat) ≤ (140737488355328 : Nat) ∧
      if (!fitsF s) = true then True ∧ false = allS fitsF s ∧ True
      else
        (∃ (x : Nat),
            (x ≤ List.length s.parts ∧ allS fitsF s = allL fitsF (List.drop x s.parts)) ∧
              (0 : Int) = (↑x : Int) ∧
                s = s ∧
                  false = false ∧
                    s.parts = s.parts ∧ (↑(List.length s.parts) : Int) = (↑(List.length s.parts) : Int) ∧ s = s ∧ True) ∧
          ∀ (x : Nat),
            x ≤ List.length s.parts ∧ allS fitsF s = allL fitsF (List.drop x s.parts) →
              if decide ((↑x : Int) < (↑(List.length s.parts) : Int)) = true then
                ((0 : Int) ≤ (↑x : Int) ∧ (↑x : Int) < (↑(List.length s.parts) : Int)) ∧
                  sz (List.getD s.parts (Int.toNat (↑x : Int)) (dfl (Ty.st SN.shape))) ≤ n ∧
                    if (!allS fitsF (List.getD s.parts (Int.toNat (↑x : Int)) (dfl (Ty.st SN.shape)))) = true then
                      True ∧ false = allS fitsF s ∧ True
                    else
                      inR IntKind.i64 ((↑x : Int) + (1 : Int)) ∧
                        ∃ (y : Nat),
                          (y ≤ List.length s.parts ∧ allS fitsF s = allL fitsF (List.drop y s.parts)) ∧
                            List.length s.parts - y < List.length s.parts - x ∧
                              (↑x : Int) + (1 : Int) = (↑y : Int) ∧
                                s = s ∧
                                  false = false ∧
                                    s.parts = s.parts ∧
                                      (↑(List.length s.parts) : Int) = (↑(List.length s.parts) : Int) ∧ s = s ∧ True
              else True ∧ true = allS fitsF s ∧ True := by
  have ln := hs.parts.len
  have hz := sz_eq s
  have hl := szL_len s.parts
  simp only [Int.toNat_natCast, eq_self, true_and, and_true]
  refine ⟨by omega, ite_intro (fun h => ?_) (fun h => ?_)⟩
  · rw [allS_eq]; simp at h; simp [h]
  refine ⟨⟨0, ⟨by omega, by rw [allS_eq]; simp at h; simp [h]⟩, rfl⟩, ?_⟩
  rintro k ⟨h1, h3⟩
  refine ite_intro (fun h => ?_) (fun h => ?_)
  · replace h := of_decide_eq_true h
    have hk : k < s.parts.length := by omega
    have hm := sz_mem (getD_mem s.parts k (dfl (.st .shape)) hk)
    rw [drop_getD s.parts k (dfl (.st .shape)) hk] at h3
    simp only [allL] at h3
    refine ⟨by omega, by omega, ?_⟩
    cases e : allS fitsF (s.parts.getD k (dfl (.st .shape)))
    · rw [e] at h3; rw [h3]; simp
    · simp only [e, Bool.true_and] at h3
      exact ⟨inR_len hk ln, k + 1, ⟨by omega, h3⟩, by omega, by omega⟩
  · replace h : ¬ ((k : Int) < (s.parts.length : Int)) := fun e => h (decide_eq_true e)
    have e : k = s.parts.length := by omega
    subst e
    rw [h3, List.drop_length]; rfl
theorem vc_sorted (n : Nat) (s : Shape) (hs : Wf (.st .shape) s) (hn : sz s ≤ n + 1) (ho : allS orderly s = true) (hb : n ≤ 1000000) :
    ((0 : Int) ≤ (↑(List.length s.parts) : Int) ∧
        (↑(List.length s.parts) : Int) ≤ (↑(List.length s.parts) : Int) ∧
          (↑(List.length s.parts) : Int) * (↑(8 : Nat) : Int) ≤ (140737488355328 : Int)) ∧
      (∃ (x : Nat),
          x ≤ List.length s.parts ∧
            (0 : Int) = (↑x : Int) ∧
              s = s ∧
                Int.toNat (↑(List.length s.parts) : Int) = Int.toNat (↑(List.length s.parts) : Int) ∧
                  (↑(Int.toNat (↑(List.length s.parts) : Int)) : Int) =
                      (↑(Int.toNat (↑(List.length s.parts) : Int)) : Int) ∧
                    List.replicate (Int.toNat (↑(List.length s.parts) : Int)) (0 : Int) =
                        rangeI x ++ List.replicate (List.length s.parts - x) (0 : Int) ∧
                      s = s ∧
                        (0 : Int) = (0 : Int) ∧
                          noOf UInt8 = noOf UInt8 ∧
                            noOf UInt8 = noOf UInt8 ∧ s.kind = s.kind ∧ s.pkg = s.pkg ∧ s.name = s.name ∧ True) ∧
        ∀ (x : Nat),
          x ≤ List.length s.parts →
            if decide ((↑x : Int) < (↑(Int.toNat (↑(List.length s.parts) : Int)) : Int)) = true then
              ((0 : Int) ≤ (↑x : Int) ∧ (↑x : Int) < (↑(Int.toNat (↑(List.length s.parts) : Int)) : Int)) ∧
                Int.toNat (↑x : Int) < List.length (rangeI x ++ List.replicate (List.length s.parts - x) (0 : Int)) ∧
                  inR IntKind.i64 ((↑x : Int) + (1 : Int)) ∧
                    ∃ (y : Nat),
                      y ≤ List.length s.parts ∧
                        List.length s.parts - y < List.length s.parts - x ∧
                          (↑x : Int) + (1 : Int) = (↑y : Int) ∧
                            s = s ∧
                              Int.toNat (↑(List.length s.parts) : Int) = Int.toNat (↑(List.length s.parts) : Int) ∧
                                (↑(Int.toNat (↑(List.length s.parts) : Int)) : Int) =
                                    (↑(Int.toNat (↑(List.length s.parts) : Int)) : Int) ∧
                                  List.set (rangeI x ++ List.replicate (List.length s.parts - x) (0 : Int))
                                        (Int.toNat (↑x : Int)) (↑x : Int) =
                                      rangeI y ++ List.replicate (List.length s.parts - y) (0 : Int) ∧
                                    s = s ∧
                                      (0 : Int) = (0 : Int) ∧
                                        noOf UInt8 = noOf UInt8 ∧
                                          noOf UInt8 = noOf UInt8 ∧ s.kind = s.kind ∧ s.pkg = s.pkg ∧ s.name = s.name ∧ True
            else
              if decide ((0 : Int) < (↑(List.length s.names) : Int)) = true then
                (Int.toNat (↑(List.length s.parts) : Int) =
                      List.length (rangeI x ++ List.replicate (List.length s.parts - x) (0 : Int)) ∧
                    rangeI x ++ List.replicate (List.length s.parts - x) (0 : Int) ≠ [] ∧
                      (∀ (x_1 : Int),
                          x_1 ∈ rangeI x ++ List.replicate (List.length s.parts - x) (0 : Int) →
                            (0 : Int) ≤ x_1 ∧ x_1 < (↑(List.length s.names) : Int)) ∧
                        List.Nodup s.names ∧
                          List.length (rangeI x ++ List.replicate (List.length s.parts - x) (0 : Int)) <
                            (4611686018427387904 : Nat)) ∧
                  (∃ (x_1 : Nat),
                      x_1 ≤ List.length s.parts ∧
                        (0 : Int) = (↑x_1 : Int) ∧
                          (↑x : Int) = (↑x : Int) ∧
                            s = s ∧
                              Int.toNat (↑(List.length s.parts) : Int) = Int.toNat (↑(List.length s.parts) : Int) ∧
                                (↑(Int.toNat (↑(List.length s.parts) : Int)) : Int) =
                                    (↑(Int.toNat (↑(List.length s.parts) : Int)) : Int) ∧
                                  false = false ∧
                                    true = true ∧
                                      Int.toNat (↑(List.length s.parts) : Int) = Int.toNat (↑(List.length s.parts) : Int) ∧
                                        (↑(Int.toNat (↑(List.length s.parts) : Int)) : Int) =
                                            (↑(Int.toNat (↑(List.length s.parts) : Int)) : Int) ∧
                                          s.kind = s.kind ∧
                                            s.pkg = s.pkg ∧
                                              s.name = s.name ∧
                                                (if s.names = [] then []
                                                    else
                                                      List.map (fun (i : Int) ↦ List.getD s.names (Int.toNat i) [])
                                                        (List.take x_1 (places s))) =
                                                    [] ∧
                                                  List.map (fun (i : Int) ↦ List.getD (sortedL s.parts) (Int.toNat i) dflS)
                                                        (List.take x_1 (places s)) =
                                                      [] ∧
                                                    (List.mergeSort
                                                          (rangeI x ++ List.replicate (List.length s.parts - x) (0 : Int))
                                                          fun (i j : Int) ↦
                                                          decide
                                                            (List.getD s.names (Int.toNat i) [] ≤
                                                              List.getD s.names (Int.toNat j) [])) =
                                                        places s ∧
                                                      List.length
                                                            (if s.names = [] then []
                                                            else
                                                              List.map (fun (i : Int) ↦ List.getD s.names (Int.toNat i) [])
                                                                (List.take x_1 (places s))) =
                                                          (0 : Nat) ∧
                                                        x_1 = (0 : Nat) ∧
                                                          s = s ∧
                                                            (0 : Int) = (0 : Int) ∧
                                                              noOf UInt8 = noOf UInt8 ∧ noOf UInt8 = noOf UInt8 ∧ True) ∧
                    ∀ (x_1 : Nat),
                      x_1 ≤ List.length s.parts →
                        if decide ((↑x_1 : Int) < (↑(Int.toNat (↑(List.length s.parts) : Int)) : Int)) = true then
                          ((0 : Int) ≤ (↑x_1 : Int) ∧ (↑x_1 : Int) < (↑(Int.toNat (↑(List.length s.parts) : Int)) : Int)) ∧
                            Int.toNat (↑x_1 : Int) < List.length (places s) ∧
                              if decide ((0 : Int) < (↑(List.length s.names) : Int)) = true then
                                ((0 : Int) ≤ List.getD (places s) (Int.toNat (↑x_1 : Int)) (dfl (Ty.int IntKind.i64)) ∧
                                    List.getD (places s) (Int.toNat (↑x_1 : Int)) (dfl (Ty.int IntKind.i64)) <
                                      (↑(List.length s.names) : Int)) ∧
                                  (List.length
                                          (if s.names = [] then []
                                          else
                                            List.map (fun (i : Int) ↦ List.getD s.names (Int.toNat i) [])
                                              (List.take x_1 (places s))) =
                                        List.length
                                          (if s.names = [] then []
                                          else
                                            List.map (fun (i : Int) ↦ List.getD s.names (Int.toNat i) [])
                                              (List.take x_1 (places s))) ∧
                                      (List.length
                                              (if s.names = [] then []
                                              else
                                                List.map (fun (i : Int) ↦ List.getD s.names (Int.toNat i) [])
                                                  (List.take x_1 (places s))) +
                                            List.length
                                              [List.getD s.names
                                                  (Int.toNat
                                                    (List.getD (places s) (Int.toNat (↑x_1 : Int))
                                                      (dfl (Ty.int IntKind.i64))))
                                                  (dfl Ty.str)]) *
                                          (16 : Nat) ≤
                                        (140737488355328 : Nat)) ∧
                                    ((0 : Int) ≤ List.getD (places s) (Int.toNat (↑x_1 : Int)) (dfl (Ty.int IntKind.i64)) ∧
                                        List.getD (places s) (Int.toNat (↑x_1 : Int)) (dfl (Ty.int IntKind.i64)) <
                                          (↑(List.length s.parts) : Int)) ∧
                                      (sz
                                              (List.getD s.parts
                                                (Int.toNat
                                                  (List.getD (places s) (Int.toNat (↑x_1 : Int))
                                                    (dfl (Ty.int IntKind.i64))))
                                                (dfl (Ty.st SN.shape))) ≤
                                            n ∧
                                          allS orderly
                                              (List.getD s.parts
                                                (Int.toNat
                                                  (List.getD (places s) (Int.toNat (↑x_1 : Int))
                                                    (dfl (Ty.int IntKind.i64))))
                                                (dfl (Ty.st SN.shape))) =
                                            true) ∧
                                        (List.length
                                                (List.map (fun (i : Int) ↦ List.getD (sortedL s.parts) (Int.toNat i) dflS)
                                                  (List.take x_1 (places s))) =
                                              x_1 ∧
                                            (List.length
                                                    (List.map
                                                      (fun (i : Int) ↦ List.getD (sortedL s.parts) (Int.toNat i) dflS)
                                                      (List.take x_1 (places s))) +
                                                  List.length
                                                    [sortedS
                                                        (List.getD s.parts
                                                          (Int.toNat
                                                            (List.getD (places s) (Int.toNat (↑x_1 : Int))
                                                              (dfl (Ty.int IntKind.i64))))
                                                          (dfl (Ty.st SN.shape)))]) *
                                                (88 : Nat) ≤
                                              (140737488355328 : Nat)) ∧
                                          inR IntKind.i64 ((↑x_1 : Int) + (1 : Int)) ∧
                                            ∃ (y : Nat),
                                              y ≤ List.length s.parts ∧
                                                List.length s.parts - y < List.length s.parts - x_1 ∧
                                                  (↑x_1 : Int) + (1 : Int) = (↑y : Int) ∧
                                                    (↑x : Int) = (↑x : Int) ∧
                                                      s = s ∧
                                                        Int.toNat (↑(List.length s.parts) : Int) =
                                                            Int.toNat (↑(List.length s.parts) : Int) ∧
                                                          (↑(Int.toNat (↑(List.length s.parts) : Int)) : Int) =
                                                              (↑(Int.toNat (↑(List.length s.parts) : Int)) : Int) ∧
                                                            false = false ∧
                                                              true = true ∧
                                                                Int.toNat (↑(List.length s.parts) : Int) =
                                                                    Int.toNat (↑(List.length s.parts) : Int) ∧
                                                                  (↑(Int.toNat (↑(List.length s.parts) : Int)) : Int) =
                                                                      (↑(Int.toNat (↑(List.length s.parts) : Int)) : Int) ∧
                                                                    s.kind = s.kind ∧
                                                                      s.pkg = s.pkg ∧
                                                                        s.name = s.name ∧
                                                                          ((if s.names = [] then []
                                                                                else
                                                                                  List.map
                                                                                    (fun (i : Int) ↦
                                                                                      List.getD s.names (Int.toNat i) [])
                                                                                    (List.take x_1 (places s))) ++
                                                                                [List.getD s.names
                                                                                    (Int.toNat
                                                                                      (List.getD (places s)
                                                                                        (Int.toNat (↑x_1 : Int))
                                                                                        (dfl (Ty.int IntKind.i64))))
                                                                                    (dfl Ty.str)] =
                                                                              if s.names = [] then []
                                                                              else
                                                                                List.map
                                                                                  (fun (i : Int) ↦
                                                                                    List.getD s.names (Int.toNat i) [])
                                                                                  (List.take y (places s))) ∧
                                                                            List.map
                                                                                    (fun (i : Int) ↦
                                                                                      List.getD (sortedL s.parts)
                                                                                        (Int.toNat i) dflS)
                                                                                    (List.take x_1 (places s)) ++
                                                                                  [sortedS
                                                                                      (List.getD s.parts
                                                                                        (Int.toNat
                                                                                          (List.getD (places s)
                                                                                            (Int.toNat (↑x_1 : Int))
                                                                                            (dfl (Ty.int IntKind.i64))))
                                                                                        (dfl (Ty.st SN.shape)))] =
                                                                                List.map
                                                                                  (fun (i : Int) ↦
                                                                                    List.getD (sortedL s.parts)
                                                                                      (Int.toNat i) dflS)
                                                                                  (List.take y (places s)) ∧
                                                                              places s = places s ∧
                                                                                List.length
                                                                                      ((if s.names = [] then []
                                                                                        else
                                                                                          List.map
                                                                                            (fun (i : Int) ↦
                                                                                              List.getD s.names
                                                                                                (Int.toNat i) [])
                                                                                            (List.take x_1 (places s))) ++
                                                                                        [List.getD s.names
                                                                                            (Int.toNat
                                                                                              (List.getD (places s)
                                                                                                (Int.toNat (↑x_1 : Int))
                                                                                                (dfl (Ty.int IntKind.i64))))
                                                                                            (dfl Ty.str)]) =
                                                                                    List.length
                                                                                      (if s.names = [] then []
                                                                                      else
                                                                                        List.map
                                                                                          (fun (i : Int) ↦
                                                                                            List.getD s.names (Int.toNat i)
                                                                                              [])
                                                                                          (List.take y (places s))) ∧
                                                                                  List.length
                                                                                        (List.map
                                                                                            (fun (i : Int) ↦
                                                                                              List.getD (sortedL s.parts)
                                                                                                (Int.toNat i) dflS)
                                                                                            (List.take x_1 (places s)) ++
                                                                                          [sortedS
                                                                                              (List.getD s.parts
                                                                                                (Int.toNat
                                                                                                  (List.getD (places s)
                                                                                                    (Int.toNat (↑x_1 : Int))
                                                                                                    (dfl
                                                                                                      (Ty.int
                                                                                                        IntKind.i64))))
                                                                                                (dfl (Ty.st SN.shape)))]) =
                                                                                      y ∧
                                                                                    s = s ∧
                                                                                      (0 : Int) = (0 : Int) ∧
                                                                                        noOf UInt8 = noOf UInt8 ∧
                                                                                          noOf UInt8 = noOf UInt8 ∧ True
                              else
                                ((0 : Int) ≤ List.getD (places s) (Int.toNat (↑x_1 : Int)) (dfl (Ty.int IntKind.i64)) ∧
                                    List.getD (places s) (Int.toNat (↑x_1 : Int)) (dfl (Ty.int IntKind.i64)) <
                                      (↑(List.length s.parts) : Int)) ∧
                                  (sz
                                          (List.getD s.parts
                                            (Int.toNat
                                              (List.getD (places s) (Int.toNat (↑x_1 : Int)) (dfl (Ty.int IntKind.i64))))
                                            (dfl (Ty.st SN.shape))) ≤
                                        n ∧
                                      allS orderly
                                          (List.getD s.parts
                                            (Int.toNat
                                              (List.getD (places s) (Int.toNat (↑x_1 : Int)) (dfl (Ty.int IntKind.i64))))
                                            (dfl (Ty.st SN.shape))) =
                                        true) ∧
                                    (List.length
                                            (List.map (fun (i : Int) ↦ List.getD (sortedL s.parts) (Int.toNat i) dflS)
                                              (List.take x_1 (places s))) =
                                          x_1 ∧
                                        (List.length
                                                (List.map (fun (i : Int) ↦ List.getD (sortedL s.parts) (Int.toNat i) dflS)
                                                  (List.take x_1 (places s))) +
                                              List.length
                                                [sortedS
                                                    (List.getD s.parts
                                                      (Int.toNat
                                                        (List.getD (places s) (Int.toNat (↑x_1 : Int))
                                                          (dfl (Ty.int IntKind.i64))))
                                                      (dfl (Ty.st SN.shape)))]) *
                                            (88 : Nat) ≤
                                          (140737488355328 : Nat)) ∧
                                      inR IntKind.i64 ((↑x_1 : Int) + (1 : Int)) ∧
                                        ∃ (y : Nat),
                                          y ≤ List.length s.parts ∧
                                            List.length s.parts - y < List.length s.parts - x_1 ∧
                                              (↑x_1 : Int) + (1 : Int) = (↑y : Int) ∧
                                                (↑x : Int) = (↑x : Int) ∧
                                                  s = s ∧
                                                    Int.toNat (↑(List.length s.parts) : Int) =
                                                        Int.toNat (↑(List.length s.parts) : Int) ∧
                                                      (↑(Int.toNat (↑(List.length s.parts) : Int)) : Int) =
                                                          (↑(Int.toNat (↑(List.length s.parts) : Int)) : Int) ∧
                                                        false = false ∧
                                                          true = true ∧
                                                            Int.toNat (↑(List.length s.parts) : Int) =
                                                                Int.toNat (↑(List.length s.parts) : Int) ∧
                                                              (↑(Int.toNat (↑(List.length s.parts) : Int)) : Int) =
                                                                  (↑(Int.toNat (↑(List.length s.parts) : Int)) : Int) ∧
                                                                s.kind = s.kind ∧
                                                                  s.pkg = s.pkg ∧
                                                                    s.name = s.name ∧
                                                                      ((if s.names = [] then []
                                                                          else
                                                                            List.map
                                                                              (fun (i : Int) ↦
                                                                                List.getD s.names (Int.toNat i) [])
                                                                              (List.take x_1 (places s))) =
                                                                          if s.names = [] then []
                                                                          else
                                                                            List.map
                                                                              (fun (i : Int) ↦
                                                                                List.getD s.names (Int.toNat i) [])
                                                                              (List.take y (places s))) ∧
                                                                        List.map
                                                                                (fun (i : Int) ↦
                                                                                  List.getD (sortedL s.parts) (Int.toNat i)
                                                                                    dflS)
                                                                                (List.take x_1 (places s)) ++
                                                                              [sortedS
                                                                                  (List.getD s.parts
                                                                                    (Int.toNat
                                                                                      (List.getD (places s)
                                                                                        (Int.toNat (↑x_1 : Int))
                                                                                        (dfl (Ty.int IntKind.i64))))
                                                                                    (dfl (Ty.st SN.shape)))] =
                                                                            List.map
                                                                              (fun (i : Int) ↦
                                                                                List.getD (sortedL s.parts) (Int.toNat i)
                                                                                  dflS)
                                                                              (List.take y (places s)) ∧
                                                                          places s = places s ∧
                                                                            List.length
                                                                                  (if s.names = [] then []
                                                                                  else
                                                                                    List.map
                                                                                      (fun (i : Int) ↦
                                                                                        List.getD s.names (Int.toNat i) [])
                                                                                      (List.take x_1 (places s))) =
                                                                                List.length
                                                                                  (if s.names = [] then []
                                                                                  else
                                                                                    List.map
                                                                                      (fun (i : Int) ↦
                                                                                        List.getD s.names (Int.toNat i) [])
                                                                                      (List.take y (places s))) ∧
                                                                              List.length
                                                                                    (List.map
                                                                                        (fun (i : Int) ↦
                                                                                          List.getD (sortedL s.parts)
                                                                                            (Int.toNat i) dflS)
                                                                                        (List.take x_1 (places s)) ++
                                                                                      [sortedS
                                                                                          (List.getD s.parts
                                                                                            (Int.toNat
                                                                                              (List.getD (places s)
                                                                                                (Int.toNat (↑x_1 : Int))
                                                                                                (dfl (Ty.int IntKind.i64))))
                                                                                            (dfl (Ty.st SN.shape)))]) =
                                                                                  y ∧
                                                                                s = s ∧
                                                                                  (0 : Int) = (0 : Int) ∧
                                                                                    noOf UInt8 = noOf UInt8 ∧
                                                                                      noOf UInt8 = noOf UInt8 ∧ True
                        else
                          True ∧
                            s.kind = (sortedS s).kind ∧
                              s.pkg = (sortedS s).pkg ∧
                                s.name = (sortedS s).name ∧
                                  (if s.names = [] then []
                                      else
                                        List.map (fun (i : Int) ↦ List.getD s.names (Int.toNat i) [])
                                          (List.take x_1 (places s))) =
                                      (sortedS s).names ∧
                                    List.map (fun (i : Int) ↦ List.getD (sortedL s.parts) (Int.toNat i) dflS)
                                          (List.take x_1 (places s)) =
                                        (sortedS s).parts ∧
                                      True
              else
                (∃ (x_1 : Nat),
                    x_1 ≤ List.length s.parts ∧
                      (0 : Int) = (↑x_1 : Int) ∧
                        (↑x : Int) = (↑x : Int) ∧
                          s = s ∧
                            Int.toNat (↑(List.length s.parts) : Int) = Int.toNat (↑(List.length s.parts) : Int) ∧
                              (↑(Int.toNat (↑(List.length s.parts) : Int)) : Int) =
                                  (↑(Int.toNat (↑(List.length s.parts) : Int)) : Int) ∧
                                false = false ∧
                                  false = false ∧
                                    Int.toNat (↑(List.length s.parts) : Int) = Int.toNat (↑(List.length s.parts) : Int) ∧
                                      (↑(Int.toNat (↑(List.length s.parts) : Int)) : Int) =
                                          (↑(Int.toNat (↑(List.length s.parts) : Int)) : Int) ∧
                                        s.kind = s.kind ∧
                                          s.pkg = s.pkg ∧
                                            s.name = s.name ∧
                                              (if s.names = [] then []
                                                  else
                                                    List.map (fun (i : Int) ↦ List.getD s.names (Int.toNat i) [])
                                                      (List.take x_1 (places s))) =
                                                  [] ∧
                                                List.map (fun (i : Int) ↦ List.getD (sortedL s.parts) (Int.toNat i) dflS)
                                                      (List.take x_1 (places s)) =
                                                    [] ∧
                                                  rangeI x ++ List.replicate (List.length s.parts - x) (0 : Int) =
                                                      places s ∧
                                                    List.length
                                                          (if s.names = [] then []
                                                          else
                                                            List.map (fun (i : Int) ↦ List.getD s.names (Int.toNat i) [])
                                                              (List.take x_1 (places s))) =
                                                        (0 : Nat) ∧
                                                      x_1 = (0 : Nat) ∧
                                                        s = s ∧
                                                          (0 : Int) = (0 : Int) ∧
                                                            noOf UInt8 = noOf UInt8 ∧ noOf UInt8 = noOf UInt8 ∧ True) ∧
                  ∀ (x_1 : Nat),
                    x_1 ≤ List.length s.parts →
                      if decide ((↑x_1 : Int) < (↑(Int.toNat (↑(List.length s.parts) : Int)) : Int)) = true then
                        ((0 : Int) ≤ (↑x_1 : Int) ∧ (↑x_1 : Int) < (↑(Int.toNat (↑(List.length s.parts) : Int)) : Int)) ∧
                          Int.toNat (↑x_1 : Int) < List.length (places s) ∧
                            if decide ((0 : Int) < (↑(List.length s.names) : Int)) = true then
                              ((0 : Int) ≤ List.getD (places s) (Int.toNat (↑x_1 : Int)) (dfl (Ty.int IntKind.i64)) ∧
                                  List.getD (places s) (Int.toNat (↑x_1 : Int)) (dfl (Ty.int IntKind.i64)) <
                                    (↑(List.length s.names) : Int)) ∧
                                (List.length
                                        (if s.names = [] then []
                                        else
                                          List.map (fun (i : Int) ↦ List.getD s.names (Int.toNat i) [])
                                            (List.take x_1 (places s))) =
                                      List.length
                                        (if s.names = [] then []
                                        else
                                          List.map (fun (i : Int) ↦ List.getD s.names (Int.toNat i) [])
                                            (List.take x_1 (places s))) ∧
                                    (List.length
                                            (if s.names = [] then []
                                            else
                                              List.map (fun (i : Int) ↦ List.getD s.names (Int.toNat i) [])
                                                (List.take x_1 (places s))) +
                                          List.length
                                            [List.getD s.names
                                                (Int.toNat
                                                  (List.getD (places s) (Int.toNat (↑x_1 : Int))
                                                    (dfl (Ty.int IntKind.i64))))
                                                (dfl Ty.str)]) *
                                        (16 : Nat) ≤
                                      (140737488355328 : Nat)) ∧
                                  ((0 : Int) ≤ List.getD (places s) (Int.toNat (↑x_1 : Int)) (dfl (Ty.int IntKind.i64)) ∧
                                      List.getD (places s) (Int.toNat (↑x_1 : Int)) (dfl (Ty.int IntKind.i64)) <
                                        (↑(List.length s.parts) : Int)) ∧
                                    (sz
                                            (List.getD s.parts
                                              (Int.toNat
                                                (List.getD (places s) (Int.toNat (↑x_1 : Int)) (dfl (Ty.int IntKind.i64))))
                                              (dfl (Ty.st SN.shape))) ≤
                                          n ∧
                                        allS orderly
                                            (List.getD s.parts
                                              (Int.toNat
                                                (List.getD (places s) (Int.toNat (↑x_1 : Int)) (dfl (Ty.int IntKind.i64))))
                                              (dfl (Ty.st SN.shape))) =
                                          true) ∧
                                      (List.length
                                              (List.map (fun (i : Int) ↦ List.getD (sortedL s.parts) (Int.toNat i) dflS)
                                                (List.take x_1 (places s))) =
                                            x_1 ∧
                                          (List.length
                                                  (List.map (fun (i : Int) ↦ List.getD (sortedL s.parts) (Int.toNat i) dflS)
                                                    (List.take x_1 (places s))) +
                                                List.length
                                                  [sortedS
                                                      (List.getD s.parts
                                                        (Int.toNat
                                                          (List.getD (places s) (Int.toNat (↑x_1 : Int))
                                                            (dfl (Ty.int IntKind.i64))))
                                                        (dfl (Ty.st SN.shape)))]) *
                                              (88 : Nat) ≤
                                            (140737488355328 : Nat)) ∧
                                        inR IntKind.i64 ((↑x_1 : Int) + (1 : Int)) ∧
                                          ∃ (y : Nat),
                                            y ≤ List.length s.parts ∧
                                              List.length s.parts - y < List.length s.parts - x_1 ∧
                                                (↑x_1 : Int) + (1 : Int) = (↑y : Int) ∧
                                                  (↑x : Int) = (↑x : Int) ∧
                                                    s = s ∧
                                                      Int.toNat (↑(List.length s.parts) : Int) =
                                                          Int.toNat (↑(List.length s.parts) : Int) ∧
                                                        (↑(Int.toNat (↑(List.length s.parts) : Int)) : Int) =
                                                            (↑(Int.toNat (↑(List.length s.parts) : Int)) : Int) ∧
                                                          false = false ∧
                                                            false = false ∧
                                                              Int.toNat (↑(List.length s.parts) : Int) =
                                                                  Int.toNat (↑(List.length s.parts) : Int) ∧
                                                                (↑(Int.toNat (↑(List.length s.parts) : Int)) : Int) =
                                                                    (↑(Int.toNat (↑(List.length s.parts) : Int)) : Int) ∧
                                                                  s.kind = s.kind ∧
                                                                    s.pkg = s.pkg ∧
                                                                      s.name = s.name ∧
                                                                        ((if s.names = [] then []
                                                                              else
                                                                                List.map
                                                                                  (fun (i : Int) ↦
                                                                                    List.getD s.names (Int.toNat i) [])
                                                                                  (List.take x_1 (places s))) ++
                                                                              [List.getD s.names
                                                                                  (Int.toNat
                                                                                    (List.getD (places s)
                                                                                      (Int.toNat (↑x_1 : Int))
                                                                                      (dfl (Ty.int IntKind.i64))))
                                                                                  (dfl Ty.str)] =
                                                                            if s.names = [] then []
                                                                            else
                                                                              List.map
                                                                                (fun (i : Int) ↦
                                                                                  List.getD s.names (Int.toNat i) [])
                                                                                (List.take y (places s))) ∧
                                                                          List.map
                                                                                  (fun (i : Int) ↦
                                                                                    List.getD (sortedL s.parts)
                                                                                      (Int.toNat i) dflS)
                                                                                  (List.take x_1 (places s)) ++
                                                                                [sortedS
                                                                                    (List.getD s.parts
                                                                                      (Int.toNat
                                                                                        (List.getD (places s)
                                                                                          (Int.toNat (↑x_1 : Int))
                                                                                          (dfl (Ty.int IntKind.i64))))
                                                                                      (dfl (Ty.st SN.shape)))] =
                                                                              List.map
                                                                                (fun (i : Int) ↦
                                                                                  List.getD (sortedL s.parts) (Int.toNat i)
                                                                                    dflS)
                                                                                (List.take y (places s)) ∧
                                                                            places s = places s ∧
                                                                              List.length
                                                                                    ((if s.names = [] then []
                                                                                      else
                                                                                        List.map
                                                                                          (fun (i : Int) ↦
                                                                                            List.getD s.names (Int.toNat i)
                                                                                              [])
                                                                                          (List.take x_1 (places s))) ++
                                                                                      [List.getD s.names
                                                                                          (Int.toNat
                                                                                            (List.getD (places s)
                                                                                              (Int.toNat (↑x_1 : Int))
                                                                                              (dfl (Ty.int IntKind.i64))))
                                                                                          (dfl Ty.str)]) =
                                                                                  List.length
                                                                                    (if s.names = [] then []
                                                                                    else
                                                                                      List.map
                                                                                        (fun (i : Int) ↦
                                                                                          List.getD s.names (Int.toNat i)
                                                                                            [])
                                                                                        (List.take y (places s))) ∧
                                                                                List.length
                                                                                      (List.map
                                                                                          (fun (i : Int) ↦
                                                                                            List.getD (sortedL s.parts)
                                                                                              (Int.toNat i) dflS)
                                                                                          (List.take x_1 (places s)) ++
                                                                                        [sortedS
                                                                                            (List.getD s.parts
                                                                                              (Int.toNat
                                                                                                (List.getD (places s)
                                                                                                  (Int.toNat (↑x_1 : Int))
                                                                                                  (dfl
                                                                                                    (Ty.int IntKind.i64))))
                                                                                              (dfl (Ty.st SN.shape)))]) =
                                                                                    y ∧
                                                                                  s = s ∧
                                                                                    (0 : Int) = (0 : Int) ∧
                                                                                      noOf UInt8 = noOf UInt8 ∧
                                                                                        noOf UInt8 = noOf UInt8 ∧ True
                            else
                              ((0 : Int) ≤ List.getD (places s) (Int.toNat (↑x_1 : Int)) (dfl (Ty.int IntKind.i64)) ∧
                                  List.getD (places s) (Int.toNat (↑x_1 : Int)) (dfl (Ty.int IntKind.i64)) <
                                    (↑(List.length s.parts) : Int)) ∧
                                (sz
                                        (List.getD s.parts
                                          (Int.toNat
                                            (List.getD (places s) (Int.toNat (↑x_1 : Int)) (dfl (Ty.int IntKind.i64))))
                                          (dfl (Ty.st SN.shape))) ≤
                                      n ∧
                                    allS orderly
                                        (List.getD s.parts
                                          (Int.toNat
                                            (List.getD (places s) (Int.toNat (↑x_1 : Int)) (dfl (Ty.int IntKind.i64))))
                                          (dfl (Ty.st SN.shape))) =
                                      true) ∧
                                  (List.length
                                          (List.map (fun (i : Int) ↦ List.getD (sortedL s.parts) (Int.toNat i) dflS)
                                            (List.take x_1 (places s))) =
                                        x_1 ∧
                                      (List.length
                                              (List.map (fun (i : Int) ↦ List.getD (sortedL s.parts) (Int.toNat i) dflS)
                                                (List.take x_1 (places s))) +
                                            List.length
                                              [sortedS
                                                  (List.getD s.parts
                                                    (Int.toNat
                                                      (List.getD (places s) (Int.toNat (↑x_1 : Int))
                                                        (dfl (Ty.int IntKind.i64))))
                                                    (dfl (Ty.st SN.shape)))]) *
                                          (88 : Nat) ≤
                                        (140737488355328 : Nat)) ∧
                                    inR IntKind.i64 ((↑x_1 : Int) + (1 : Int)) ∧
                                      ∃ (y : Nat),
                                        y ≤ List.length s.parts ∧
                                          List.length s.parts - y < List.length s.parts - x_1 ∧
                                            (↑x_1 : Int) + (1 : Int) = (↑y : Int) ∧
                                              (↑x : Int) = (↑x : Int) ∧
                                                s = s ∧
                                                  Int.toNat (↑(List.length s.parts) : Int) =
                                                      Int.toNat (↑(List.length s.parts) : Int) ∧
                                                    (↑(Int.toNat (↑(List.length s.parts) : Int)) : Int) =
                                                        (↑(Int.toNat (↑(List.length s.parts) : Int)) : Int) ∧
                                                      false = false ∧
                                                        false = false ∧
                                                          Int.toNat (↑(List.length s.parts) : Int) =
                                                              Int.toNat (↑(List.length s.parts) : Int) ∧
                                                            (↑(Int.toNat (↑(List.length s.parts) : Int)) : Int) =
                                                                (↑(Int.toNat (↑(List.length s.parts) : Int)) : Int) ∧
                                                              s.kind = s.kind ∧
                                                                s.pkg = s.pkg ∧
                                                                  s.name = s.name ∧
                                                                    ((if s.names = [] then []
                                                                        else
                                                                          List.map
                                                                            (fun (i : Int) ↦
                                                                              List.getD s.names (Int.toNat i) [])
                                                                            (List.take x_1 (places s))) =
                                                                        if s.names = [] then []
                                                                        else
                                                                          List.map
                                                                            (fun (i : Int) ↦
                                                                              List.getD s.names (Int.toNat i) [])
                                                                            (List.take y (places s))) ∧
                                                                      List.map
                                                                              (fun (i : Int) ↦
                                                                                List.getD (sortedL s.parts) (Int.toNat i)
                                                                                  dflS)
                                                                              (List.take x_1 (places s)) ++
                                                                            [sortedS
                                                                                (List.getD s.parts
                                                                                  (Int.toNat
                                                                                    (List.getD (places s)
                                                                                      (Int.toNat (↑x_1 : Int))
                                                                                      (dfl (Ty.int IntKind.i64))))
                                                                                  (dfl (Ty.st SN.shape)))] =
                                                                          List.map
                                                                            (fun (i : Int) ↦
                                                                              List.getD (sortedL s.parts) (Int.toNat i)
                                                                                dflS)
                                                                            (List.take y (places s)) ∧
                                                                        places s = places s ∧
                                                                          List.length
                                                                                (if s.names = [] then []
                                                                                else
                                                                                  List.map
                                                                                    (fun (i : Int) ↦
                                                                                      List.getD s.names (Int.toNat i) [])
                                                                                    (List.take x_1 (places s))) =
                                                                              List.length
                                                                                (if s.names = [] then []
                                                                                else
                                                                                  List.map
                                                                                    (fun (i : Int) ↦
                                                                                      List.getD s.names (Int.toNat i) [])
                                                                                    (List.take y (places s))) ∧
                                                                            List.length
                                                                                  (List.map
                                                                                      (fun (i : Int) ↦
                                                                                        List.getD (sortedL s.parts)
                                                                                          (Int.toNat i) dflS)
                                                                                      (List.take x_1 (places s)) ++
                                                                                    [sortedS
                                                                                        (List.getD s.parts
                                                                                          (Int.toNat
                                                                                            (List.getD (places s)
                                                                                              (Int.toNat (↑x_1 : Int))
                                                                                              (dfl (Ty.int IntKind.i64))))
                                                                                          (dfl (Ty.st SN.shape)))]) =
                                                                                y ∧
                                                                              s = s ∧
                                                                                (0 : Int) = (0 : Int) ∧
                                                                                  noOf UInt8 = noOf UInt8 ∧
                                                                                    noOf UInt8 = noOf UInt8 ∧ True
                      else
                        True ∧
                          s.kind = (sortedS s).kind ∧
                            s.pkg = (sortedS s).pkg ∧
                              s.name = (sortedS s).name ∧
                                (if s.names = [] then []
                                    else
                                      List.map (fun (i : Int) ↦ List.getD s.names (Int.toNat i) [])
                                        (List.take x_1 (places s))) =
                                    (sortedS s).names ∧
                                  List.map (fun (i : Int) ↦ List.getD (sortedL s.parts) (Int.toNat i) dflS)
                                        (List.take x_1 (places s)) =
                                      (sortedS s).parts ∧
                                    True := by
  have ln := hs.parts.len
  have hz := sz_eq s
  have hl := szL_len s.parts
  have hor : orderly s = true ∧ allL orderly s.parts = true := by rw [allS_eq] at ho; simpa using ho
  simp only [Int.toNat_natCast, eq_self, true_and, and_true]
  refine ⟨by omega, ⟨0, by omega, rfl, by simp [rangeI]⟩, ?_⟩
  rintro k hk
  refine ite_intro (fun h => ?_) (fun h => ?_)
  · replace h := of_decide_eq_true h
    exact ⟨by omega, by simp [rangeI_length]; omega, inR_len (by omega) ln, k + 1, by omega, by omega, by omega, range_set (by omega)⟩
  replace h : ¬ ((k : Int) < (s.parts.length : Int)) := fun e => h (decide_eq_true e)
  have e : k = s.parts.length := by omega
  subst e
  simp only [Nat.sub_self, List.replicate_zero, List.append_nil]
  have hr : rangeI s.parts.length = [] ↔ s.parts = [] := by rw [← List.length_eq_zero_iff, rangeI_length, List.length_eq_zero_iff]
  have hp2 := places_length s
  have at_ : ∀ k, k < s.parts.length → 0 ≤ (places s).getD k (dfl (.int .i64)) ∧ (places s).getD k (dfl (.int .i64)) < s.parts.length := fun k hk =>
    mem_places.1 (getD_mem (places s) k (dfl (.int .i64)) (by rw [hp2]; exact hk))
  refine ite_intro (fun h2 => ?_) (fun h2 => ?_)
  · have hne : s.names ≠ [] := by intro e; rw [e] at h2; simp at h2
    have ho1 : s.names.length = s.parts.length ∧ s.names.Nodup := by
      have := hor.1; unfold orderly at this; simpa [hne] using this
    refine ⟨⟨by rw [rangeI_length], ?_, fun x hx => ?_, ho1.2, by rw [rangeI_length]; omega⟩, ⟨0, by omega, rfl, by simp, by simp, ?_, by simp, rfl⟩, ?_⟩
    · rw [Ne, hr]; intro e; rw [e] at ho1; exact hne (List.length_eq_zero_iff.1 (by simpa using ho1.1))
    · rw [ho1.1]; exact mem_rangeI.1 hx
    · unfold places sortIdx nameAt; rw [if_neg hne]
    · rintro k hk2
      refine ite_intro (fun h => ?_) (fun h => ?_)
      · replace h := of_decide_eq_true h
        have hk3 : k < s.parts.length := by omega
        obtain ⟨a1, a2⟩ := at_ k hk3
        refine ⟨by omega, by omega, ?_⟩
        rw [if_pos h2]
        have hi : ((places s).getD k (dfl (.int .i64))).toNat < s.parts.length := by omega
        have f1 := sz_mem (getD_mem s.parts _ (dfl (.st .shape)) hi)
        have f2 := allL_mem hor.2 (getD_mem s.parts _ (dfl (.st .shape)) hi)
        have t1 := take_getD (places s) k (dfl (.int .i64)) (by rw [hp2]; exact hk3)
        have t2 : List.map (fun i : Int => (sortedL s.parts).getD i.toNat dflS) (List.take (k + 1) (places s)) = List.map (fun i : Int => (sortedL s.parts).getD i.toNat dflS) (List.take k (places s)) ++ [sortedS (s.parts.getD ((places s).getD k (dfl (.int .i64))).toNat (dfl (.st .shape)))] := by rw [t1, List.map_append, List.map_singleton, sortedL_getD _ _ dflS (dfl (.st .shape)) hi]
        have t3 : List.map (fun i : Int => s.names.getD i.toNat []) (List.take (k + 1) (places s)) = List.map (fun i : Int => s.names.getD i.toNat []) (List.take k (places s)) ++ [s.names.getD ((places s).getD k (dfl (.int .i64))).toNat []] := by rw [t1, List.map_append, List.map_singleton]
        have tl : (List.take k (places s)).length = k := by rw [List.length_take, hp2]; omega
        refine ⟨⟨a1, by omega⟩, ?_, ⟨a1, a2⟩, ⟨by omega, f2⟩, ⟨by rw [List.length_map, tl], by rw [List.length_map, tl]; simp only [List.length_singleton]; omega⟩, inR_len hk3 ln, k + 1, by omega, by omega, by omega, ?_, t2.symm, ?_, ?_⟩
        · rw [if_neg hne, List.length_map, tl]; simp only [List.length_singleton]; omega
        · rw [if_neg hne, if_neg hne, t3]; rfl
        · rw [if_neg hne, if_neg hne, t3]; rfl
        · rw [List.length_append, List.length_map, tl]; rfl
      · replace h : ¬ ((k : Int) < (s.parts.length : Int)) := fun e => h (decide_eq_true e)
        have e : k = s.parts.length := by omega
        subst e
        rw [← hp2, List.take_length, if_neg hne]
        obtain ⟨kk, pp, nn, ns, ps⟩ := s
        simp only [sortedS]
        rw [if_neg hne]
        exact ⟨trivial, trivial, trivial, rfl, trivial⟩
  · have hne : s.names = [] := by
      refine Classical.byContradiction fun hc => h2 (decide_eq_true ?_)
      have := List.length_pos_iff.2 hc
      omega
    have hpl : places s = rangeI s.parts.length := by unfold places; rw [if_pos hne]
    simp only [hne, if_true, List.length_nil, List.length_singleton]
    refine ⟨⟨0, by omega, rfl, trivial, by simp, hpl.symm, trivial, rfl⟩, ?_⟩
    rintro k hk2
    refine ite_intro (fun h => ?_) (fun h => ?_)
    · replace h := of_decide_eq_true h
      have hk3 : k < s.parts.length := by omega
      obtain ⟨a1, a2⟩ := at_ k hk3
      refine ⟨by omega, by omega, ?_⟩
      rw [if_neg (by simp)]
      have hi : ((places s).getD k (dfl (.int .i64))).toNat < s.parts.length := by omega
      have f1 := sz_mem (getD_mem s.parts _ (dfl (.st .shape)) hi)
      have f2 := allL_mem hor.2 (getD_mem s.parts _ (dfl (.st .shape)) hi)
      have t1 := take_getD (places s) k (dfl (.int .i64)) (by rw [hp2]; exact hk3)
      have t2 : List.map (fun i : Int => (sortedL s.parts).getD i.toNat dflS) (List.take (k + 1) (places s)) = List.map (fun i : Int => (sortedL s.parts).getD i.toNat dflS) (List.take k (places s)) ++ [sortedS (s.parts.getD ((places s).getD k (dfl (.int .i64))).toNat (dfl (.st .shape)))] := by rw [t1, List.map_append, List.map_singleton, sortedL_getD _ _ dflS (dfl (.st .shape)) hi]
      have tl : (List.take k (places s)).length = k := by rw [List.length_take, hp2]; omega
      exact ⟨⟨a1, a2⟩, ⟨by omega, f2⟩, ⟨by rw [List.length_map, tl], by rw [List.length_map, tl]; omega⟩, inR_len hk3 ln, k + 1, by omega, by omega, by omega, trivial, t2.symm, trivial, by rw [List.length_append, List.length_map, tl]; rfl⟩
    · replace h : ¬ ((k : Int) < (s.parts.length : Int)) := fun e => h (decide_eq_true e)
      have e : k = s.parts.length := by omega
      subst e
      rw [← hp2, List.take_length]
      obtain ⟨kk, pp, nn, ns, ps⟩ := s
      simp only at hne
      subst hne
      simp only [sortedS, if_true]
      exact ⟨trivial, trivial, trivial, trivial, trivial⟩
theorem vc_meet (c : Int) (hc : 0 ≤ c ∧ c ≤ 400) :
    inR IntKind.i64 (c + (1 : Int)) ∧
      if decide ((400 : Int) < c + (1 : Int)) = true then
        decide ((400 : Int) < c + (1 : Int)) = true ∧ c + (1 : Int) = c + (1 : Int) ∧ True
      else decide ((400 : Int) < c + (1 : Int)) = false ∧ c + (1 : Int) = c + (1 : Int) ∧ True := by
  refine ⟨inR_i64 (by omega) (by omega), ite_intro (fun h => ?_) (fun h => ?_)⟩
  · exact ⟨h, rfl, trivial⟩
  · exact ⟨by simpa using h, rfl, trivial⟩
theorem vc_walk (n : Nat) (s : Shape) (l c : Int) (hs : Wf (.st .shape) s) (hn : sz s ≤ n + 1) (hc : 0 ≤ c ∧ c ≤ 400 ∧ 1 ≤ l ∧ l ≤ c + 1) :
    ((0 : Int) ≤ c ∧ c ≤ (400 : Int)) ∧
      if decide ((400 : Int) < c + (1 : Int)) = true then
        decide ((400 : Int) < c + (↑(sz s) : Int)) = true ∧ c + (1 : Int) = (401 : Int) ∧ True
      else
        (∃ (x : Nat × Int),
            (x.fst ≤ List.length s.parts ∧
                c + (1 : Int) + (↑(szL (List.take x.fst s.parts)) : Int) ≤ (400 : Int) ∧
                  deepL (List.drop x.fst s.parts) (l + (1 : Int)) x.snd = deepS s l) ∧
              l = x.snd ∧
                (0 : Int) = (↑x.fst : Int) ∧
                  s = s ∧
                    l = l ∧
                      (0 : Int) = (0 : Int) ∧
                        s.parts = s.parts ∧
                          (↑(List.length s.parts) : Int) = (↑(List.length s.parts) : Int) ∧
                            c + (1 : Int) = c + (1 : Int) + (↑(szL (List.take x.fst s.parts)) : Int) ∧ s = s ∧ True) ∧
          ∀ (x : Nat × Int),
            x.fst ≤ List.length s.parts ∧
                c + (1 : Int) + (↑(szL (List.take x.fst s.parts)) : Int) ≤ (400 : Int) ∧
                  deepL (List.drop x.fst s.parts) (l + (1 : Int)) x.snd = deepS s l →
              if decide ((↑x.fst : Int) < (↑(List.length s.parts) : Int)) = true then
                ((0 : Int) ≤ (↑x.fst : Int) ∧ (↑x.fst : Int) < (↑(List.length s.parts) : Int)) ∧
                  inR IntKind.i64 (l + (1 : Int)) ∧
                    (sz (List.getD s.parts (Int.toNat (↑x.fst : Int)) (dfl (Ty.st SN.shape))) ≤ n ∧
                        (0 : Int) ≤ c + (1 : Int) + (↑(szL (List.take x.fst s.parts)) : Int) ∧
                          c + (1 : Int) + (↑(szL (List.take x.fst s.parts)) : Int) ≤ (400 : Int) ∧
                            (1 : Int) ≤ l + (1 : Int) ∧
                              l + (1 : Int) ≤ c + (1 : Int) + (↑(szL (List.take x.fst s.parts)) : Int) + (1 : Int)) ∧
                      if
                          decide
                              ((400 : Int) <
                                c + (1 : Int) + (↑(szL (List.take x.fst s.parts)) : Int) +
                                  (↑(sz (List.getD s.parts (Int.toNat (↑x.fst : Int)) (dfl (Ty.st SN.shape)))) : Int)) =
                            true then
                        decide ((400 : Int) < c + (↑(sz s) : Int)) = true ∧ (401 : Int) = (401 : Int) ∧ True
                      else
                        inR IntKind.i64 ((↑x.fst : Int) + (1 : Int)) ∧
                          ∃ (y : Nat × Int),
                            (y.fst ≤ List.length s.parts ∧
                                c + (1 : Int) + (↑(szL (List.take y.fst s.parts)) : Int) ≤ (400 : Int) ∧
                                  deepL (List.drop y.fst s.parts) (l + (1 : Int)) y.snd = deepS s l) ∧
                              List.length s.parts - y.fst < List.length s.parts - x.fst ∧
                                max x.snd
                                      (deepS (List.getD s.parts (Int.toNat (↑x.fst : Int)) (dfl (Ty.st SN.shape)))
                                        (l + (1 : Int))) =
                                    y.snd ∧
                                  (↑x.fst : Int) + (1 : Int) = (↑y.fst : Int) ∧
                                    s = s ∧
                                      l = l ∧
                                        (0 : Int) = (0 : Int) ∧
                                          s.parts = s.parts ∧
                                            (↑(List.length s.parts) : Int) = (↑(List.length s.parts) : Int) ∧
                                              c + (1 : Int) + (↑(szL (List.take x.fst s.parts)) : Int) +
                                                    (↑(sz
                                                          (List.getD s.parts (Int.toNat (↑x.fst : Int))
                                                            (dfl (Ty.st SN.shape)))) :
                                                      Int) =
                                                  c + (1 : Int) + (↑(szL (List.take y.fst s.parts)) : Int) ∧
                                                s = s ∧ True
              else
                decide ((400 : Int) < c + (↑(sz s) : Int)) = false ∧
                  x.snd = deepS s l ∧ c + (1 : Int) + (↑(szL (List.take x.fst s.parts)) : Int) = c + (↑(sz s) : Int) ∧ True := by
  have ln := hs.parts.len
  have hz := sz_eq s
  refine ⟨⟨hc.1, hc.2.1⟩, ite_intro (fun h => ?_) (fun h => ?_)⟩
  · replace h := of_decide_eq_true h
    have := sz_pos s
    exact ⟨decide_eq_true (by omega), by omega, trivial⟩
  replace h : ¬ (400 : Int) < c + 1 := fun e => h (decide_eq_true e)
  have hd0 : deepL s.parts (l + 1) l = deepS s l := by cases s; rfl
  refine ⟨⟨(0, l), ⟨Nat.zero_le _, by simp [szL]; omega, by simpa using hd0⟩, rfl, rfl, rfl, rfl, rfl, rfl, rfl, by simp [szL], rfl, trivial⟩, ?_⟩
  rintro ⟨k, d⟩ ⟨h1, h2, h3⟩
  simp only [Int.toNat_natCast] at h1 h2 h3 ⊢
  have hc0 : (0 : Int) ≤ (szL (s.parts.take k) : Int) := by omega
  refine ite_intro (fun hk => ?_) (fun hk => ?_)
  · replace hk := of_decide_eq_true hk
    have hk : k < s.parts.length := by omega
    have hs1 := szL_take_succ s.parts k (dfl (.st .shape)) hk
    have hm := sz_mem (getD_mem s.parts k (dfl (.st .shape)) hk)
    rw [drop_getD s.parts k (dfl (.st .shape)) hk] at h3
    simp only [deepL] at h3
    have ht := szL_take_le s.parts (k + 1)
    refine ⟨by omega, inR_i64 (by omega) (by omega), ⟨by omega, by omega, h2, by omega, by omega⟩, ite_intro (fun h => ?_) (fun h => ?_)⟩
    · replace h := of_decide_eq_true h
      exact ⟨decide_eq_true (by omega), by trivial, by trivial⟩
    · replace h := fun e => h (decide_eq_true e)
      replace h : ¬ (400 : Int) < c + 1 + (szL (s.parts.take k) : Int) + (sz (s.parts.getD k (dfl (.st .shape))) : Int) := h
      exact ⟨inR_len hk ln, (k + 1, _), ⟨by omega, by simp only; omega, h3⟩, by simp only; omega, rfl, by simp only; omega, by trivial, by trivial, by trivial, by trivial, by trivial, by simp only; omega, by trivial, by trivial⟩
  · replace hk : ¬ ((k : Int) < (s.parts.length : Int)) := fun e => hk (decide_eq_true e)
    have e : k = s.parts.length := by omega
    subst e
    rw [List.take_length] at h2 ⊢
    rw [List.drop_length] at h3
    exact ⟨decide_eq_false (by omega), h3, by omega, trivial⟩
theorem vc_count (s : Shape) (hs : Wf (.st .shape) s) :
    (sz s ≤ sz s ∧
        (0 : Int) ≤ (0 : Int) ∧ (0 : Int) ≤ (400 : Int) ∧ (1 : Int) ≤ (1 : Int) ∧ (1 : Int) ≤ (0 : Int) + (1 : Int)) ∧
      if decide ((400 : Int) < (0 : Int) + (↑(sz s) : Int)) = true then
        ((401 : Int) = if sz s ≤ (400 : Nat) then (↑(sz s) : Int) else (401 : Int)) ∧
          ((0 : Int) = if sz s ≤ (400 : Nat) then deepS s (1 : Int) else (0 : Int)) ∧
            false = decide (sz s ≤ (400 : Nat)) ∧ True
      else
        ((0 : Int) + (↑(sz s) : Int) = if sz s ≤ (400 : Nat) then (↑(sz s) : Int) else (401 : Int)) ∧
          (deepS s (1 : Int) = if sz s ≤ (400 : Nat) then deepS s (1 : Int) else (0 : Int)) ∧
            true = decide (sz s ≤ (400 : Nat)) ∧ True := by
  refine ⟨by simp, ite_intro (fun h => ?_) (fun h => ?_)⟩
  · replace h := of_decide_eq_true h
    have h' : ¬ sz s ≤ 400 := by omega
    rw [if_neg h', if_neg h']
    exact ⟨rfl, rfl, by simp [h'], trivial⟩
  · replace h : ¬ (400 : Int) < 0 + (sz s : Int) := fun e => h (decide_eq_true e)
    have h' : sz s ≤ 400 := by omega
    rw [if_pos h', if_pos h']
    exact ⟨by omega, by trivial, by simp [h'], trivial⟩
theorem vc_Check (s : Shape)  :
    if (!decide (sz s ≤ (400 : Nat))) = true then True ∧ (3 : Int) = checkS s ∧ True
    else
      if decide ((40 : Int) < if sz s ≤ (400 : Nat) then deepS s (1 : Int) else (0 : Int)) = true then
        True ∧ (91 : Int) = checkS s ∧ True
      else
        sz s ≤ (400 : Nat) ∧
          if (!allS fitsF s) = true then True ∧ (70 : Int) = checkS s ∧ True else True ∧ (0 : Int) = checkS s ∧ True := by
  unfold checkS
  by_cases h1 : sz s ≤ 400
  · rw [if_neg (by simp [h1]), if_pos h1, if_neg (show ¬ 400 < sz s by omega)]
    by_cases h2 : (40 : Int) < deepS s 1
    · rw [if_pos (by simp [h2]), if_pos h2]; exact ⟨trivial, rfl, trivial⟩
    · rw [if_neg (by simp [h2]), if_neg h2]
      refine ⟨h1, ?_⟩
      cases allS fitsF s <;> simp
  · rw [if_pos (by simp [h1]), if_pos (show 400 < sz s by omega)]; exact ⟨trivial, rfl, trivial⟩
theorem vc_Same (a b : Shape)  :
    if decide (checkS a = (0 : Int)) = true then
      if decide (checkS b = (0 : Int)) = true then
        (sz a ≤ (400 : Nat) ∧ allS orderly a = true) ∧
          (sz b ≤ (400 : Nat) ∧ allS orderly b = true) ∧
            sz (sortedS a) ≤ (400 : Nat) ∧ True ∧ eqS (sortedS a) (sortedS b) = sameS a b ∧ True
      else True ∧ false = sameS a b ∧ True
    else True ∧ false = sameS a b ∧ True := by
  unfold sameS
  by_cases h : checkS a = 0
  · by_cases h' : checkS b = 0
    · rw [if_pos (by simp [h]), if_pos (by simp [h'])]
      refine ⟨⟨(checkS_zero h).1, checkS_orderly h⟩, ⟨(checkS_zero h').1, checkS_orderly h'⟩, by rw [sz_sorted]; exact (checkS_zero h).1, trivial, by simp [h, h'], trivial⟩
    · rw [if_pos (by simp [h]), if_neg (by simp [h'])]; exact ⟨trivial, by simp [h'], trivial⟩
  · rw [if_neg (by simp [h])]; exact ⟨trivial, by simp [h], trivial⟩
theorem vc_fields (s : Shape) (hs : Wf (.st .shape) s) :
    (∃ (x : Nat × List (Str × Int)),
        (x.fst ≤ List.length s.names ∧
            fieldsFrom (List.drop x.fst s.names) (↑x.fst : Int) x.snd = fieldsFrom s.names (0 : Int) []) ∧
          (0 : Int) = (↑x.fst : Int) ∧
            s = s ∧
              s.names = s.names ∧
                (↑(List.length s.names) : Int) = (↑(List.length s.names) : Int) ∧ [] = x.snd ∧ s = s ∧ True) ∧
      ∀ (x : Nat × List (Str × Int)),
        x.fst ≤ List.length s.names ∧
            fieldsFrom (List.drop x.fst s.names) (↑x.fst : Int) x.snd = fieldsFrom s.names (0 : Int) [] →
          if decide ((↑x.fst : Int) < (↑(List.length s.names) : Int)) = true then
            ((0 : Int) ≤ (↑x.fst : Int) ∧ (↑x.fst : Int) < (↑(List.length s.names) : Int)) ∧
              inR IntKind.i64 ((↑x.fst : Int) + (1 : Int)) ∧
                ∃ (y : Nat × List (Str × Int)),
                  (y.fst ≤ List.length s.names ∧
                      fieldsFrom (List.drop y.fst s.names) (↑y.fst : Int) y.snd = fieldsFrom s.names (0 : Int) []) ∧
                    List.length s.names - y.fst < List.length s.names - x.fst ∧
                      (↑x.fst : Int) + (1 : Int) = (↑y.fst : Int) ∧
                        s = s ∧
                          s.names = s.names ∧
                            (↑(List.length s.names) : Int) = (↑(List.length s.names) : Int) ∧
                              mset x.snd (List.getD s.names (Int.toNat (↑x.fst : Int)) (dfl Ty.str)) (↑x.fst : Int) =
                                  y.snd ∧
                                s = s ∧ True
          else True ∧ x.snd = fieldsFrom s.names (0 : Int) [] ∧ True := by
  have ln := hs.names.len
  simp only [Int.toNat_natCast, eq_self, true_and, and_true]
  refine ⟨⟨(0, []), ⟨Nat.zero_le _, rfl⟩, rfl, rfl⟩, ?_⟩
  rintro ⟨k, m⟩ ⟨h1, h2⟩
  simp only at h1 h2 ⊢
  refine ite_intro (fun h => ?_) (fun h => ?_)
  · replace h := of_decide_eq_true h
    have hk : k < s.names.length := by omega
    rw [drop_getD s.names k (dfl .str) hk] at h2
    simp only [fieldsFrom] at h2
    exact ⟨by omega, inR_len hk ln, (k + 1, _), ⟨by omega, h2⟩, by simp only; omega, rfl, rfl⟩
  · replace h : ¬ ((k : Int) < (s.names.length : Int)) := fun e => h (decide_eq_true e)
    have e : k = s.names.length := by omega
    subst e
    rw [List.drop_length] at h2
    exact h2
theorem vc_belowr (n : Nat) (a b : Shape) (ho : (allS fitsF a = true ∧ allS fitsF b = true ∧ sz a + sz b ≤ n)) :
    (allS fitsF b = true ∧ allS fitsF a = true ∧ sz b + sz a ≤ n) ∧ True ∧ under n b a = under n b a ∧ True := by
  exact ⟨⟨ho.2.1, ho.1, by omega⟩, trivial, rfl, trivial⟩
theorem vc_within1 (n : Nat) (u others : Shape) (hs : Wf (.st .shape) u) (ho : (allL fitsF u.parts = true ∧ allL fitsF others.parts = true ∧ u.names.length = u.parts.length ∧ others.names.length = others.parts.length ∧ others.names.Nodup ∧ szL u.parts + szL others.parts ≤ n)) :
    (∃ (x : Nat),
        (x ≤ List.length u.names ∧
            withinL (fun (p x : Shape) ↦ under n x p) others u.names u.parts =
              withinL (fun (p x : Shape) ↦ under n x p) others (List.drop x u.names) (List.drop x u.parts)) ∧
          (0 : Int) = (↑x : Int) ∧
            u = u ∧
              others = others ∧
                u.names = u.names ∧
                  (↑(List.length u.names) : Int) = (↑(List.length u.names) : Int) ∧
                    u = u ∧
                      others = others ∧
                        fieldsFrom others.names (0 : Int) [] = fieldsFrom others.names (0 : Int) [] ∧ True) ∧
      ∀ (x : Nat),
        x ≤ List.length u.names ∧
            withinL (fun (p x : Shape) ↦ under n x p) others u.names u.parts =
              withinL (fun (p x : Shape) ↦ under n x p) others (List.drop x u.names) (List.drop x u.parts) →
          if decide ((↑x : Int) < (↑(List.length u.names) : Int)) = true then
            ((0 : Int) ≤ (↑x : Int) ∧ (↑x : Int) < (↑(List.length u.names) : Int)) ∧
              if
                  (!Option.isSome
                        (mget (fieldsFrom others.names (0 : Int) [])
                          (List.getD u.names (Int.toNat (↑x : Int)) (dfl Ty.str)))) =
                    true then
                True ∧ false = withinL (fun (p x : Shape) ↦ under n x p) others u.names u.parts ∧ True
              else
                ((0 : Int) ≤ (↑x : Int) ∧ (↑x : Int) < (↑(List.length u.parts) : Int)) ∧
                  ((0 : Int) ≤
                        Option.getD
                          (mget (fieldsFrom others.names (0 : Int) [])
                            (List.getD u.names (Int.toNat (↑x : Int)) (dfl Ty.str)))
                          (0 : Int) ∧
                      Option.getD
                          (mget (fieldsFrom others.names (0 : Int) [])
                            (List.getD u.names (Int.toNat (↑x : Int)) (dfl Ty.str)))
                          (0 : Int) <
                        (↑(List.length others.parts) : Int)) ∧
                    (allS fitsF (List.getD u.parts (Int.toNat (↑x : Int)) (dfl (Ty.st SN.shape))) = true ∧
                        allS fitsF
                              (List.getD others.parts
                                (Int.toNat
                                  (Option.getD
                                    (mget (fieldsFrom others.names (0 : Int) [])
                                      (List.getD u.names (Int.toNat (↑x : Int)) (dfl Ty.str)))
                                    (0 : Int)))
                                (dfl (Ty.st SN.shape))) =
                            true ∧
                          sz (List.getD u.parts (Int.toNat (↑x : Int)) (dfl (Ty.st SN.shape))) +
                              sz
                                (List.getD others.parts
                                  (Int.toNat
                                    (Option.getD
                                      (mget (fieldsFrom others.names (0 : Int) [])
                                        (List.getD u.names (Int.toNat (↑x : Int)) (dfl Ty.str)))
                                      (0 : Int)))
                                  (dfl (Ty.st SN.shape))) ≤
                            n) ∧
                      if
                          (!under n
                                (List.getD others.parts
                                  (Int.toNat
                                    (Option.getD
                                      (mget (fieldsFrom others.names (0 : Int) [])
                                        (List.getD u.names (Int.toNat (↑x : Int)) (dfl Ty.str)))
                                      (0 : Int)))
                                  (dfl (Ty.st SN.shape)))
                                (List.getD u.parts (Int.toNat (↑x : Int)) (dfl (Ty.st SN.shape)))) =
                            true then
                        True ∧ false = withinL (fun (p x : Shape) ↦ under n x p) others u.names u.parts ∧ True
                      else
                        inR IntKind.i64 ((↑x : Int) + (1 : Int)) ∧
                          ∃ (y : Nat),
                            (y ≤ List.length u.names ∧
                                withinL (fun (p x : Shape) ↦ under n x p) others u.names u.parts =
                                  withinL (fun (p x : Shape) ↦ under n x p) others (List.drop y u.names)
                                    (List.drop y u.parts)) ∧
                              List.length u.names - y < List.length u.names - x ∧
                                (↑x : Int) + (1 : Int) = (↑y : Int) ∧
                                  u = u ∧
                                    others = others ∧
                                      u.names = u.names ∧
                                        (↑(List.length u.names) : Int) = (↑(List.length u.names) : Int) ∧
                                          u = u ∧
                                            others = others ∧
                                              fieldsFrom others.names (0 : Int) [] = fieldsFrom others.names (0 : Int) [] ∧
                                                True
          else True ∧ true = withinL (fun (p x : Shape) ↦ under n x p) others u.names u.parts ∧ True := by
  have ln := hs.names.len
  obtain ⟨o1, o2, o3, o4, o5, o6⟩ := ho
  simp only [Int.toNat_natCast, eq_self, true_and, and_true]
  refine ⟨⟨0, ⟨Nat.zero_le _, rfl⟩, rfl⟩, ?_⟩
  rintro k ⟨h1, h2⟩
  refine ite_intro (fun h => ?_) (fun h => ?_)
  · replace h := of_decide_eq_true h
    have hk : k < u.names.length := by omega
    have hk' : k < u.parts.length := by omega
    refine ⟨by omega, ?_⟩
    rw [drop_getD u.names k (dfl .str) hk, drop_getD u.parts k (dfl (.st .shape)) hk'] at h2
    simp only [withinL, partOf] at h2
    have hg := fieldsFrom_get others.names 0 [] (u.names.getD k (dfl .str)) o5
    generalize u.names.getD k (dfl .str) = x at h2 hg ⊢
    by_cases hx : x ∈ others.names
    · rw [if_pos hx] at hg
      rw [partGo_some others.names others.parts x (dfl (.st .shape)) o4 hx] at h2
      rw [hg]
      have hi : others.names.findIdx (fun y => decide (y = x)) < others.parts.length := by
        rw [← o4]; exact List.findIdx_lt_length_of_exists ⟨x, hx, by simp⟩
      simp only [Option.isSome_some, Bool.not_true, Bool.false_eq_true, if_false, Option.getD_some, Int.zero_add, Int.toNat_natCast]
      have f1 := getD_mem u.parts k (dfl (.st .shape)) hk'
      have f2 := getD_mem others.parts _ (dfl (.st .shape)) hi
      have z1 := sz_mem f1
      have z2 := sz_mem f2
      refine ⟨by omega, by omega, ⟨allL_mem o1 f1, allL_mem o2 f2, by omega⟩, ?_⟩
      generalize others.parts.getD _ (dfl (.st .shape)) = q at h2 ⊢
      generalize u.parts.getD k (dfl (.st .shape)) = p at h2 ⊢
      simp only at h2
      cases e : under n q p
      · rw [e] at h2; simpa using h2.symm
      · rw [e] at h2
        rw [if_neg (by simp)]
        exact ⟨inR_len hk ln, k + 1, ⟨by omega, by simpa using h2⟩, by omega, by omega⟩
    · rw [if_neg hx] at hg
      rw [(partGo_none others.names others.parts x o4).2 hx] at h2
      rw [hg]
      simpa [mget] using h2.symm
  · replace h : ¬ ((k : Int) < (u.names.length : Int)) := fun e => h (decide_eq_true e)
    have e : k = u.names.length := by omega
    subst e
    rw [h2, List.drop_length]
    rfl
theorem vc_within2 (n : Nat) (u others : Shape) (hs : Wf (.st .shape) u) (ho : (allL fitsF u.parts = true ∧ allL fitsF others.parts = true ∧ u.names.length = u.parts.length ∧ others.names.length = others.parts.length ∧ others.names.Nodup ∧ szL u.parts + szL others.parts ≤ n)) :
    (∃ (x : Nat),
        (x ≤ List.length u.names ∧
            withinL (under n) others u.names u.parts =
              withinL (under n) others (List.drop x u.names) (List.drop x u.parts)) ∧
          (0 : Int) = (↑x : Int) ∧
            u = u ∧
              others = others ∧
                u.names = u.names ∧
                  (↑(List.length u.names) : Int) = (↑(List.length u.names) : Int) ∧
                    u = u ∧
                      others = others ∧
                        fieldsFrom others.names (0 : Int) [] = fieldsFrom others.names (0 : Int) [] ∧ True) ∧
      ∀ (x : Nat),
        x ≤ List.length u.names ∧
            withinL (under n) others u.names u.parts =
              withinL (under n) others (List.drop x u.names) (List.drop x u.parts) →
          if decide ((↑x : Int) < (↑(List.length u.names) : Int)) = true then
            ((0 : Int) ≤ (↑x : Int) ∧ (↑x : Int) < (↑(List.length u.names) : Int)) ∧
              if
                  (!Option.isSome
                        (mget (fieldsFrom others.names (0 : Int) [])
                          (List.getD u.names (Int.toNat (↑x : Int)) (dfl Ty.str)))) =
                    true then
                True ∧ false = withinL (under n) others u.names u.parts ∧ True
              else
                ((0 : Int) ≤ (↑x : Int) ∧ (↑x : Int) < (↑(List.length u.parts) : Int)) ∧
                  ((0 : Int) ≤
                        Option.getD
                          (mget (fieldsFrom others.names (0 : Int) [])
                            (List.getD u.names (Int.toNat (↑x : Int)) (dfl Ty.str)))
                          (0 : Int) ∧
                      Option.getD
                          (mget (fieldsFrom others.names (0 : Int) [])
                            (List.getD u.names (Int.toNat (↑x : Int)) (dfl Ty.str)))
                          (0 : Int) <
                        (↑(List.length others.parts) : Int)) ∧
                    (allS fitsF (List.getD u.parts (Int.toNat (↑x : Int)) (dfl (Ty.st SN.shape))) = true ∧
                        allS fitsF
                              (List.getD others.parts
                                (Int.toNat
                                  (Option.getD
                                    (mget (fieldsFrom others.names (0 : Int) [])
                                      (List.getD u.names (Int.toNat (↑x : Int)) (dfl Ty.str)))
                                    (0 : Int)))
                                (dfl (Ty.st SN.shape))) =
                            true ∧
                          sz (List.getD u.parts (Int.toNat (↑x : Int)) (dfl (Ty.st SN.shape))) +
                              sz
                                (List.getD others.parts
                                  (Int.toNat
                                    (Option.getD
                                      (mget (fieldsFrom others.names (0 : Int) [])
                                        (List.getD u.names (Int.toNat (↑x : Int)) (dfl Ty.str)))
                                      (0 : Int)))
                                  (dfl (Ty.st SN.shape))) ≤
                            n) ∧
                      if
                          (!under n (List.getD u.parts (Int.toNat (↑x : Int)) (dfl (Ty.st SN.shape)))
                                (List.getD others.parts
                                  (Int.toNat
                                    (Option.getD
                                      (mget (fieldsFrom others.names (0 : Int) [])
                                        (List.getD u.names (Int.toNat (↑x : Int)) (dfl Ty.str)))
                                      (0 : Int)))
                                  (dfl (Ty.st SN.shape)))) =
                            true then
                        True ∧ false = withinL (under n) others u.names u.parts ∧ True
                      else
                        inR IntKind.i64 ((↑x : Int) + (1 : Int)) ∧
                          ∃ (y : Nat),
                            (y ≤ List.length u.names ∧
                                withinL (under n) others u.names u.parts =
                                  withinL (under n) others (List.drop y u.names) (List.drop y u.parts)) ∧
                              List.length u.names - y < List.length u.names - x ∧
                                (↑x : Int) + (1 : Int) = (↑y : Int) ∧
                                  u = u ∧
                                    others = others ∧
                                      u.names = u.names ∧
                                        (↑(List.length u.names) : Int) = (↑(List.length u.names) : Int) ∧
                                          u = u ∧
                                            others = others ∧
                                              fieldsFrom others.names (0 : Int) [] = fieldsFrom others.names (0 : Int) [] ∧
                                                True
          else True ∧ true = withinL (under n) others u.names u.parts ∧ True := by
  have ln := hs.names.len
  obtain ⟨o1, o2, o3, o4, o5, o6⟩ := ho
  simp only [Int.toNat_natCast, eq_self, true_and, and_true]
  refine ⟨⟨0, ⟨Nat.zero_le _, rfl⟩, rfl⟩, ?_⟩
  rintro k ⟨h1, h2⟩
  refine ite_intro (fun h => ?_) (fun h => ?_)
  · replace h := of_decide_eq_true h
    have hk : k < u.names.length := by omega
    have hk' : k < u.parts.length := by omega
    refine ⟨by omega, ?_⟩
    rw [drop_getD u.names k (dfl .str) hk, drop_getD u.parts k (dfl (.st .shape)) hk'] at h2
    simp only [withinL, partOf] at h2
    have hg := fieldsFrom_get others.names 0 [] (u.names.getD k (dfl .str)) o5
    generalize u.names.getD k (dfl .str) = x at h2 hg ⊢
    by_cases hx : x ∈ others.names
    · rw [if_pos hx] at hg
      rw [partGo_some others.names others.parts x (dfl (.st .shape)) o4 hx] at h2
      rw [hg]
      have hi : others.names.findIdx (fun y => decide (y = x)) < others.parts.length := by
        rw [← o4]; exact List.findIdx_lt_length_of_exists ⟨x, hx, by simp⟩
      simp only [Option.isSome_some, Bool.not_true, Bool.false_eq_true, if_false, Option.getD_some, Int.zero_add, Int.toNat_natCast]
      have f1 := getD_mem u.parts k (dfl (.st .shape)) hk'
      have f2 := getD_mem others.parts _ (dfl (.st .shape)) hi
      have z1 := sz_mem f1
      have z2 := sz_mem f2
      refine ⟨by omega, by omega, ⟨allL_mem o1 f1, allL_mem o2 f2, by omega⟩, ?_⟩
      generalize others.parts.getD _ (dfl (.st .shape)) = q at h2 ⊢
      generalize u.parts.getD k (dfl (.st .shape)) = p at h2 ⊢
      simp only at h2
      cases e : under n p q
      · rw [e] at h2; simpa using h2.symm
      · rw [e] at h2
        rw [if_neg (by simp)]
        exact ⟨inR_len hk ln, k + 1, ⟨by omega, by simpa using h2⟩, by omega, by omega⟩
    · rw [if_neg hx] at hg
      rw [(partGo_none others.names others.parts x o4).2 hx] at h2
      rw [hg]
      simpa [mget] using h2.symm
  · replace h : ¬ ((k : Int) < (u.names.length : Int)) := fun e => h (decide_eq_true e)
    have e : k = u.names.length := by omega
    subst e
    rw [h2, List.drop_length]
    rfl
theorem vc_below (n : Nat) (a b : Shape) (ha : Wf (.st .shape) a) (hb : Wf (.st .shape) b) (ho : (allS fitsF a = true ∧ allS fitsF b = true ∧ sz a + sz b ≤ n + 1)) :
    if (!decide (a.kind = b.kind)) = true then True ∧ false = under (n + (1 : Nat)) a b ∧ True
    else
      if decide (a.kind = (9 : Int)) = true then
        if decide (a.pkg = b.pkg) = true then True ∧ decide (a.name = b.name) = under (n + (1 : Nat)) a b ∧ True
        else True ∧ false = under (n + (1 : Nat)) a b ∧ True
      else
        if decide (a.kind = (10 : Int)) = true then
          if decide (a.pkg = b.pkg) = true then True ∧ decide (a.name = b.name) = under (n + (1 : Nat)) a b ∧ True
          else True ∧ false = under (n + (1 : Nat)) a b ∧ True
        else
          if decide (a.kind = (5 : Int)) = true then
            ((0 : Int) ≤ (0 : Int) ∧ (0 : Int) < (↑(List.length a.parts) : Int)) ∧
              ((0 : Int) ≤ (0 : Int) ∧ (0 : Int) < (↑(List.length b.parts) : Int)) ∧
                (allS fitsF (List.getD a.parts (Int.toNat (0 : Int)) (dfl (Ty.st SN.shape))) = true ∧
                    allS fitsF (List.getD b.parts (Int.toNat (0 : Int)) (dfl (Ty.st SN.shape))) = true ∧
                      sz (List.getD a.parts (Int.toNat (0 : Int)) (dfl (Ty.st SN.shape))) +
                          sz (List.getD b.parts (Int.toNat (0 : Int)) (dfl (Ty.st SN.shape))) ≤
                        n) ∧
                  True ∧
                    under n (List.getD a.parts (Int.toNat (0 : Int)) (dfl (Ty.st SN.shape)))
                          (List.getD b.parts (Int.toNat (0 : Int)) (dfl (Ty.st SN.shape))) =
                        under (n + (1 : Nat)) a b ∧
                      True
          else
            if decide (a.kind = (6 : Int)) = true then
              (allL fitsF b.parts = true ∧
                  allL fitsF a.parts = true ∧
                    List.length b.names = List.length b.parts ∧
                      List.length a.names = List.length a.parts ∧ List.Nodup a.names ∧ szL b.parts + szL a.parts ≤ n) ∧
                True ∧ withinL (fun (p x : Shape) ↦ under n x p) a b.names b.parts = under (n + (1 : Nat)) a b ∧ True
            else
              if decide (a.kind = (7 : Int)) = true then
                (allL fitsF a.parts = true ∧
                    allL fitsF b.parts = true ∧
                      List.length a.names = List.length a.parts ∧
                        List.length b.names = List.length b.parts ∧ List.Nodup b.names ∧ szL a.parts + szL b.parts ≤ n) ∧
                  True ∧ withinL (under n) b a.names a.parts = under (n + (1 : Nat)) a b ∧ True
              else
                if decide (a.kind = (8 : Int)) = true then
                  inR IntKind.i64 ((↑(List.length a.parts) : Int) - (1 : Int)) ∧
                    inR IntKind.i64 ((↑(List.length a.parts) : Int) - (1 : Int) + (1 : Int)) ∧
                      if
                          (!decide
                                ((↑(List.length b.parts) : Int) = (↑(List.length a.parts) : Int) - (1 : Int) + (1 : Int))) =
                            true then
                        True ∧ false = under (n + (1 : Nat)) a b ∧ True
                      else
                        ((0 : Int) ≤ (↑(List.length a.parts) : Int) - (1 : Int) ∧
                            (↑(List.length a.parts) : Int) - (1 : Int) < (↑(List.length a.parts) : Int)) ∧
                          ((0 : Int) ≤ (↑(List.length a.parts) : Int) - (1 : Int) ∧
                              (↑(List.length a.parts) : Int) - (1 : Int) < (↑(List.length b.parts) : Int)) ∧
                            (allS fitsF
                                    (List.getD a.parts (Int.toNat ((↑(List.length a.parts) : Int) - (1 : Int)))
                                      (dfl (Ty.st SN.shape))) =
                                  true ∧
                                allS fitsF
                                      (List.getD b.parts (Int.toNat ((↑(List.length a.parts) : Int) - (1 : Int)))
                                        (dfl (Ty.st SN.shape))) =
                                    true ∧
                                  sz
                                        (List.getD a.parts (Int.toNat ((↑(List.length a.parts) : Int) - (1 : Int)))
                                          (dfl (Ty.st SN.shape))) +
                                      sz
                                        (List.getD b.parts (Int.toNat ((↑(List.length a.parts) : Int) - (1 : Int)))
                                          (dfl (Ty.st SN.shape))) ≤
                                    n) ∧
                              if
                                  (!under n
                                        (List.getD a.parts (Int.toNat ((↑(List.length a.parts) : Int) - (1 : Int)))
                                          (dfl (Ty.st SN.shape)))
                                        (List.getD b.parts (Int.toNat ((↑(List.length a.parts) : Int) - (1 : Int)))
                                          (dfl (Ty.st SN.shape)))) =
                                    true then
                                True ∧ false = under (n + (1 : Nat)) a b ∧ True
                              else
                                (∃ (x : Nat),
                                    (x ≤ List.length a.parts - (1 : Nat) ∧
                                        List.length a.parts = List.length b.parts ∧
                                          (0 : Nat) < List.length a.parts ∧
                                            under (n + (1 : Nat)) a b =
                                              contraL (under n)
                                                (List.drop x (List.take (List.length a.parts - (1 : Nat)) a.parts))
                                                (List.drop x (List.take (List.length a.parts - (1 : Nat)) b.parts))) ∧
                                      (0 : Int) = (↑x : Int) ∧
                                        a = a ∧
                                          b = b ∧
                                            false = false ∧
                                              a.kind = a.kind ∧
                                                false = false ∧
                                                  false = false ∧
                                                    false = false ∧
                                                      false = false ∧
                                                        true = true ∧
                                                          (↑(List.length a.parts) : Int) - (1 : Int) =
                                                              (↑(List.length a.parts) : Int) - (1 : Int) ∧
                                                            false = false ∧
                                                              (↑(List.length a.parts) : Int) - (1 : Int) =
                                                                  (↑(List.length a.parts) : Int) - (1 : Int) ∧
                                                                a = a ∧ b = b ∧ True) ∧
                                  ∀ (x : Nat),
                                    x ≤ List.length a.parts - (1 : Nat) ∧
                                        List.length a.parts = List.length b.parts ∧
                                          (0 : Nat) < List.length a.parts ∧
                                            under (n + (1 : Nat)) a b =
                                              contraL (under n)
                                                (List.drop x (List.take (List.length a.parts - (1 : Nat)) a.parts))
                                                (List.drop x (List.take (List.length a.parts - (1 : Nat)) b.parts)) →
                                      if decide ((↑x : Int) < (↑(List.length a.parts) : Int) - (1 : Int)) = true then
                                        ((0 : Int) ≤ (↑x : Int) ∧ (↑x : Int) < (↑(List.length b.parts) : Int)) ∧
                                          ((0 : Int) ≤ (↑x : Int) ∧ (↑x : Int) < (↑(List.length a.parts) : Int)) ∧
                                            (allS fitsF (List.getD b.parts (Int.toNat (↑x : Int)) (dfl (Ty.st SN.shape))) =
                                                  true ∧
                                                allS fitsF
                                                      (List.getD a.parts (Int.toNat (↑x : Int)) (dfl (Ty.st SN.shape))) =
                                                    true ∧
                                                  sz (List.getD b.parts (Int.toNat (↑x : Int)) (dfl (Ty.st SN.shape))) +
                                                      sz (List.getD a.parts (Int.toNat (↑x : Int)) (dfl (Ty.st SN.shape))) ≤
                                                    n) ∧
                                              if
                                                  (!under n
                                                        (List.getD b.parts (Int.toNat (↑x : Int)) (dfl (Ty.st SN.shape)))
                                                        (List.getD a.parts (Int.toNat (↑x : Int)) (dfl (Ty.st SN.shape)))) =
                                                    true then
                                                True ∧ false = under (n + (1 : Nat)) a b ∧ True
                                              else
                                                inR IntKind.i64 ((↑x : Int) + (1 : Int)) ∧
                                                  ∃ (y : Nat),
                                                    (y ≤ List.length a.parts - (1 : Nat) ∧
                                                        List.length a.parts = List.length b.parts ∧
                                                          (0 : Nat) < List.length a.parts ∧
                                                            under (n + (1 : Nat)) a b =
                                                              contraL (under n)
                                                                (List.drop y
                                                                  (List.take (List.length a.parts - (1 : Nat)) a.parts))
                                                                (List.drop y
                                                                  (List.take (List.length a.parts - (1 : Nat)) b.parts))) ∧
                                                      List.length a.parts - y < List.length a.parts - x ∧
                                                        (↑x : Int) + (1 : Int) = (↑y : Int) ∧
                                                          a = a ∧
                                                            b = b ∧
                                                              false = false ∧
                                                                a.kind = a.kind ∧
                                                                  false = false ∧
                                                                    false = false ∧
                                                                      false = false ∧
                                                                        false = false ∧
                                                                          true = true ∧
                                                                            (↑(List.length a.parts) : Int) - (1 : Int) =
                                                                                (↑(List.length a.parts) : Int) - (1 : Int) ∧
                                                                              false = false ∧
                                                                                (↑(List.length a.parts) : Int) - (1 : Int) =
                                                                                    (↑(List.length a.parts) : Int) -
                                                                                      (1 : Int) ∧
                                                                                  a = a ∧ b = b ∧ True
                                      else True ∧ true = under (n + (1 : Nat)) a b ∧ True
                else True ∧ true = under (n + (1 : Nat)) a b ∧ True := by
  obtain ⟨oa, ob, oz⟩ := ho
  obtain ⟨fa, la⟩ := allS_at oa
  obtain ⟨fb, lb⟩ := allS_at ob
  have za := sz_eq a
  have zb := sz_eq b
  have lna := ha.parts.len
  have lnb := hb.parts.len
  simp only [Int.toNat_natCast, Int.toNat_zero, eq_self, true_and, and_true]
  by_cases hk : a.kind = b.kind
  · rw [if_neg (by simp [hk])]
    have hU : under (n + 1) a b = (decide (a.pkg = b.pkg) && decide (a.name = b.name) &&
      (if a.kind = 6 then withinL (fun p x => under n x p) a b.names b.parts
      else if a.kind = 7 then withinL (under n) b a.names a.parts
      else funL (under n) a.parts b.parts)) := by simp only [under, hk, decide_true, Bool.true_and]
    have ref : a.kind = 9 ∨ a.kind = 10 → (if decide (a.pkg = b.pkg) = true then decide (a.name = b.name) = under (n + 1) a b else false = under (n + 1) a b) := by
      intro h
      have pa := (fits_ref fa h).1
      have pb := (fits_ref fb (by omega)).1
      have hU' : under (n + 1) a b = (decide (a.pkg = b.pkg) && decide (a.name = b.name)) := by
        rw [hU, if_neg (show ¬ a.kind = 6 by omega), if_neg (show ¬ a.kind = 7 by omega), pa, pb]
        simp [funL]
      rw [hU']
      by_cases h2 : a.pkg = b.pkg <;> simp [h2]
    by_cases h9 : a.kind = 9
    · rw [if_pos (by simp [h9])]; exact ref (.inl h9)
    rw [if_neg (by simp [h9])]
    by_cases h10 : a.kind = 10
    · rw [if_pos (by simp [h10])]; exact ref (.inr h10)
    rw [if_neg (by simp [h10])]
    by_cases h5 : a.kind = 5
    · rw [if_pos (by simp [h5])]
      obtain ⟨a1, a2, a3, a4⟩ := fits_list fa h5
      obtain ⟨b1, b2, b3, b4⟩ := fits_list fb (by omega)
      have m1 := getD_mem a.parts 0 (dfl (.st .shape)) (by omega)
      have m2 := getD_mem b.parts 0 (dfl (.st .shape)) (by omega)
      have z1 := sz_mem m1
      have z2 := sz_mem m2
      refine ⟨by omega, by omega, ⟨allL_mem la m1, allL_mem lb m2, by omega⟩, ?_⟩
      rw [hU, a3, a4, b3, b4, if_neg (by omega), if_neg (by omega), funL_eq a.parts b.parts (dfl (.st .shape)) (by omega) (by omega), a1]
      simp [contraL]
    rw [if_neg (by simp [h5])]
    by_cases h6 : a.kind = 6
    · rw [if_pos (by simp [h6])]
      obtain ⟨a1, a2, a3, a4, _⟩ := fits_named fa (.inl h6)
      obtain ⟨b1, b2, b3, b4, _⟩ := fits_named fb (.inl (by omega))
      refine ⟨⟨lb, la, b1, a1, a2, by omega⟩, ?_⟩
      rw [hU, a3, a4, b3, b4, if_pos h6]
      simp
    rw [if_neg (by simp [h6])]
    by_cases h7 : a.kind = 7
    · rw [if_pos (by simp [h7])]
      obtain ⟨a1, a2, a3, a4, _⟩ := fits_named fa (.inr h7)
      obtain ⟨b1, b2, b3, b4, _⟩ := fits_named fb (.inr (by omega))
      refine ⟨⟨la, lb, a1, b1, b2, by omega⟩, ?_⟩
      rw [hU, a3, a4, b3, b4, if_neg h6, if_pos h7]
      simp
    rw [if_neg (by simp [h7])]
    by_cases h8 : a.kind = 8
    · rw [if_pos (by simp [h8])]
      obtain ⟨a1, a2, a3, a4⟩ := fits_fun fa h8
      obtain ⟨b1, b2, b3, b4⟩ := fits_fun fb (by omega)
      have hU2 : under (n + 1) a b = funL (under n) a.parts b.parts := by
        rw [hU, a3, a4, b3, b4, if_neg h6, if_neg h7]; simp
      refine ⟨inR_i64 (by omega) (by omega), inR_i64 (by omega) (by omega), ?_⟩
      by_cases hl : a.parts.length = b.parts.length
      · rw [if_neg (by simp; omega)]
        have e1 : ((a.parts.length : Int) - 1).toNat = a.parts.length - 1 := by omega
        rw [e1]
        have m1 := getD_mem a.parts (a.parts.length - 1) (dfl (.st .shape)) (by omega)
        have m2 := getD_mem b.parts (a.parts.length - 1) (dfl (.st .shape)) (by omega)
        have z1 := sz_mem m1
        have z2 := sz_mem m2
        refine ⟨by omega, by omega, ⟨allL_mem la m1, allL_mem lb m2, by omega⟩, ?_⟩
        have hf := funL_eq (F := under n) a.parts b.parts (dfl (.st .shape)) hl a1
        cases e : under n (a.parts.getD (a.parts.length - 1) (dfl (.st .shape))) (b.parts.getD (a.parts.length - 1) (dfl (.st .shape)))
        · rw [e, Bool.false_and] at hf
          rw [hU2, hf]
          simp
        · rw [e, Bool.true_and] at hf
          rw [if_neg (by simp)]
          refine ⟨⟨0, ⟨Nat.zero_le _, hl, a1, by rw [hU2, hf]; rfl⟩, rfl⟩, ?_⟩
          rintro k ⟨k1, _, _, k2⟩
          refine ite_intro (fun h => ?_) (fun h => ?_)
          · replace h := of_decide_eq_true h
            have ka : k < a.parts.length := by omega
            have kb : k < b.parts.length := by omega
            have ma := getD_mem a.parts k (dfl (.st .shape)) ka
            have mb := getD_mem b.parts k (dfl (.st .shape)) kb
            have y1 := sz_mem ma
            have y2 := sz_mem mb
            have ta : (a.parts.take (a.parts.length - 1)).getD k (dfl (.st .shape)) = a.parts.getD k (dfl (.st .shape)) := by
              simp only [List.getD_eq_getElem?_getD, List.getElem?_take]; rw [if_pos (by omega)]
            have tb : (b.parts.take (a.parts.length - 1)).getD k (dfl (.st .shape)) = b.parts.getD k (dfl (.st .shape)) := by
              simp only [List.getD_eq_getElem?_getD, List.getElem?_take]; rw [if_pos (by omega)]
            rw [drop_getD _ k (dfl (.st .shape)) (by rw [List.length_take]; omega), drop_getD (b.parts.take _) k (dfl (.st .shape)) (by rw [List.length_take]; omega), ta, tb] at k2
            simp only [contraL] at k2
            refine ⟨by omega, by omega, ⟨allL_mem lb mb, allL_mem la ma, by omega⟩, ?_⟩
            cases e : under n (b.parts.getD k (dfl (.st .shape))) (a.parts.getD k (dfl (.st .shape)))
            · rw [e, Bool.false_and] at k2
              simpa using k2.symm
            · rw [e, Bool.true_and] at k2
              rw [if_neg (by simp)]
              exact ⟨inR_len ka lna, k + 1, ⟨by omega, hl, a1, k2⟩, by omega, by omega⟩
          · replace h : ¬ ((k : Int) < (a.parts.length : Int) - 1) := fun e => h (decide_eq_true e)
            rw [k2, List.drop_eq_nil_of_le (by rw [List.length_take]; omega)]
            rfl
      · rw [if_pos (by simp; omega), hU2, funL_len hl]
    rw [if_neg (by simp [h8])]
    have hfk := fits_kind fa
    obtain ⟨a1, a2, a3, a4⟩ := fits_prim fa (by omega)
    obtain ⟨b1, b2, b3, b4⟩ := fits_prim fb (by omega)
    rw [hU, a3, a4, b3, b4, if_neg h6, if_neg h7, a1, b1]
    simp [funL]
  · rw [if_pos (by simp [hk])]
    simp [under, hk]
theorem vc_Below (a b : Shape)  :
    if decide (checkS a = (0 : Int)) = true then
      if decide (checkS b = (0 : Int)) = true then
        (allS fitsF a = true ∧ allS fitsF b = true ∧ sz a + sz b ≤ (800 : Nat)) ∧
          True ∧ under (800 : Nat) a b = belowS a b ∧ True
      else True ∧ false = belowS a b ∧ True
    else True ∧ false = belowS a b ∧ True := by
  unfold belowS
  by_cases h : checkS a = 0
  · by_cases h' : checkS b = 0
    · rw [if_pos (by simp [h]), if_pos (by simp [h'])]
      obtain ⟨a1, _, a3⟩ := checkS_zero h
      obtain ⟨b1, _, b3⟩ := checkS_zero h'
      exact ⟨⟨a3, b3, by omega⟩, trivial, by simp [h, h'], trivial⟩
    · rw [if_pos (by simp [h]), if_neg (by simp [h'])]; exact ⟨trivial, by simp [h'], trivial⟩
  · rw [if_neg (by simp [h])]; exact ⟨trivial, by simp [h], trivial⟩
theorem vc_dnamed (l : List AL.Item) (hl : Wf (.lst (.st .item)) l) :
    (∃ (x : Nat × List (Str × Int)),
        (x.fst ≤ List.length l ∧ namedGo (List.drop x.fst l) (↑x.fst : Int) x.snd = namedGo l (0 : Int) []) ∧
          (0 : Int) = (↑x.fst : Int) ∧
            l = l ∧ l = l ∧ (↑(List.length l) : Int) = (↑(List.length l) : Int) ∧ [] = x.snd ∧ True) ∧
      ∀ (x : Nat × List (Str × Int)),
        x.fst ≤ List.length l ∧ namedGo (List.drop x.fst l) (↑x.fst : Int) x.snd = namedGo l (0 : Int) [] →
          if decide ((↑x.fst : Int) < (↑(List.length l) : Int)) = true then
            ((0 : Int) ≤ (↑x.fst : Int) ∧ (↑x.fst : Int) < (↑(List.length l) : Int)) ∧
              if
                  (!Option.isSome (mget x.snd (List.getD l (Int.toNat (↑x.fst : Int)) (dfl (Ty.st SN.item))).name)) =
                    true then
                inR IntKind.i64 ((↑x.fst : Int) + (1 : Int)) ∧
                  ∃ (y : Nat × List (Str × Int)),
                    (y.fst ≤ List.length l ∧ namedGo (List.drop y.fst l) (↑y.fst : Int) y.snd = namedGo l (0 : Int) []) ∧
                      List.length l - y.fst < List.length l - x.fst ∧
                        (↑x.fst : Int) + (1 : Int) = (↑y.fst : Int) ∧
                          l = l ∧
                            l = l ∧
                              (↑(List.length l) : Int) = (↑(List.length l) : Int) ∧
                                mset x.snd (List.getD l (Int.toNat (↑x.fst : Int)) (dfl (Ty.st SN.item))).name
                                      (↑x.fst : Int) =
                                    y.snd ∧
                                  True
              else
                inR IntKind.i64 ((↑x.fst : Int) + (1 : Int)) ∧
                  ∃ (y : Nat × List (Str × Int)),
                    (y.fst ≤ List.length l ∧ namedGo (List.drop y.fst l) (↑y.fst : Int) y.snd = namedGo l (0 : Int) []) ∧
                      List.length l - y.fst < List.length l - x.fst ∧
                        (↑x.fst : Int) + (1 : Int) = (↑y.fst : Int) ∧
                          l = l ∧ l = l ∧ (↑(List.length l) : Int) = (↑(List.length l) : Int) ∧ x.snd = y.snd ∧ True
          else True ∧ x.snd = namedGo l (0 : Int) [] ∧ True := by
  have ln := hl.len
  simp only [Int.toNat_natCast, eq_self, true_and, and_true]
  refine ⟨⟨(0, []), ⟨Nat.zero_le _, rfl⟩, rfl, rfl⟩, ?_⟩
  rintro ⟨k, m⟩ ⟨h1, h2⟩
  simp only at h1 h2 ⊢
  refine ite_intro (fun h => ?_) (fun h => ?_)
  · replace h := of_decide_eq_true h
    have hk : k < l.length := by omega
    rw [drop_getD l k (dfl (.st .item)) hk] at h2
    simp only [namedGo] at h2
    refine ⟨by omega, ite_intro (fun h => ?_) (fun h => ?_)⟩
    · rw [if_neg (by simpa using h)] at h2
      exact ⟨inR_len hk ln, (k + 1, _), ⟨by omega, h2⟩, by simp only; omega, rfl, rfl⟩
    · rw [if_pos (by simpa [Option.isSome_iff_ne_none] using h)] at h2
      exact ⟨inR_len hk ln, (k + 1, _), ⟨by omega, h2⟩, by simp only; omega, rfl, rfl⟩
  · replace h : ¬ ((k : Int) < (l.length : Int)) := fun e => h (decide_eq_true e)
    have e : k = l.length := by omega
    subst e
    rw [List.drop_length] at h2
    exact h2
theorem vc_find (l : List AL.Item) (m : List (Str × Int)) (n : Str) (hl : Wf (.lst (.st .item)) l) (ho : ∀ i, mget m n = some i → 0 ≤ i ∧ i < l.length) :
    if (!Option.isSome (mget m n)) = true then
      True ∧
        (0 : Int) = (atI l (mget m n)).kind ∧
          [] = (atI l (mget m n)).name ∧
            (0 : Int) = (atI l (mget m n)).shape.kind ∧
              [] = (atI l (mget m n)).shape.pkg ∧
                [] = (atI l (mget m n)).shape.name ∧
                  (atI l (mget m n)).shape.names = [] ∧
                    (atI l (mget m n)).shape.parts = [] ∧ false = Option.isSome (mget m n) ∧ m = m ∧ True
    else
      ((0 : Int) ≤ Option.getD (mget m n) (0 : Int) ∧ Option.getD (mget m n) (0 : Int) < (↑(List.length l) : Int)) ∧
        True ∧
          List.getD l (Int.toNat (Option.getD (mget m n) (0 : Int))) (dfl (Ty.st SN.item)) = atI l (mget m n) ∧
            true = Option.isSome (mget m n) ∧ m = m ∧ True := by
  cases h : mget m n with
  | none =>
    simp only [Option.isSome_none, Bool.not_false, if_true]
    exact ⟨trivial, rfl, rfl, rfl, rfl, rfl, rfl, rfl, by trivial, by trivial, trivial⟩
  | some i =>
    obtain ⟨h1, h2⟩ := ho i h
    simp only [Option.isSome_some, Bool.not_true, Bool.false_eq_true, if_false, Option.getD_some]
    exact ⟨⟨h1, h2⟩, trivial, by trivial, by trivial, by trivial, trivial⟩
theorem vc_kind (a b : AL.Item)  :
    if (!decide (a.kind = b.kind)) = true then True ∧ (3 : Int) = kindF a b ∧ True
    else
      if (!decide (a.kind = (1 : Int))) = true then
        if (!decide (a.kind = (3 : Int))) = true then True ∧ (0 : Int) = kindF a b ∧ True
        else
          if sameS a.shape b.shape = true then True ∧ (0 : Int) = kindF a b ∧ True
          else
            if decide (a.kind = (3 : Int)) = true then
              if belowS b.shape a.shape = true then True ∧ (5 : Int) = kindF a b ∧ True
              else True ∧ (4 : Int) = kindF a b ∧ True
            else True ∧ (4 : Int) = kindF a b ∧ True
      else
        if sameS a.shape b.shape = true then True ∧ (0 : Int) = kindF a b ∧ True
        else
          if decide (a.kind = (3 : Int)) = true then
            if belowS b.shape a.shape = true then True ∧ (5 : Int) = kindF a b ∧ True
            else True ∧ (4 : Int) = kindF a b ∧ True
          else True ∧ (4 : Int) = kindF a b ∧ True := by
  have dt : ∀ p : Prop, p → p = True := fun p h => eq_true h
  have df : ∀ p : Prop, ¬ p → p = False := fun p h => eq_false h
  by_cases e1 : a.kind = b.kind <;> by_cases e2 : a.kind = 1 <;> by_cases e3 : a.kind = 3 <;> cases e4 : sameS a.shape b.shape <;> cases e5 : belowS b.shape a.shape
  all_goals
    first | have q1 := eq_false e1 | have q1 := eq_true e1
    first | have q2 := eq_false e2 | have q2 := eq_true e2
    first | have q3 := eq_false e3 | have q3 := eq_true e3
    clear e1 e2 e3 dt df
    simp only [kindF, ne_eq, q1, q2, q3, e4, e5, decide_true, decide_false, Bool.not_true, Bool.not_false, if_true, if_false, Bool.false_eq_true, not_true_eq_false, not_false_eq_true, and_self, or_self, and_true, true_and, and_false, false_and, or_true, true_or, or_false, false_or]
theorem vc_Keys (m : List (Str × Int))  :
    True ∧ m = m ∧ True := by
  trivial
theorem vc_Diff (old now : List AL.Item) (ho : Wf (.lst (.st .item)) old) (hn : Wf (.lst (.st .item)) now) (hb : old.length + now.length ≤ 1000000) :
    ∀ (d' : List (Str × Int)),
      List.Nodup (List.map (fun (x : Str × Int) ↦ x.fst) d') →
        (∀ (k : List UInt8),
            mget d' k = if Option.isSome (mget (namedGo old (0 : Int) []) k) = true then some (1 : Int) else mget [] k) →
          ∀ (d'_1 : List (Str × Int)),
            List.Nodup (List.map (fun (x : Str × Int) ↦ x.fst) d'_1) →
              (∀ (k : List UInt8),
                  mget d'_1 k =
                    if Option.isSome (mget (namedGo now (0 : Int) []) k) = true then some (1 : Int) else mget d' k) →
                List.length d'_1 * (16 : Nat) ≤ (140737488355328 : Nat) ∧
                  (∃ (x : Nat),
                      x ≤ List.length (namesU old now) ∧
                        diffGo old now (List.take x (namesU old now)) = [] ∧
                          (0 : Int) = (↑x : Int) ∧
                            old = old ∧
                              now = now ∧
                                List.length
                                      (List.mergeSort
                                        (List.map (fun (x : den Ty.str × den (Ty.int IntKind.i64)) ↦ x.fst) d'_1)
                                        fun (x y : Str) ↦ decide (x ≤ y)) =
                                    List.length
                                      (List.mergeSort
                                        (List.map (fun (x : den Ty.str × den (Ty.int IntKind.i64)) ↦ x.fst) d'_1)
                                        fun (x y : Str) ↦ decide (x ≤ y)) ∧
                                  (↑(List.length
                                            (List.mergeSort
                                              (List.map (fun (x : den Ty.str × den (Ty.int IntKind.i64)) ↦ x.fst) d'_1)
                                              fun (x y : Str) ↦ decide (x ≤ y))) :
                                        Int) =
                                      (↑(List.length
                                            (List.mergeSort
                                              (List.map (fun (x : den Ty.str × den (Ty.int IntKind.i64)) ↦ x.fst) d'_1)
                                              fun (x y : Str) ↦ decide (x ≤ y))) :
                                        Int) ∧
                                    List.length (diffGo old now (List.take x (namesU old now))) = (0 : Nat) ∧
                                      namedGo old (0 : Int) [] = namedGo old (0 : Int) [] ∧
                                        namedGo now (0 : Int) [] = namedGo now (0 : Int) [] ∧
                                          d'_1 = d'_1 ∧
                                            ((List.mergeSort
                                                  (List.map (fun (x : den Ty.str × den (Ty.int IntKind.i64)) ↦ x.fst) d'_1)
                                                  fun (x y : Str) ↦ decide (x ≤ y)) =
                                                List.mergeSort
                                                  (List.map (fun (x : den Ty.str × den (Ty.int IntKind.i64)) ↦ x.fst) d'_1)
                                                  fun (x y : Str) ↦ decide (x ≤ y)) ∧
                                              True) ∧
                    ∀ (x : Nat),
                      x ≤ List.length (namesU old now) →
                        if
                            decide
                                ((↑x : Int) <
                                  (↑(List.length
                                        (List.mergeSort
                                          (List.map (fun (x : den Ty.str × den (Ty.int IntKind.i64)) ↦ x.fst) d'_1)
                                          fun (x y : Str) ↦ decide (x ≤ y))) :
                                    Int)) =
                              true then
                          ((0 : Int) ≤ (↑x : Int) ∧
                              (↑x : Int) <
                                (↑(List.length
                                      (List.mergeSort
                                        (List.map (fun (x : den Ty.str × den (Ty.int IntKind.i64)) ↦ x.fst) d'_1)
                                        fun (x y : Str) ↦ decide (x ≤ y))) :
                                  Int)) ∧
                            Int.toNat (↑x : Int) <
                                List.length
                                  (List.mergeSort (List.map (fun (x : den Ty.str × den (Ty.int IntKind.i64)) ↦ x.fst) d'_1)
                                    fun (x y : Str) ↦ decide (x ≤ y)) ∧
                              (∀ (i : Int),
                                  mget (namedGo old (0 : Int) [])
                                        (List.getD
                                          (List.mergeSort
                                            (List.map (fun (x : den Ty.str × den (Ty.int IntKind.i64)) ↦ x.fst) d'_1)
                                            fun (x y : Str) ↦ decide (x ≤ y))
                                          (Int.toNat (↑x : Int)) (dfl Ty.str)) =
                                      some i →
                                    (0 : Int) ≤ i ∧ i < (↑(List.length old) : Int)) ∧
                                (∀ (i : Int),
                                    mget (namedGo now (0 : Int) [])
                                          (List.getD
                                            (List.mergeSort
                                              (List.map (fun (x : den Ty.str × den (Ty.int IntKind.i64)) ↦ x.fst) d'_1)
                                              fun (x y : Str) ↦ decide (x ≤ y))
                                            (Int.toNat (↑x : Int)) (dfl Ty.str)) =
                                        some i →
                                      (0 : Int) ≤ i ∧ i < (↑(List.length now) : Int)) ∧
                                  if
                                      (!Option.isSome
                                            (mget (namedGo now (0 : Int) [])
                                              (List.getD
                                                (List.mergeSort
                                                  (List.map (fun (x : den Ty.str × den (Ty.int IntKind.i64)) ↦ x.fst) d'_1)
                                                  fun (x y : Str) ↦ decide (x ≤ y))
                                                (Int.toNat (↑x : Int)) (dfl Ty.str)))) =
                                        true then
                                    (List.length (diffGo old now (List.take x (namesU old now))) =
                                          List.length (diffGo old now (List.take x (namesU old now))) ∧
                                        (List.length (diffGo old now (List.take x (namesU old now))) +
                                              List.length
                                                [{ kind := (2 : Int),
                                                    name :=
                                                      List.getD
                                                        (List.mergeSort
                                                          (List.map
                                                            (fun (x : den Ty.str × den (Ty.int IntKind.i64)) ↦ x.fst) d'_1)
                                                          fun (x y : Str) ↦ decide (x ≤ y))
                                                        (Int.toNat (↑x : Int)) (dfl Ty.str) :
                                                    Change }]) *
                                            (24 : Nat) ≤
                                          (140737488355328 : Nat)) ∧
                                      inR IntKind.i64 ((↑x : Int) + (1 : Int)) ∧
                                        ∃ (y : Nat),
                                          y ≤ List.length (namesU old now) ∧
                                            List.length (namesU old now) - y < List.length (namesU old now) - x ∧
                                              diffGo old now (List.take x (namesU old now)) ++
                                                    [{ kind := (2 : Int),
                                                        name :=
                                                          List.getD
                                                            (List.mergeSort
                                                              (List.map
                                                                (fun (x : den Ty.str × den (Ty.int IntKind.i64)) ↦ x.fst)
                                                                d'_1)
                                                              fun (x y : Str) ↦ decide (x ≤ y))
                                                            (Int.toNat (↑x : Int)) (dfl Ty.str) :
                                                        Change }] =
                                                  diffGo old now (List.take y (namesU old now)) ∧
                                                (↑x : Int) + (1 : Int) = (↑y : Int) ∧
                                                  old = old ∧
                                                    now = now ∧
                                                      List.length
                                                            (List.mergeSort
                                                              (List.map
                                                                (fun (x : den Ty.str × den (Ty.int IntKind.i64)) ↦ x.fst)
                                                                d'_1)
                                                              fun (x y : Str) ↦ decide (x ≤ y)) =
                                                          List.length
                                                            (List.mergeSort
                                                              (List.map
                                                                (fun (x : den Ty.str × den (Ty.int IntKind.i64)) ↦ x.fst)
                                                                d'_1)
                                                              fun (x y : Str) ↦ decide (x ≤ y)) ∧
                                                        (↑(List.length
                                                                  (List.mergeSort
                                                                    (List.map
                                                                      (fun (x : den Ty.str × den (Ty.int IntKind.i64)) ↦
                                                                        x.fst)
                                                                      d'_1)
                                                                    fun (x y : Str) ↦ decide (x ≤ y))) :
                                                              Int) =
                                                            (↑(List.length
                                                                  (List.mergeSort
                                                                    (List.map
                                                                      (fun (x : den Ty.str × den (Ty.int IntKind.i64)) ↦
                                                                        x.fst)
                                                                      d'_1)
                                                                    fun (x y : Str) ↦ decide (x ≤ y))) :
                                                              Int) ∧
                                                          List.length
                                                                (diffGo old now (List.take x (namesU old now)) ++
                                                                  [{ kind := (2 : Int),
                                                                      name :=
                                                                        List.getD
                                                                          (List.mergeSort
                                                                            (List.map
                                                                              (fun
                                                                                  (x :
                                                                                    den Ty.str × den (Ty.int IntKind.i64)) ↦
                                                                                x.fst)
                                                                              d'_1)
                                                                            fun (x y : Str) ↦ decide (x ≤ y))
                                                                          (Int.toNat (↑x : Int)) (dfl Ty.str) :
                                                                      Change }]) =
                                                              List.length (diffGo old now (List.take y (namesU old now))) ∧
                                                            namedGo old (0 : Int) [] = namedGo old (0 : Int) [] ∧
                                                              namedGo now (0 : Int) [] = namedGo now (0 : Int) [] ∧
                                                                d'_1 = d'_1 ∧
                                                                  ((List.mergeSort
                                                                        (List.map
                                                                          (fun (x : den Ty.str × den (Ty.int IntKind.i64)) ↦
                                                                            x.fst)
                                                                          d'_1)
                                                                        fun (x y : Str) ↦ decide (x ≤ y)) =
                                                                      List.mergeSort
                                                                        (List.map
                                                                          (fun (x : den Ty.str × den (Ty.int IntKind.i64)) ↦
                                                                            x.fst)
                                                                          d'_1)
                                                                        fun (x y : Str) ↦ decide (x ≤ y)) ∧
                                                                    True
                                  else
                                    if
                                        Option.isSome
                                            (mget (namedGo old (0 : Int) [])
                                              (List.getD
                                                (List.mergeSort
                                                  (List.map (fun (x : den Ty.str × den (Ty.int IntKind.i64)) ↦ x.fst) d'_1)
                                                  fun (x y : Str) ↦ decide (x ≤ y))
                                                (Int.toNat (↑x : Int)) (dfl Ty.str))) =
                                          true then
                                      if
                                          (!decide
                                                (kindF
                                                    (atI old
                                                      (mget (namedGo old (0 : Int) [])
                                                        (List.getD
                                                          (List.mergeSort
                                                            (List.map
                                                              (fun (x : den Ty.str × den (Ty.int IntKind.i64)) ↦ x.fst)
                                                              d'_1)
                                                            fun (x y : Str) ↦ decide (x ≤ y))
                                                          (Int.toNat (↑x : Int)) (dfl Ty.str))))
                                                    (atI now
                                                      (mget (namedGo now (0 : Int) [])
                                                        (List.getD
                                                          (List.mergeSort
                                                            (List.map
                                                              (fun (x : den Ty.str × den (Ty.int IntKind.i64)) ↦ x.fst)
                                                              d'_1)
                                                            fun (x y : Str) ↦ decide (x ≤ y))
                                                          (Int.toNat (↑x : Int)) (dfl Ty.str)))) =
                                                  (0 : Int))) =
                                            true then
                                        (List.length (diffGo old now (List.take x (namesU old now))) =
                                              List.length (diffGo old now (List.take x (namesU old now))) ∧
                                            (List.length (diffGo old now (List.take x (namesU old now))) +
                                                  List.length
                                                    [{
                                                        kind :=
                                                          kindF
                                                            (atI old
                                                              (mget (namedGo old (0 : Int) [])
                                                                (List.getD
                                                                  (List.mergeSort
                                                                    (List.map
                                                                      (fun (x : den Ty.str × den (Ty.int IntKind.i64)) ↦
                                                                        x.fst)
                                                                      d'_1)
                                                                    fun (x y : Str) ↦ decide (x ≤ y))
                                                                  (Int.toNat (↑x : Int)) (dfl Ty.str))))
                                                            (atI now
                                                              (mget (namedGo now (0 : Int) [])
                                                                (List.getD
                                                                  (List.mergeSort
                                                                    (List.map
                                                                      (fun (x : den Ty.str × den (Ty.int IntKind.i64)) ↦
                                                                        x.fst)
                                                                      d'_1)
                                                                    fun (x y : Str) ↦ decide (x ≤ y))
                                                                  (Int.toNat (↑x : Int)) (dfl Ty.str)))),
                                                        name :=
                                                          List.getD
                                                            (List.mergeSort
                                                              (List.map
                                                                (fun (x : den Ty.str × den (Ty.int IntKind.i64)) ↦ x.fst)
                                                                d'_1)
                                                              fun (x y : Str) ↦ decide (x ≤ y))
                                                            (Int.toNat (↑x : Int)) (dfl Ty.str) :
                                                        Change }]) *
                                                (24 : Nat) ≤
                                              (140737488355328 : Nat)) ∧
                                          inR IntKind.i64 ((↑x : Int) + (1 : Int)) ∧
                                            ∃ (y : Nat),
                                              y ≤ List.length (namesU old now) ∧
                                                List.length (namesU old now) - y < List.length (namesU old now) - x ∧
                                                  diffGo old now (List.take x (namesU old now)) ++
                                                        [{
                                                            kind :=
                                                              kindF
                                                                (atI old
                                                                  (mget (namedGo old (0 : Int) [])
                                                                    (List.getD
                                                                      (List.mergeSort
                                                                        (List.map
                                                                          (fun (x : den Ty.str × den (Ty.int IntKind.i64)) ↦
                                                                            x.fst)
                                                                          d'_1)
                                                                        fun (x y : Str) ↦ decide (x ≤ y))
                                                                      (Int.toNat (↑x : Int)) (dfl Ty.str))))
                                                                (atI now
                                                                  (mget (namedGo now (0 : Int) [])
                                                                    (List.getD
                                                                      (List.mergeSort
                                                                        (List.map
                                                                          (fun (x : den Ty.str × den (Ty.int IntKind.i64)) ↦
                                                                            x.fst)
                                                                          d'_1)
                                                                        fun (x y : Str) ↦ decide (x ≤ y))
                                                                      (Int.toNat (↑x : Int)) (dfl Ty.str)))),
                                                            name :=
                                                              List.getD
                                                                (List.mergeSort
                                                                  (List.map
                                                                    (fun (x : den Ty.str × den (Ty.int IntKind.i64)) ↦
                                                                      x.fst)
                                                                    d'_1)
                                                                  fun (x y : Str) ↦ decide (x ≤ y))
                                                                (Int.toNat (↑x : Int)) (dfl Ty.str) :
                                                            Change }] =
                                                      diffGo old now (List.take y (namesU old now)) ∧
                                                    (↑x : Int) + (1 : Int) = (↑y : Int) ∧
                                                      old = old ∧
                                                        now = now ∧
                                                          List.length
                                                                (List.mergeSort
                                                                  (List.map
                                                                    (fun (x : den Ty.str × den (Ty.int IntKind.i64)) ↦
                                                                      x.fst)
                                                                    d'_1)
                                                                  fun (x y : Str) ↦ decide (x ≤ y)) =
                                                              List.length
                                                                (List.mergeSort
                                                                  (List.map
                                                                    (fun (x : den Ty.str × den (Ty.int IntKind.i64)) ↦
                                                                      x.fst)
                                                                    d'_1)
                                                                  fun (x y : Str) ↦ decide (x ≤ y)) ∧
                                                            (↑(List.length
                                                                      (List.mergeSort
                                                                        (List.map
                                                                          (fun (x : den Ty.str × den (Ty.int IntKind.i64)) ↦
                                                                            x.fst)
                                                                          d'_1)
                                                                        fun (x y : Str) ↦ decide (x ≤ y))) :
                                                                  Int) =
                                                                (↑(List.length
                                                                      (List.mergeSort
                                                                        (List.map
                                                                          (fun (x : den Ty.str × den (Ty.int IntKind.i64)) ↦
                                                                            x.fst)
                                                                          d'_1)
                                                                        fun (x y : Str) ↦ decide (x ≤ y))) :
                                                                  Int) ∧
                                                              List.length
                                                                    (diffGo old now (List.take x (namesU old now)) ++
                                                                      [{
                                                                          kind :=
                                                                            kindF
                                                                              (atI old
                                                                                (mget (namedGo old (0 : Int) [])
                                                                                  (List.getD
                                                                                    (List.mergeSort
                                                                                      (List.map
                                                                                        (fun
                                                                                            (x :
                                                                                              den Ty.str ×
                                                                                                den (Ty.int IntKind.i64)) ↦
                                                                                          x.fst)
                                                                                        d'_1)
                                                                                      fun (x y : Str) ↦ decide (x ≤ y))
                                                                                    (Int.toNat (↑x : Int)) (dfl Ty.str))))
                                                                              (atI now
                                                                                (mget (namedGo now (0 : Int) [])
                                                                                  (List.getD
                                                                                    (List.mergeSort
                                                                                      (List.map
                                                                                        (fun
                                                                                            (x :
                                                                                              den Ty.str ×
                                                                                                den (Ty.int IntKind.i64)) ↦
                                                                                          x.fst)
                                                                                        d'_1)
                                                                                      fun (x y : Str) ↦ decide (x ≤ y))
                                                                                    (Int.toNat (↑x : Int)) (dfl Ty.str)))),
                                                                          name :=
                                                                            List.getD
                                                                              (List.mergeSort
                                                                                (List.map
                                                                                  (fun
                                                                                      (x :
                                                                                        den Ty.str ×
                                                                                          den (Ty.int IntKind.i64)) ↦
                                                                                    x.fst)
                                                                                  d'_1)
                                                                                fun (x y : Str) ↦ decide (x ≤ y))
                                                                              (Int.toNat (↑x : Int)) (dfl Ty.str) :
                                                                          Change }]) =
                                                                  List.length
                                                                    (diffGo old now (List.take y (namesU old now))) ∧
                                                                namedGo old (0 : Int) [] = namedGo old (0 : Int) [] ∧
                                                                  namedGo now (0 : Int) [] = namedGo now (0 : Int) [] ∧
                                                                    d'_1 = d'_1 ∧
                                                                      ((List.mergeSort
                                                                            (List.map
                                                                              (fun
                                                                                  (x :
                                                                                    den Ty.str × den (Ty.int IntKind.i64)) ↦
                                                                                x.fst)
                                                                              d'_1)
                                                                            fun (x y : Str) ↦ decide (x ≤ y)) =
                                                                          List.mergeSort
                                                                            (List.map
                                                                              (fun
                                                                                  (x :
                                                                                    den Ty.str × den (Ty.int IntKind.i64)) ↦
                                                                                x.fst)
                                                                              d'_1)
                                                                            fun (x y : Str) ↦ decide (x ≤ y)) ∧
                                                                        True
                                      else
                                        inR IntKind.i64 ((↑x : Int) + (1 : Int)) ∧
                                          ∃ (y : Nat),
                                            y ≤ List.length (namesU old now) ∧
                                              List.length (namesU old now) - y < List.length (namesU old now) - x ∧
                                                diffGo old now (List.take x (namesU old now)) =
                                                    diffGo old now (List.take y (namesU old now)) ∧
                                                  (↑x : Int) + (1 : Int) = (↑y : Int) ∧
                                                    old = old ∧
                                                      now = now ∧
                                                        List.length
                                                              (List.mergeSort
                                                                (List.map
                                                                  (fun (x : den Ty.str × den (Ty.int IntKind.i64)) ↦ x.fst)
                                                                  d'_1)
                                                                fun (x y : Str) ↦ decide (x ≤ y)) =
                                                            List.length
                                                              (List.mergeSort
                                                                (List.map
                                                                  (fun (x : den Ty.str × den (Ty.int IntKind.i64)) ↦ x.fst)
                                                                  d'_1)
                                                                fun (x y : Str) ↦ decide (x ≤ y)) ∧
                                                          (↑(List.length
                                                                    (List.mergeSort
                                                                      (List.map
                                                                        (fun (x : den Ty.str × den (Ty.int IntKind.i64)) ↦
                                                                          x.fst)
                                                                        d'_1)
                                                                      fun (x y : Str) ↦ decide (x ≤ y))) :
                                                                Int) =
                                                              (↑(List.length
                                                                    (List.mergeSort
                                                                      (List.map
                                                                        (fun (x : den Ty.str × den (Ty.int IntKind.i64)) ↦
                                                                          x.fst)
                                                                        d'_1)
                                                                      fun (x y : Str) ↦ decide (x ≤ y))) :
                                                                Int) ∧
                                                            List.length (diffGo old now (List.take x (namesU old now))) =
                                                                List.length
                                                                  (diffGo old now (List.take y (namesU old now))) ∧
                                                              namedGo old (0 : Int) [] = namedGo old (0 : Int) [] ∧
                                                                namedGo now (0 : Int) [] = namedGo now (0 : Int) [] ∧
                                                                  d'_1 = d'_1 ∧
                                                                    ((List.mergeSort
                                                                          (List.map
                                                                            (fun
                                                                                (x :
                                                                                  den Ty.str × den (Ty.int IntKind.i64)) ↦
                                                                              x.fst)
                                                                            d'_1)
                                                                          fun (x y : Str) ↦ decide (x ≤ y)) =
                                                                        List.mergeSort
                                                                          (List.map
                                                                            (fun
                                                                                (x :
                                                                                  den Ty.str × den (Ty.int IntKind.i64)) ↦
                                                                              x.fst)
                                                                            d'_1)
                                                                          fun (x y : Str) ↦ decide (x ≤ y)) ∧
                                                                      True
                                    else
                                      (List.length (diffGo old now (List.take x (namesU old now))) =
                                            List.length (diffGo old now (List.take x (namesU old now))) ∧
                                          (List.length (diffGo old now (List.take x (namesU old now))) +
                                                List.length
                                                  [{ kind := (1 : Int),
                                                      name :=
                                                        List.getD
                                                          (List.mergeSort
                                                            (List.map
                                                              (fun (x : den Ty.str × den (Ty.int IntKind.i64)) ↦ x.fst)
                                                              d'_1)
                                                            fun (x y : Str) ↦ decide (x ≤ y))
                                                          (Int.toNat (↑x : Int)) (dfl Ty.str) :
                                                      Change }]) *
                                              (24 : Nat) ≤
                                            (140737488355328 : Nat)) ∧
                                        inR IntKind.i64 ((↑x : Int) + (1 : Int)) ∧
                                          ∃ (y : Nat),
                                            y ≤ List.length (namesU old now) ∧
                                              List.length (namesU old now) - y < List.length (namesU old now) - x ∧
                                                diffGo old now (List.take x (namesU old now)) ++
                                                      [{ kind := (1 : Int),
                                                          name :=
                                                            List.getD
                                                              (List.mergeSort
                                                                (List.map
                                                                  (fun (x : den Ty.str × den (Ty.int IntKind.i64)) ↦ x.fst)
                                                                  d'_1)
                                                                fun (x y : Str) ↦ decide (x ≤ y))
                                                              (Int.toNat (↑x : Int)) (dfl Ty.str) :
                                                          Change }] =
                                                    diffGo old now (List.take y (namesU old now)) ∧
                                                  (↑x : Int) + (1 : Int) = (↑y : Int) ∧
                                                    old = old ∧
                                                      now = now ∧
                                                        List.length
                                                              (List.mergeSort
                                                                (List.map
                                                                  (fun (x : den Ty.str × den (Ty.int IntKind.i64)) ↦ x.fst)
                                                                  d'_1)
                                                                fun (x y : Str) ↦ decide (x ≤ y)) =
                                                            List.length
                                                              (List.mergeSort
                                                                (List.map
                                                                  (fun (x : den Ty.str × den (Ty.int IntKind.i64)) ↦ x.fst)
                                                                  d'_1)
                                                                fun (x y : Str) ↦ decide (x ≤ y)) ∧
                                                          (↑(List.length
                                                                    (List.mergeSort
                                                                      (List.map
                                                                        (fun (x : den Ty.str × den (Ty.int IntKind.i64)) ↦
                                                                          x.fst)
                                                                        d'_1)
                                                                      fun (x y : Str) ↦ decide (x ≤ y))) :
                                                                Int) =
                                                              (↑(List.length
                                                                    (List.mergeSort
                                                                      (List.map
                                                                        (fun (x : den Ty.str × den (Ty.int IntKind.i64)) ↦
                                                                          x.fst)
                                                                        d'_1)
                                                                      fun (x y : Str) ↦ decide (x ≤ y))) :
                                                                Int) ∧
                                                            List.length
                                                                  (diffGo old now (List.take x (namesU old now)) ++
                                                                    [{ kind := (1 : Int),
                                                                        name :=
                                                                          List.getD
                                                                            (List.mergeSort
                                                                              (List.map
                                                                                (fun
                                                                                    (x :
                                                                                      den Ty.str ×
                                                                                        den (Ty.int IntKind.i64)) ↦
                                                                                  x.fst)
                                                                                d'_1)
                                                                              fun (x y : Str) ↦ decide (x ≤ y))
                                                                            (Int.toNat (↑x : Int)) (dfl Ty.str) :
                                                                        Change }]) =
                                                                List.length
                                                                  (diffGo old now (List.take y (namesU old now))) ∧
                                                              namedGo old (0 : Int) [] = namedGo old (0 : Int) [] ∧
                                                                namedGo now (0 : Int) [] = namedGo now (0 : Int) [] ∧
                                                                  d'_1 = d'_1 ∧
                                                                    ((List.mergeSort
                                                                          (List.map
                                                                            (fun
                                                                                (x :
                                                                                  den Ty.str × den (Ty.int IntKind.i64)) ↦
                                                                              x.fst)
                                                                            d'_1)
                                                                          fun (x y : Str) ↦ decide (x ≤ y)) =
                                                                        List.mergeSort
                                                                          (List.map
                                                                            (fun
                                                                                (x :
                                                                                  den Ty.str × den (Ty.int IntKind.i64)) ↦
                                                                              x.fst)
                                                                            d'_1)
                                                                          fun (x y : Str) ↦ decide (x ≤ y)) ∧
                                                                      True
                        else True ∧ diffGo old now (List.take x (namesU old now)) = diffF old now ∧ True := by
  intro d1 hd1 hg1 d hd hg
  have hs : sortS (d.map (·.1)) = namesU old now := namesU_of hd fun k => by
    rw [hg k, hg1 k]
    obtain ⟨_, o2, _⟩ := named_find old k
    obtain ⟨_, n2, _⟩ := named_find now k
    rw [o2, n2, List.map_append, List.mem_append]
    have e1 := @itemOf_none old k
    have e2 := @itemOf_none now k
    cases h1 : itemOf old k <;> cases h2 : itemOf now k <;> simp only [h1, h2, true_iff, reduceCtorEq, false_iff, Classical.not_not] at e1 e2 <;> simp [mget, e1, e2]
  have hdl : d.length ≤ 1000000 := by
    have := congrArg List.length hs
    rw [sortS_length, List.length_map] at this
    have := namesU_len old now
    omega
  revert hs
  unfold sortS
  intro hs
  rw [show (List.mergeSort (List.map (fun (x : den Ty.str × den (Ty.int IntKind.i64)) => x.fst) d) fun (x y : Str) => decide (x ≤ y)) = namesU old now from hs]
  have hN : (namesU old now).length ≤ 1000000 := Nat.le_trans (namesU_len old now) hb
  generalize hNN : namesU old now = N at hN
  simp only [Int.toNat_natCast, eq_self, true_and, and_true]
  refine ⟨by omega, ⟨0, Nat.zero_le _, by simp [diffGo], rfl, by simp [diffGo]⟩, ?_⟩
  rintro k hk
  have hdf : diffF old now = diffGo old now N := by unfold diffF; rw [hNN]
  refine ite_intro (fun h => ?_) (fun h => ?_)
  · replace h := of_decide_eq_true h
    have hk3 : k < N.length := by omega
    have ht := take_getD N k (dfl .str) hk3
    have hgl := diffGo_len old now (N.take k)
    have htl : (N.take k).length = k := by rw [List.length_take]; omega
    obtain ⟨o1, o2, o3⟩ := named_find old (N.getD k (dfl .str))
    obtain ⟨n1, n2, n3⟩ := named_find now (N.getD k (dfl .str))
    have hx : diffGo old now (N.take (k + 1)) = diffGo old now (N.take k) ++ diffGo old now [N.getD k (dfl .str)] := by rw [ht, diffGo_append]
    have hc : changeF old now (N.getD k (dfl .str)) = changeF old now (N.getD k (dfl .str)) := rfl
    conv at hc => rhs; unfold changeF
    have add : ∀ c : Int, changeF old now (N.getD k (dfl .str)) = c → c ≠ 0 → diffGo old now (N.take (k + 1)) = diffGo old now (N.take k) ++ [⟨c, (N.getD k (dfl .str))⟩] := by
      intro c e h0
      rw [hx]
      simp only [diffGo, e, if_pos h0]
    have same : changeF old now (N.getD k (dfl .str)) = 0 → diffGo old now (N.take (k + 1)) = diffGo old now (N.take k) := by
      intro e
      have : diffGo old now [(N.getD k (dfl .str))] = [] := by simp only [diffGo]; rw [if_neg (by rw [e]; simp)]
      rw [hx, this, List.append_nil]
    have fin : ∀ c : Int, changeF old now (N.getD k (dfl .str)) = c → c ≠ 0 → (((diffGo old now (N.take k)).length + [({ kind := c, name := (N.getD k (dfl .str)) } : Change)].length) * 24 ≤ 140737488355328 ∧ inR IntKind.i64 ((k : Int) + 1) ∧
        ∃ y, y ≤ N.length ∧ N.length - y < N.length - k ∧ diffGo old now (N.take k) ++ [{ kind := c, name := (N.getD k (dfl .str)) }] = diffGo old now (N.take y) ∧ (k : Int) + 1 = (y : Int) ∧ (diffGo old now (N.take k) ++ [({ kind := c, name := (N.getD k (dfl .str)) } : Change)]).length = (diffGo old now (N.take y)).length) := by
      intro c e h0
      have := add c e h0
      refine ⟨by simp only [List.length_singleton]; omega, inR_i64 (by omega) (by omega), k + 1, by omega, by omega, this.symm, rfl, by rw [this]⟩
    have finS : changeF old now (N.getD k (dfl .str)) = 0 → (inR IntKind.i64 ((k : Int) + 1) ∧
        ∃ y, y ≤ N.length ∧ N.length - y < N.length - k ∧ diffGo old now (N.take k) = diffGo old now (N.take y) ∧ (k : Int) + 1 = (y : Int) ∧ (diffGo old now (N.take k)).length = (diffGo old now (N.take y)).length) := by
      intro e
      have := same e
      exact ⟨inR_i64 (by omega) (by omega), k + 1, by omega, by omega, this.symm, rfl, by rw [this]⟩
    refine ⟨by omega, by omega, o1, n1, ?_⟩
    rw [n2, o2]
    cases hn : itemOf now (N.getD k (dfl .str)) with
    | none =>
      rw [hn] at hc
      simp only [Option.isSome_none, Bool.not_false, if_true]
      exact fin 2 hc (by omega)
    | some yy =>
      rw [hn] at hc
      simp only [Option.isSome_some, Bool.not_true, Bool.false_eq_true, if_false]
      have n4 := n3 yy hn
      cases hoo : itemOf old (N.getD k (dfl .str)) with
      | none =>
        rw [hoo] at hc
        simp only [Option.isSome_none, Bool.false_eq_true, if_false]
        exact fin 1 hc (by omega)
      | some xx =>
        rw [hoo] at hc
        simp only at hc
        have o4 := o3 xx hoo
        simp only [Option.isSome_some, if_true]
        simp only [n4, o4]
        by_cases e0 : kindF xx yy = 0
        · rw [if_neg (by simp [e0])]
          exact finS (by rw [hc, e0])
        · rw [if_pos (by simp [e0])]
          exact fin _ hc e0
  · replace h : ¬ ((k : Int) < (N.length : Int)) := fun e => h (decide_eq_true e)
    have e : k = N.length := by omega
    subst e
    rw [List.take_length]
    exact hdf.symm
theorem vc_Show (l : List Change) (hl : Wf (.lst (.st .change)) l) (hb : showN l ≤ 1000000) :
    (∃ (x : Nat × Str),
        (x.fst ≤ List.length l ∧
            showGo (List.drop x.fst l) x.snd = showF l ∧ List.length x.snd + showN (List.drop x.fst l) ≤ (1000000 : Nat)) ∧
          (0 : Int) = (↑x.fst : Int) ∧
            l = l ∧
              noOf UInt8 = noOf UInt8 ∧ l = l ∧ (↑(List.length l) : Int) = (↑(List.length l) : Int) ∧ [] = x.snd ∧ True) ∧
      ∀ (x : Nat × Str),
        x.fst ≤ List.length l ∧
            showGo (List.drop x.fst l) x.snd = showF l ∧ List.length x.snd + showN (List.drop x.fst l) ≤ (1000000 : Nat) →
          if decide ((↑x.fst : Int) < (↑(List.length l) : Int)) = true then
            ((0 : Int) ≤ (↑x.fst : Int) ∧ (↑x.fst : Int) < (↑(List.length l) : Int)) ∧
              if decide ((1 : Int) ≤ (List.getD l (Int.toNat (↑x.fst : Int)) (dfl (Ty.st SN.change))).kind) = true then
                if decide ((List.getD l (Int.toNat (↑x.fst : Int)) (dfl (Ty.st SN.change))).kind ≤ (5 : Int)) = true then
                  inR IntKind.i64 ((List.getD l (Int.toNat (↑x.fst : Int)) (dfl (Ty.st SN.change))).kind - (1 : Int)) ∧
                    ((0 : Int) ≤ (List.getD l (Int.toNat (↑x.fst : Int)) (dfl (Ty.st SN.change))).kind - (1 : Int) ∧
                        (List.getD l (Int.toNat (↑x.fst : Int)) (dfl (Ty.st SN.change))).kind - (1 : Int) ≤
                            (List.getD l (Int.toNat (↑x.fst : Int)) (dfl (Ty.st SN.change))).kind ∧
                          (List.getD l (Int.toNat (↑x.fst : Int)) (dfl (Ty.st SN.change))).kind ≤
                            (↑(List.length [(43 : UInt8), (45 : UInt8), (33 : UInt8), (126 : UInt8), (60 : UInt8)]) :
                              Int)) ∧
                      List.length
                              (List.drop
                                (Int.toNat
                                  ((List.getD l (Int.toNat (↑x.fst : Int)) (dfl (Ty.st SN.change))).kind - (1 : Int)))
                                (List.take (Int.toNat (List.getD l (Int.toNat (↑x.fst : Int)) (dfl (Ty.st SN.change))).kind)
                                  [(43 : UInt8), (45 : UInt8), (33 : UInt8), (126 : UInt8), (60 : UInt8)])) +
                            List.length [(32 : UInt8)] ≤
                          (9223372036854775807 : Nat) ∧
                        List.length
                                (List.drop
                                    (Int.toNat
                                      ((List.getD l (Int.toNat (↑x.fst : Int)) (dfl (Ty.st SN.change))).kind - (1 : Int)))
                                    (List.take
                                      (Int.toNat (List.getD l (Int.toNat (↑x.fst : Int)) (dfl (Ty.st SN.change))).kind)
                                      [(43 : UInt8), (45 : UInt8), (33 : UInt8), (126 : UInt8), (60 : UInt8)]) ++
                                  [(32 : UInt8)]) +
                              List.length (List.getD l (Int.toNat (↑x.fst : Int)) (dfl (Ty.st SN.change))).name ≤
                            (9223372036854775807 : Nat) ∧
                          List.length
                                  (List.drop
                                        (Int.toNat
                                          ((List.getD l (Int.toNat (↑x.fst : Int)) (dfl (Ty.st SN.change))).kind -
                                            (1 : Int)))
                                        (List.take
                                          (Int.toNat (List.getD l (Int.toNat (↑x.fst : Int)) (dfl (Ty.st SN.change))).kind)
                                          [(43 : UInt8), (45 : UInt8), (33 : UInt8), (126 : UInt8), (60 : UInt8)]) ++
                                      [(32 : UInt8)] ++
                                    (List.getD l (Int.toNat (↑x.fst : Int)) (dfl (Ty.st SN.change))).name) +
                                List.length [(10 : UInt8)] ≤
                              (9223372036854775807 : Nat) ∧
                            List.length x.snd +
                                  List.length
                                    (List.drop
                                            (Int.toNat
                                              ((List.getD l (Int.toNat (↑x.fst : Int)) (dfl (Ty.st SN.change))).kind -
                                                (1 : Int)))
                                            (List.take
                                              (Int.toNat
                                                (List.getD l (Int.toNat (↑x.fst : Int)) (dfl (Ty.st SN.change))).kind)
                                              [(43 : UInt8), (45 : UInt8), (33 : UInt8), (126 : UInt8), (60 : UInt8)]) ++
                                          [(32 : UInt8)] ++
                                        (List.getD l (Int.toNat (↑x.fst : Int)) (dfl (Ty.st SN.change))).name ++
                                      [(10 : UInt8)]) ≤
                                (140737488355328 : Nat) ∧
                              inR IntKind.i64 ((↑x.fst : Int) + (1 : Int)) ∧
                                ∃ (y : Nat × Str),
                                  (y.fst ≤ List.length l ∧
                                      showGo (List.drop y.fst l) y.snd = showF l ∧
                                        List.length y.snd + showN (List.drop y.fst l) ≤ (1000000 : Nat)) ∧
                                    List.length l - y.fst < List.length l - x.fst ∧
                                      (↑x.fst : Int) + (1 : Int) = (↑y.fst : Int) ∧
                                        l = l ∧
                                          noOf UInt8 = noOf UInt8 ∧
                                            l = l ∧
                                              (↑(List.length l) : Int) = (↑(List.length l) : Int) ∧
                                                x.snd ++
                                                      (List.drop
                                                              (Int.toNat
                                                                ((List.getD l (Int.toNat (↑x.fst : Int))
                                                                      (dfl (Ty.st SN.change))).kind -
                                                                  (1 : Int)))
                                                              (List.take
                                                                (Int.toNat
                                                                  (List.getD l (Int.toNat (↑x.fst : Int))
                                                                      (dfl (Ty.st SN.change))).kind)
                                                                [(43 : UInt8), (45 : UInt8), (33 : UInt8), (126 : UInt8),
                                                                  (60 : UInt8)]) ++
                                                            [(32 : UInt8)] ++
                                                          (List.getD l (Int.toNat (↑x.fst : Int))
                                                              (dfl (Ty.st SN.change))).name ++
                                                        [(10 : UInt8)]) =
                                                    y.snd ∧
                                                  True
                else
                  List.length [(63 : UInt8)] + List.length [(32 : UInt8)] ≤ (9223372036854775807 : Nat) ∧
                    List.length ([(63 : UInt8)] ++ [(32 : UInt8)]) +
                          List.length (List.getD l (Int.toNat (↑x.fst : Int)) (dfl (Ty.st SN.change))).name ≤
                        (9223372036854775807 : Nat) ∧
                      List.length
                              ([(63 : UInt8)] ++ [(32 : UInt8)] ++
                                (List.getD l (Int.toNat (↑x.fst : Int)) (dfl (Ty.st SN.change))).name) +
                            List.length [(10 : UInt8)] ≤
                          (9223372036854775807 : Nat) ∧
                        List.length x.snd +
                              List.length
                                ([(63 : UInt8)] ++ [(32 : UInt8)] ++
                                    (List.getD l (Int.toNat (↑x.fst : Int)) (dfl (Ty.st SN.change))).name ++
                                  [(10 : UInt8)]) ≤
                            (140737488355328 : Nat) ∧
                          inR IntKind.i64 ((↑x.fst : Int) + (1 : Int)) ∧
                            ∃ (y : Nat × Str),
                              (y.fst ≤ List.length l ∧
                                  showGo (List.drop y.fst l) y.snd = showF l ∧
                                    List.length y.snd + showN (List.drop y.fst l) ≤ (1000000 : Nat)) ∧
                                List.length l - y.fst < List.length l - x.fst ∧
                                  (↑x.fst : Int) + (1 : Int) = (↑y.fst : Int) ∧
                                    l = l ∧
                                      noOf UInt8 = noOf UInt8 ∧
                                        l = l ∧
                                          (↑(List.length l) : Int) = (↑(List.length l) : Int) ∧
                                            x.snd ++
                                                  ([(63 : UInt8)] ++ [(32 : UInt8)] ++
                                                      (List.getD l (Int.toNat (↑x.fst : Int))
                                                          (dfl (Ty.st SN.change))).name ++
                                                    [(10 : UInt8)]) =
                                                y.snd ∧
                                              True
              else
                List.length [(63 : UInt8)] + List.length [(32 : UInt8)] ≤ (9223372036854775807 : Nat) ∧
                  List.length ([(63 : UInt8)] ++ [(32 : UInt8)]) +
                        List.length (List.getD l (Int.toNat (↑x.fst : Int)) (dfl (Ty.st SN.change))).name ≤
                      (9223372036854775807 : Nat) ∧
                    List.length
                            ([(63 : UInt8)] ++ [(32 : UInt8)] ++
                              (List.getD l (Int.toNat (↑x.fst : Int)) (dfl (Ty.st SN.change))).name) +
                          List.length [(10 : UInt8)] ≤
                        (9223372036854775807 : Nat) ∧
                      List.length x.snd +
                            List.length
                              ([(63 : UInt8)] ++ [(32 : UInt8)] ++
                                  (List.getD l (Int.toNat (↑x.fst : Int)) (dfl (Ty.st SN.change))).name ++
                                [(10 : UInt8)]) ≤
                          (140737488355328 : Nat) ∧
                        inR IntKind.i64 ((↑x.fst : Int) + (1 : Int)) ∧
                          ∃ (y : Nat × Str),
                            (y.fst ≤ List.length l ∧
                                showGo (List.drop y.fst l) y.snd = showF l ∧
                                  List.length y.snd + showN (List.drop y.fst l) ≤ (1000000 : Nat)) ∧
                              List.length l - y.fst < List.length l - x.fst ∧
                                (↑x.fst : Int) + (1 : Int) = (↑y.fst : Int) ∧
                                  l = l ∧
                                    noOf UInt8 = noOf UInt8 ∧
                                      l = l ∧
                                        (↑(List.length l) : Int) = (↑(List.length l) : Int) ∧
                                          x.snd ++
                                                ([(63 : UInt8)] ++ [(32 : UInt8)] ++
                                                    (List.getD l (Int.toNat (↑x.fst : Int)) (dfl (Ty.st SN.change))).name ++
                                                  [(10 : UInt8)]) =
                                              y.snd ∧
                                            True
          else List.length x.snd ≤ maxN ∧ True ∧ x.snd = showF l ∧ True := by
  have ln := hl.len
  simp only [Int.toNat_natCast, eq_self, true_and, and_true]
  refine ⟨⟨(0, []), ⟨Nat.zero_le _, rfl, by simpa using hb⟩, rfl, rfl⟩, ?_⟩
  rintro ⟨k, o⟩ ⟨h1, h2, h3⟩
  simp only at h1 h2 h3 ⊢
  refine ite_intro (fun h => ?_) (fun h => ?_)
  · replace h := of_decide_eq_true h
    have hk : k < l.length := by omega
    rw [drop_getD l k (dfl (.st .change)) hk] at h2 h3
    simp only [showGo, showN] at h2 h3
    have fin : ∀ t : Str, t = signF (l.getD k (dfl (.st .change))).kind → t.length = 1 → (t.length + [(32 : UInt8)].length ≤ 9223372036854775807 ∧ (t ++ [(32 : UInt8)]).length + (l.getD k (dfl (.st .change))).name.length ≤ 9223372036854775807 ∧ (t ++ [(32 : UInt8)] ++ (l.getD k (dfl (.st .change))).name).length + [(10 : UInt8)].length ≤ 9223372036854775807 ∧
        o.length + (t ++ [(32 : UInt8)] ++ (l.getD k (dfl (.st .change))).name ++ [(10 : UInt8)]).length ≤ 140737488355328 ∧ inR IntKind.i64 ((k : Int) + 1) ∧
        ∃ y : Nat × Str, (y.fst ≤ l.length ∧ showGo (l.drop y.fst) y.snd = showF l ∧ y.snd.length + showN (l.drop y.fst) ≤ 1000000) ∧ l.length - y.fst < l.length - k ∧ (k : Int) + 1 = (y.fst : Int) ∧ o ++ (t ++ [(32 : UInt8)] ++ (l.getD k (dfl (.st .change))).name ++ [(10 : UInt8)]) = y.snd) := by
      rintro t rfl ht
      have e1 : (signF (l.getD k (dfl (.st .change))).kind ++ [(32 : UInt8)] ++ (l.getD k (dfl (.st .change))).name ++ [(10 : UInt8)]).length = (l.getD k (dfl (.st .change))).name.length + 3 := by simp only [List.length_append, List.length_singleton, ht]; omega
      refine ⟨by simp only [List.length_singleton]; omega, by simp only [List.length_append, List.length_singleton]; omega, by simp only [List.length_append, List.length_singleton]; omega, by rw [e1]; omega, inR_len hk ln, (k + 1, _), ⟨by omega, h2, ?_⟩, by simp only; omega, rfl, rfl⟩
      simp only
      rw [List.length_append, e1]
      omega
    have hq : ∀ h : ¬ (1 ≤ (l.getD k (dfl (.st .change))).kind ∧ (l.getD k (dfl (.st .change))).kind ≤ 5), [(63 : UInt8)] = signF (l.getD k (dfl (.st .change))).kind := fun h => by unfold signF; rw [if_neg h]
    refine ⟨by omega, ite_intro (fun a1 => ?_) (fun a1 => ?_)⟩
    · replace a1 := of_decide_eq_true a1
      refine ite_intro (fun a2 => ?_) (fun a2 => ?_)
      · replace a2 := of_decide_eq_true a2
        have e2 : (signs.take (l.getD k (dfl (.st .change))).kind.toNat).drop ((l.getD k (dfl (.st .change))).kind - 1).toNat = signF (l.getD k (dfl (.st .change))).kind := by unfold signF; rw [if_pos ⟨a1, a2⟩]
        refine ⟨inR_i64 (by omega) (by omega), ⟨by omega, by omega, by simp only [List.length_cons, List.length_nil]; omega⟩, ?_⟩
        refine fin _ e2 ?_
        show ((signs.take (l.getD k (dfl (.st .change))).kind.toNat).drop ((l.getD k (dfl (.st .change))).kind - 1).toNat).length = 1
        have hsl : signs.length = 5 := rfl
        rw [List.length_drop, List.length_take, hsl]
        omega
      · exact fin _ (hq fun e => a2 (decide_eq_true e.2)) rfl
    · exact fin _ (hq fun e => a1 (decide_eq_true e.1)) rfl
  · replace h : ¬ ((k : Int) < (l.length : Int)) := fun e => h (decide_eq_true e)
    have e : k = l.length := by omega
    subst e
    rw [List.drop_length] at h2 h3
    simp only [showGo, showN] at h2 h3
    refine ⟨?_, h2⟩
    first | omega | (unfold maxN; omega)
end Go.AL.Seat
