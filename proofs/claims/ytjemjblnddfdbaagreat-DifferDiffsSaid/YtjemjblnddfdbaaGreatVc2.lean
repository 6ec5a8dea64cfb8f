/-
  What the functions' conditions say, proved. No condition.
-/
import Derived.Test.YtjemjblnddfdbaaGreatAlR
import Derived.Test.YtjemjblnddfdbaaGreatAlY
import Derived.Test.YtjemjblnddfdbaaGreatPi
import Derived.Test.YtjemjblnddfdbaaGreatPj
import Derived.Test.YtjemjblnddfdbaaGreatPl
set_option linter.unusedVariables false
set_option linter.unusedSimpArgs false
set_option linter.unnecessarySimpa false
set_option linter.deprecated false
open Go Go.AL Go.Pd
namespace Go.AL.Seat
set_option linter.unusedVariables false
set_option maxRecDepth 100000
theorem vc_awake   :
    List.length
            [{ kind := (3 : Int), name := [(102 : UInt8)],
                shape :=
                  { kind := (6 : Int), pkg := [], name := [], names := [[(97 : UInt8)]],
                    parts := [{ kind := (1 : Int), pkg := [], name := [], names := [], parts := [] : Shape }] : Shape } :
                AL.Item }] +
          List.length
            [{ kind := (3 : Int), name := [(102 : UInt8)],
                shape :=
                  { kind := (6 : Int), pkg := [], name := [], names := [[(97 : UInt8)], [(98 : UInt8)]],
                    parts :=
                      [{ kind := (1 : Int), pkg := [], name := [], names := [], parts := [] : Shape },
                        { kind := (1 : Int), pkg := [], name := [], names := [], parts := [] : Shape }] :
                    Shape } :
                AL.Item },
              { kind := (2 : Int), name := [(75 : UInt8)],
                shape := { kind := (0 : Int), pkg := [], name := [], names := [], parts := [] : Shape } : AL.Item }] ≤
        (1000000 : Nat) ∧
      List.length
              [{ kind := (3 : Int), name := [(102 : UInt8)],
                  shape :=
                    { kind := (6 : Int), pkg := [], name := [], names := [[(97 : UInt8)], [(98 : UInt8)]],
                      parts :=
                        [{ kind := (1 : Int), pkg := [], name := [], names := [], parts := [] : Shape },
                          { kind := (1 : Int), pkg := [], name := [], names := [], parts := [] : Shape }] :
                      Shape } :
                  AL.Item },
                { kind := (2 : Int), name := [(75 : UInt8)],
                  shape := { kind := (0 : Int), pkg := [], name := [], names := [], parts := [] : Shape } : AL.Item }] +
            List.length
              [{ kind := (3 : Int), name := [(102 : UInt8)],
                  shape :=
                    { kind := (6 : Int), pkg := [], name := [], names := [[(97 : UInt8)]],
                      parts := [{ kind := (1 : Int), pkg := [], name := [], names := [], parts := [] : Shape }] : Shape } :
                  AL.Item }] ≤
          (1000000 : Nat) ∧
        showN
              (diffF
                [{ kind := (3 : Int), name := [(102 : UInt8)],
                    shape :=
                      { kind := (6 : Int), pkg := [], name := [], names := [[(97 : UInt8)]],
                        parts := [{ kind := (1 : Int), pkg := [], name := [], names := [], parts := [] : Shape }] :
                        Shape } :
                    AL.Item }]
                [{ kind := (3 : Int), name := [(102 : UInt8)],
                    shape :=
                      { kind := (6 : Int), pkg := [], name := [], names := [[(97 : UInt8)], [(98 : UInt8)]],
                        parts :=
                          [{ kind := (1 : Int), pkg := [], name := [], names := [], parts := [] : Shape },
                            { kind := (1 : Int), pkg := [], name := [], names := [], parts := [] : Shape }] :
                        Shape } :
                    AL.Item },
                  { kind := (2 : Int), name := [(75 : UInt8)],
                    shape := { kind := (0 : Int), pkg := [], name := [], names := [], parts := [] : Shape } : AL.Item }]) ≤
            (1000000 : Nat) ∧
          if
              decide
                  (showF
                      (diffF
                        [{ kind := (3 : Int), name := [(102 : UInt8)],
                            shape :=
                              { kind := (6 : Int), pkg := [], name := [], names := [[(97 : UInt8)]],
                                parts := [{ kind := (1 : Int), pkg := [], name := [], names := [], parts := [] : Shape }] :
                                Shape } :
                            AL.Item }]
                        [{ kind := (3 : Int), name := [(102 : UInt8)],
                            shape :=
                              { kind := (6 : Int), pkg := [], name := [], names := [[(97 : UInt8)], [(98 : UInt8)]],
                                parts :=
                                  [{ kind := (1 : Int), pkg := [], name := [], names := [], parts := [] : Shape },
                                    { kind := (1 : Int), pkg := [], name := [], names := [], parts := [] : Shape }] :
                                Shape } :
                            AL.Item },
                          { kind := (2 : Int), name := [(75 : UInt8)],
                            shape := { kind := (0 : Int), pkg := [], name := [], names := [], parts := [] : Shape } :
                            AL.Item }]) =
                    [(43 : UInt8), (32 : UInt8), (75 : UInt8), (10 : UInt8), (60 : UInt8), (32 : UInt8), (102 : UInt8),
                      (10 : UInt8)]) =
                true then
            if
                decide
                    (classF
                        (diffF
                          [{ kind := (3 : Int), name := [(102 : UInt8)],
                              shape :=
                                { kind := (6 : Int), pkg := [], name := [], names := [[(97 : UInt8)]],
                                  parts :=
                                    [{ kind := (1 : Int), pkg := [], name := [], names := [], parts := [] : Shape }] :
                                  Shape } :
                              AL.Item }]
                          [{ kind := (3 : Int), name := [(102 : UInt8)],
                              shape :=
                                { kind := (6 : Int), pkg := [], name := [], names := [[(97 : UInt8)], [(98 : UInt8)]],
                                  parts :=
                                    [{ kind := (1 : Int), pkg := [], name := [], names := [], parts := [] : Shape },
                                      { kind := (1 : Int), pkg := [], name := [], names := [], parts := [] : Shape }] :
                                  Shape } :
                              AL.Item },
                            { kind := (2 : Int), name := [(75 : UInt8)],
                              shape := { kind := (0 : Int), pkg := [], name := [], names := [], parts := [] : Shape } :
                              AL.Item }]) =
                      (1 : Int)) =
                  true then
              showN
                    (diffF
                      [{ kind := (3 : Int), name := [(102 : UInt8)],
                          shape :=
                            { kind := (6 : Int), pkg := [], name := [], names := [[(97 : UInt8)], [(98 : UInt8)]],
                              parts :=
                                [{ kind := (1 : Int), pkg := [], name := [], names := [], parts := [] : Shape },
                                  { kind := (1 : Int), pkg := [], name := [], names := [], parts := [] : Shape }] :
                              Shape } :
                          AL.Item },
                        { kind := (2 : Int), name := [(75 : UInt8)],
                          shape := { kind := (0 : Int), pkg := [], name := [], names := [], parts := [] : Shape } : AL.Item }]
                      [{ kind := (3 : Int), name := [(102 : UInt8)],
                          shape :=
                            { kind := (6 : Int), pkg := [], name := [], names := [[(97 : UInt8)]],
                              parts := [{ kind := (1 : Int), pkg := [], name := [], names := [], parts := [] : Shape }] :
                              Shape } :
                          AL.Item }]) ≤
                  (1000000 : Nat) ∧
                if
                    decide
                        (showF
                            (diffF
                              [{ kind := (3 : Int), name := [(102 : UInt8)],
                                  shape :=
                                    { kind := (6 : Int), pkg := [], name := [], names := [[(97 : UInt8)], [(98 : UInt8)]],
                                      parts :=
                                        [{ kind := (1 : Int), pkg := [], name := [], names := [], parts := [] : Shape },
                                          { kind := (1 : Int), pkg := [], name := [], names := [], parts := [] : Shape }] :
                                      Shape } :
                                  AL.Item },
                                { kind := (2 : Int), name := [(75 : UInt8)],
                                  shape := { kind := (0 : Int), pkg := [], name := [], names := [], parts := [] : Shape } :
                                  AL.Item }]
                              [{ kind := (3 : Int), name := [(102 : UInt8)],
                                  shape :=
                                    { kind := (6 : Int), pkg := [], name := [], names := [[(97 : UInt8)]],
                                      parts :=
                                        [{ kind := (1 : Int), pkg := [], name := [], names := [], parts := [] : Shape }] :
                                      Shape } :
                                  AL.Item }]) =
                          [(45 : UInt8), (32 : UInt8), (75 : UInt8), (10 : UInt8), (126 : UInt8), (32 : UInt8),
                            (102 : UInt8), (10 : UInt8)]) =
                      true then
                  True ∧
                    decide
                          (classF
                              (diffF
                                [{ kind := (3 : Int), name := [(102 : UInt8)],
                                    shape :=
                                      { kind := (6 : Int), pkg := [], name := [], names := [[(97 : UInt8)], [(98 : UInt8)]],
                                        parts :=
                                          [{ kind := (1 : Int), pkg := [], name := [], names := [], parts := [] : Shape },
                                            { kind := (1 : Int), pkg := [], name := [], names := [], parts := [] :
                                              Shape }] :
                                        Shape } :
                                    AL.Item },
                                  { kind := (2 : Int), name := [(75 : UInt8)],
                                    shape :=
                                      { kind := (0 : Int), pkg := [], name := [], names := [], parts := [] : Shape } :
                                    AL.Item }]
                                [{ kind := (3 : Int), name := [(102 : UInt8)],
                                    shape :=
                                      { kind := (6 : Int), pkg := [], name := [], names := [[(97 : UInt8)]],
                                        parts :=
                                          [{ kind := (1 : Int), pkg := [], name := [], names := [], parts := [] : Shape }] :
                                        Shape } :
                                    AL.Item }]) =
                            (2 : Int)) =
                        true ∧
                      True
                else True ∧ false = true ∧ True
            else True ∧ false = true ∧ True
          else True ∧ false = true ∧ True := by
  have h1 := aw_there
  have h2 := aw_back
  unfold aw1 aw2 shI at h1 h2
  rw [h1, h2]
  refine ⟨by decide, by decide, by decide, ?_⟩
  rw [show showF [⟨1, [75]⟩, ⟨5, [102]⟩] = [43, 32, 75, 10, 60, 32, 102, 10] from by decide, show showF [⟨2, [75]⟩, ⟨4, [102]⟩] = [45, 32, 75, 10, 126, 32, 102, 10] from by decide,
    show classF [⟨1, [75]⟩, ⟨5, [102]⟩] = 1 from by decide, show classF [⟨2, [75]⟩, ⟨4, [102]⟩] = 2 from by decide]
  decide
theorem vc_Size (n : Nat) (s : Shape) (m : Int) (hs : Wf (.st .shape) s) (ho : sz s ≤ n + 1 ∧ 0 ≤ m ∧ m ≤ 1000000) :
    (∃ (x : Nat × Int),
        (x.fst ≤ List.length s.parts ∧
            (1 : Int) ≤ x.snd ∧ x.snd ≤ m + (1 : Int) ∧ sizeL (List.drop x.fst s.parts) x.snd m = sizeF s m) ∧
          (1 : Int) = x.snd ∧ (0 : Int) = (↑x.fst : Int) ∧ s = s ∧ m = m ∧ (0 : Int) = (0 : Int) ∧ s = s ∧ True) ∧
      ∀ (x : Nat × Int),
        x.fst ≤ List.length s.parts ∧
            (1 : Int) ≤ x.snd ∧ x.snd ≤ m + (1 : Int) ∧ sizeL (List.drop x.fst s.parts) x.snd m = sizeF s m →
          if decide ((↑x.fst : Int) < (↑(List.length s.parts) : Int)) = true then
            if decide (x.snd ≤ m) = true then
              ((0 : Int) ≤ (↑x.fst : Int) ∧ (↑x.fst : Int) < (↑(List.length s.parts) : Int)) ∧
                inR IntKind.i64 (m - x.snd) ∧
                  (sz (List.getD s.parts (Int.toNat (↑x.fst : Int)) (dfl (Ty.st SN.shape))) ≤ n ∧
                      (0 : Int) ≤ m - x.snd ∧ m - x.snd ≤ (1000000 : Int)) ∧
                    inR IntKind.i64
                        (x.snd + sizeF (List.getD s.parts (Int.toNat (↑x.fst : Int)) (dfl (Ty.st SN.shape))) (m - x.snd)) ∧
                      inR IntKind.i64 ((↑x.fst : Int) + (1 : Int)) ∧
                        ∃ (y : Nat × Int),
                          (y.fst ≤ List.length s.parts ∧
                              (1 : Int) ≤ y.snd ∧
                                y.snd ≤ m + (1 : Int) ∧ sizeL (List.drop y.fst s.parts) y.snd m = sizeF s m) ∧
                            List.length s.parts - y.fst < List.length s.parts - x.fst ∧
                              x.snd +
                                    sizeF (List.getD s.parts (Int.toNat (↑x.fst : Int)) (dfl (Ty.st SN.shape)))
                                      (m - x.snd) =
                                  y.snd ∧
                                (↑x.fst : Int) + (1 : Int) = (↑y.fst : Int) ∧
                                  s = s ∧ m = m ∧ (0 : Int) = (0 : Int) ∧ s = s ∧ True
            else True ∧ x.snd = sizeF s m ∧ True
          else True ∧ x.snd = sizeF s m ∧ True := by
  have ln := hs.parts.len
  have hz := sz_eq s
  obtain ⟨ho1, ho2, ho3⟩ := ho
  have h0 : sizeL s.parts 1 m = sizeF s m := by cases s; rfl
  simp only [Int.toNat_natCast, eq_self, true_and, and_true]
  refine ⟨⟨(0, 1), ⟨Nat.zero_le _, by omega, by omega, h0⟩, rfl, rfl⟩, ?_⟩
  rintro ⟨k, c⟩ ⟨h1, h2, h3, h4⟩
  simp only at h1 h2 h3 h4 ⊢
  refine ite_intro (fun hk => ?_) (fun hk => ?_)
  · replace hk := of_decide_eq_true hk
    have hk : k < s.parts.length := by omega
    have hm := sz_mem (getD_mem s.parts k (dfl (.st .shape)) hk)
    rw [drop_getD s.parts k (dfl (.st .shape)) hk] at h4
    simp only [sizeL] at h4
    refine ite_intro (fun hc => ?_) (fun hc => ?_)
    · replace hc := of_decide_eq_true hc
      rw [if_pos hc] at h4
      have hb := sizeF_bd (s.parts.getD k (dfl (.st .shape))) (m - c) (by omega)
      exact ⟨by omega, inR_i64 (by omega) (by omega), by omega, inR_i64 (by omega) (by omega), inR_len hk ln, (k + 1, _), ⟨by omega, by simp only; omega, by simp only; omega, h4⟩, by simp only; omega, rfl, rfl⟩
    · rw [if_neg (fun e => hc (decide_eq_true e))] at h4
      exact h4
  · replace hk : ¬ ((k : Int) < (s.parts.length : Int)) := fun e => hk (decide_eq_true e)
    have e : k = s.parts.length := by omega
    subst e
    rw [List.drop_length] at h4
    exact h4
theorem vc_small17 (l : List AL.Item) (N : Nat) (hl : Wf (.lst (.st .item)) l) (hN : ∀ x ∈ l, sz x.shape ≤ N) :
    (∃ (x : Nat × Int),
        (x.fst ≤ List.length l ∧ (0 : Int) ≤ x.snd ∧ x.snd ≤ (6000 : Int) ∧ smallGo (List.drop x.fst l) x.snd = smallF l) ∧
          (0 : Int) = x.snd ∧ (0 : Int) = (↑x.fst : Int) ∧ l = l ∧ True) ∧
      ∀ (x : Nat × Int),
        x.fst ≤ List.length l ∧ (0 : Int) ≤ x.snd ∧ x.snd ≤ (6000 : Int) ∧ smallGo (List.drop x.fst l) x.snd = smallF l →
          if decide ((↑x.fst : Int) < (↑(List.length l) : Int)) = true then
            ((0 : Int) ≤ (↑x.fst : Int) ∧ (↑x.fst : Int) < (↑(List.length l) : Int)) ∧
              (sz (List.getD l (Int.toNat (↑x.fst : Int)) (dfl (Ty.st SN.item))).shape ≤ N ∧
                  (0 : Int) ≤ (800 : Int) ∧ (800 : Int) ≤ (1000000 : Int)) ∧
                inR IntKind.i64
                    ((20 : Int) + sizeF (List.getD l (Int.toNat (↑x.fst : Int)) (dfl (Ty.st SN.item))).shape (800 : Int)) ∧
                  inR IntKind.i64
                      (x.snd +
                        ((20 : Int) +
                          sizeF (List.getD l (Int.toNat (↑x.fst : Int)) (dfl (Ty.st SN.item))).shape (800 : Int))) ∧
                    if
                        decide
                            ((6000 : Int) <
                              x.snd +
                                ((20 : Int) +
                                  sizeF (List.getD l (Int.toNat (↑x.fst : Int)) (dfl (Ty.st SN.item))).shape (800 : Int))) =
                          true then
                      True ∧ false = smallF l ∧ True
                    else
                      inR IntKind.i64 ((↑x.fst : Int) + (1 : Int)) ∧
                        ∃ (y : Nat × Int),
                          (y.fst ≤ List.length l ∧
                              (0 : Int) ≤ y.snd ∧ y.snd ≤ (6000 : Int) ∧ smallGo (List.drop y.fst l) y.snd = smallF l) ∧
                            List.length l - y.fst < List.length l - x.fst ∧
                              x.snd +
                                    ((20 : Int) +
                                      sizeF (List.getD l (Int.toNat (↑x.fst : Int)) (dfl (Ty.st SN.item))).shape
                                        (800 : Int)) =
                                  y.snd ∧
                                (↑x.fst : Int) + (1 : Int) = (↑y.fst : Int) ∧ l = l ∧ True
          else True ∧ true = smallF l ∧ True := by
  have ln := hl.len
  simp only [Int.toNat_natCast, eq_self, true_and, and_true]
  refine ⟨⟨(0, 0), ⟨Nat.zero_le _, by omega, by omega, rfl⟩, rfl, rfl⟩, ?_⟩
  rintro ⟨k, c⟩ ⟨h1, h2, h3, h4⟩
  simp only at h1 h2 h3 h4 ⊢
  refine ite_intro (fun hk => ?_) (fun hk => ?_)
  · replace hk := of_decide_eq_true hk
    have hk : k < l.length := by omega
    have hm := hN _ (getD_mem l k (dfl (.st .item)) hk)
    rw [drop_getD l k (dfl (.st .item)) hk] at h4
    simp only [smallGo] at h4
    have hb := sizeF_bd (l.getD k (dfl (.st .item))).shape 800 (by omega)
    refine ⟨by omega, ⟨hm, by omega, by omega⟩, inR_i64 (by omega) (by omega), inR_i64 (by omega) (by omega), ite_intro (fun hc => ?_) (fun hc => ?_)⟩
    · replace hc := of_decide_eq_true hc
      rw [if_pos hc] at h4
      exact h4
    · replace hc : ¬ (6000 : Int) < c + (20 + sizeF (l.getD k (dfl (.st .item))).shape 800) := fun e => hc (decide_eq_true e)
      rw [if_neg hc] at h4
      exact ⟨inR_len hk ln, (k + 1, _), ⟨by omega, by simp only; omega, by simp only; omega, h4⟩, by simp only; omega, rfl, rfl⟩
  · replace hk : ¬ ((k : Int) < (l.length : Int)) := fun e => hk (decide_eq_true e)
    have e : k = l.length := by omega
    subst e
    rw [List.drop_length] at h4
    exact h4
theorem vc_rsmall (c : Int)  :
    if decide ((97 : Int) ≤ c) = true then True ∧ decide (c ≤ (122 : Int)) = smallI c ∧ True
    else True ∧ false = smallI c ∧ True := by
  simp only [true_and, and_true]
  unfold smallI
  by_cases h : (97 : Int) ≤ c
  · rw [if_pos (decide_eq_true h)]; simp [h]
  · rw [if_neg (by simpa using h)]; simp [h]
theorem vc_rgreat (c : Int)  :
    if decide ((65 : Int) ≤ c) = true then True ∧ decide (c ≤ (90 : Int)) = greatI c ∧ True
    else True ∧ false = greatI c ∧ True := by
  simp only [true_and, and_true]
  unfold greatI
  by_cases h : (65 : Int) ≤ c
  · rw [if_pos (decide_eq_true h)]; simp [h]
  · rw [if_neg (by simpa using h)]; simp [h]
theorem vc_rdigit (c : Int)  :
    if decide ((48 : Int) ≤ c) = true then True ∧ decide (c ≤ (57 : Int)) = digitI c ∧ True
    else True ∧ false = digitI c ∧ True := by
  simp only [true_and, and_true]
  unfold digitI
  by_cases h : (48 : Int) ≤ c
  · rw [if_pos (decide_eq_true h)]; simp [h]
  · rw [if_neg (by simpa using h)]; simp [h]
theorem vc_rrest (s : Str) (hs : Wf .str s) :
    (∃ (x : Nat),
        (x ≤ List.length s ∧ restN s = x + restN (List.drop x s)) ∧
          (0 : Int) = (↑x : Int) ∧ s = s ∧ (0 : Int) = (0 : Int) ∧ True) ∧
      ∀ (x : Nat),
        x ≤ List.length s ∧ restN s = x + restN (List.drop x s) →
          if decide ((↑x : Int) < (↑(List.length s) : Int)) = true then
            ((0 : Int) ≤ (↑x : Int) ∧ (↑x : Int) < (↑(List.length s) : Int)) ∧
              if smallI (↑(UInt8.toNat (List.getD s (Int.toNat (↑x : Int)) (0 : UInt8))) : Int) = true then
                inR IntKind.i64 ((↑x : Int) + (1 : Int)) ∧
                  ∃ (y : Nat),
                    (y ≤ List.length s ∧ restN s = y + restN (List.drop y s)) ∧
                      List.length s - y < List.length s - x ∧
                        (↑x : Int) + (1 : Int) = (↑y : Int) ∧ s = s ∧ (0 : Int) = (0 : Int) ∧ True
              else
                ((0 : Int) ≤ (↑x : Int) ∧ (↑x : Int) < (↑(List.length s) : Int)) ∧
                  if greatI (↑(UInt8.toNat (List.getD s (Int.toNat (↑x : Int)) (0 : UInt8))) : Int) = true then
                    inR IntKind.i64 ((↑x : Int) + (1 : Int)) ∧
                      ∃ (y : Nat),
                        (y ≤ List.length s ∧ restN s = y + restN (List.drop y s)) ∧
                          List.length s - y < List.length s - x ∧
                            (↑x : Int) + (1 : Int) = (↑y : Int) ∧ s = s ∧ (0 : Int) = (0 : Int) ∧ True
                  else
                    ((0 : Int) ≤ (↑x : Int) ∧ (↑x : Int) < (↑(List.length s) : Int)) ∧
                      if digitI (↑(UInt8.toNat (List.getD s (Int.toNat (↑x : Int)) (0 : UInt8))) : Int) = true then
                        inR IntKind.i64 ((↑x : Int) + (1 : Int)) ∧
                          ∃ (y : Nat),
                            (y ≤ List.length s ∧ restN s = y + restN (List.drop y s)) ∧
                              List.length s - y < List.length s - x ∧
                                (↑x : Int) + (1 : Int) = (↑y : Int) ∧ s = s ∧ (0 : Int) = (0 : Int) ∧ True
                      else
                        ((0 : Int) ≤ (↑x : Int) ∧ (↑x : Int) < (↑(List.length s) : Int)) ∧
                          if
                              decide
                                  ((↑(UInt8.toNat (List.getD s (Int.toNat (↑x : Int)) (0 : UInt8))) : Int) = (95 : Int)) =
                                true then
                            inR IntKind.i64 ((↑x : Int) + (1 : Int)) ∧
                              ∃ (y : Nat),
                                (y ≤ List.length s ∧ restN s = y + restN (List.drop y s)) ∧
                                  List.length s - y < List.length s - x ∧
                                    (↑x : Int) + (1 : Int) = (↑y : Int) ∧ s = s ∧ (0 : Int) = (0 : Int) ∧ True
                          else True ∧ (↑x : Int) = (↑(restN s) : Int) ∧ True
          else True ∧ (↑x : Int) = (↑(restN s) : Int) ∧ True := by
  have ln := hs.str
  have eb : ∀ b : UInt8, (b.toNat : Int) = bI b := fun _ => rfl
  simp only [Int.toNat_natCast, eq_self, true_and, and_true, eb]
  refine ⟨⟨0, ⟨Nat.zero_le _, by simp⟩, rfl⟩, ?_⟩
  rintro k ⟨h1, h2⟩
  refine ite_intro (fun h => ?_) (fun h => ?_)
  · replace h := of_decide_eq_true h
    have hk : k < s.length := by omega
    rw [drop_getD s k 0 hk] at h2
    simp only [restN] at h2
    have fin : restI (bI (s.getD k 0)) = true → (inR IntKind.i64 ((k : Int) + 1) ∧ ∃ y : Nat, (y ≤ s.length ∧ restN s = y + restN (s.drop y)) ∧ s.length - y < s.length - k ∧ (k : Int) + 1 = (y : Int)) := by
      intro e
      rw [if_pos e] at h2
      exact ⟨inR_len hk ln, k + 1, ⟨by omega, by omega⟩, by omega, by omega⟩
    have hr : restI (bI (s.getD k 0)) = (smallI (bI (s.getD k 0)) || greatI (bI (s.getD k 0)) || digitI (bI (s.getD k 0)) || decide (bI (s.getD k 0) = 95)) := rfl
    refine ⟨by omega, ite_intro (fun a => fin (by rw [hr, a]; simp)) (fun a => ⟨by omega, ite_intro (fun b => fin (by rw [hr, b]; simp)) (fun b => ⟨by omega, ite_intro (fun c => fin (by rw [hr, c]; simp)) (fun c => ⟨by omega, ite_intro (fun d => fin (by rw [hr, d]; simp)) (fun d => ?_)⟩)⟩)⟩)⟩
    rw [if_neg ?_] at h2
    · omega
    · rw [hr]; simp only [Bool.not_eq_true] at a b c d; rw [a, b, c, d]; simp
  · replace h : ¬ ((k : Int) < (s.length : Int)) := fun e => h (decide_eq_true e)
    have e : k = s.length := by omega
    subst e
    rw [List.drop_length] at h2
    simp only [restN] at h2
    omega
theorem vc_among (s : Str) (l : List Str) (hl : Wf (.lst .str) l) :
    (∃ (x : Nat),
        (x ≤ List.length l ∧ decide (s ∈ l) = decide (s ∈ List.drop x l)) ∧ (0 : Int) = (↑x : Int) ∧ s = s ∧ l = l ∧ True) ∧
      ∀ (x : Nat),
        x ≤ List.length l ∧ decide (s ∈ l) = decide (s ∈ List.drop x l) →
          if decide ((↑x : Int) < (↑(List.length l) : Int)) = true then
            ((0 : Int) ≤ (↑x : Int) ∧ (↑x : Int) < (↑(List.length l) : Int)) ∧
              if decide (s = List.getD l (Int.toNat (↑x : Int)) (dfl Ty.str)) = true then
                True ∧ true = decide (s ∈ l) ∧ True
              else
                inR IntKind.i64 ((↑x : Int) + (1 : Int)) ∧
                  ∃ (y : Nat),
                    (y ≤ List.length l ∧ decide (s ∈ l) = decide (s ∈ List.drop y l)) ∧
                      List.length l - y < List.length l - x ∧ (↑x : Int) + (1 : Int) = (↑y : Int) ∧ s = s ∧ l = l ∧ True
          else True ∧ false = decide (s ∈ l) ∧ True := by
  have ln := hl.len
  simp only [Int.toNat_natCast, eq_self, true_and, and_true]
  refine ⟨⟨0, ⟨Nat.zero_le _, by simp⟩, rfl⟩, ?_⟩
  rintro k ⟨h1, h2⟩
  refine ite_intro (fun h => ?_) (fun h => ?_)
  · replace h := of_decide_eq_true h
    have hk : k < l.length := by omega
    rw [drop_getD l k (dfl .str) hk] at h2
    refine ⟨by omega, ite_intro (fun a => ?_) (fun a => ?_)⟩
    · rw [h2, of_decide_eq_true a]; simp
    · refine ⟨inR_len hk ln, k + 1, ⟨by omega, ?_⟩, by omega, by omega⟩
      rw [h2, decide_eq_decide, List.mem_cons]
      constructor
      · rintro (h | h)
        · exact absurd (decide_eq_true h) a
        · exact h
      · exact Or.inr
  · replace h : ¬ ((k : Int) < (l.length : Int)) := fun e => h (decide_eq_true e)
    have e : k = l.length := by omega
    subst e
    rw [h2, List.drop_length]; simp
theorem vc_rWord (s : Str)  :
    True ∧
      decide
            (s ∈
              [[(109 : UInt8), (111 : UInt8), (100 : UInt8), (117 : UInt8), (108 : UInt8), (101 : UInt8)],
                [(105 : UInt8), (109 : UInt8), (112 : UInt8), (111 : UInt8), (114 : UInt8), (116 : UInt8)],
                [(112 : UInt8), (105 : UInt8), (110 : UInt8)],
                [(114 : UInt8), (97 : UInt8), (110 : UInt8), (103 : UInt8), (101 : UInt8)],
                [(116 : UInt8), (121 : UInt8), (112 : UInt8), (101 : UInt8)],
                [(111 : UInt8), (112 : UInt8), (97 : UInt8), (113 : UInt8), (117 : UInt8), (101 : UInt8)],
                [(108 : UInt8), (101 : UInt8), (116 : UInt8)], [(105 : UInt8), (110 : UInt8)],
                [(101 : UInt8), (120 : UInt8), (112 : UInt8), (111 : UInt8), (114 : UInt8), (116 : UInt8)],
                [(102 : UInt8), (117 : UInt8), (110 : UInt8)], [(105 : UInt8), (102 : UInt8)],
                [(116 : UInt8), (104 : UInt8), (101 : UInt8), (110 : UInt8)],
                [(101 : UInt8), (108 : UInt8), (115 : UInt8), (101 : UInt8)],
                [(99 : UInt8), (97 : UInt8), (115 : UInt8), (101 : UInt8)], [(111 : UInt8), (102 : UInt8)],
                [(97 : UInt8), (115 : UInt8)], [(110 : UInt8), (101 : UInt8), (119 : UInt8)],
                [(114 : UInt8), (97 : UInt8), (119 : UInt8)], [(116 : UInt8), (114 : UInt8), (117 : UInt8), (101 : UInt8)],
                [(102 : UInt8), (97 : UInt8), (108 : UInt8), (115 : UInt8), (101 : UInt8)]]) =
          wordF s ∧
        True := by
  exact ⟨trivial, rfl, trivial⟩
theorem vc_rName (s : Str)  :
    if (!decide (s = [])) = true then
      if decide ((↑(List.length s) : Int) ≤ (24 : Int)) = true then
        ((0 : Int) ≤ (0 : Int) ∧ (0 : Int) < (↑(List.length s) : Int)) ∧
          if smallI (↑(UInt8.toNat (List.getD s (Int.toNat (0 : Int)) (0 : UInt8))) : Int) = true then
            if decide ((↑(restN s) : Int) = (↑(List.length s) : Int)) = true then True ∧ (!wordF s) = nameF s ∧ True
            else True ∧ false = nameF s ∧ True
          else True ∧ false = nameF s ∧ True
      else True ∧ false = nameF s ∧ True
    else True ∧ false = nameF s ∧ True := by
  have eb : ∀ b : UInt8, (b.toNat : Int) = bI b := fun _ => rfl
  simp only [Int.toNat_natCast, Int.toNat_zero, eq_self, true_and, and_true, eb]
  have hF : nameF s = (!decide (s = []) && decide (s.length ≤ 24) && smallI (bI (s.getD 0 0)) && decide (restN s = s.length) && !wordF s) := by unfold nameF; rw [namedF_rest]
  refine ite_intro (fun a => ?_) (fun a => ?_)
  · have a' : decide (s = []) = false := by simpa using a
    have hpos : 0 < s.length := List.length_pos_iff.2 (of_decide_eq_false a')
    refine ite_intro (fun b => ?_) (fun b => ?_)
    · have b' : s.length ≤ 24 := by have := of_decide_eq_true b; omega
      refine ⟨by omega, ite_intro (fun c => ?_) (fun c => ?_)⟩
      · refine ite_intro (fun d => ?_) (fun d => ?_)
        · have d' : restN s = s.length := by have := of_decide_eq_true d; omega
          rw [hF, a', c, d']; simp [b']
        · have d' : ¬ restN s = s.length := fun e => d (decide_eq_true (by omega))
          rw [hF]; simp [d']
      · simp only [Bool.not_eq_true] at c
        rw [hF, c]; simp
    · have b' : ¬ s.length ≤ 24 := fun e => b (decide_eq_true (by omega))
      rw [hF]; simp [b']
  · have a' : decide (s = []) = true := by simpa using a
    rw [hF, a']; simp
theorem vc_rUpper (s : Str)  :
    if (!decide (s = [])) = true then
      if decide ((↑(List.length s) : Int) ≤ (24 : Int)) = true then
        ((0 : Int) ≤ (0 : Int) ∧ (0 : Int) < (↑(List.length s) : Int)) ∧
          if greatI (↑(UInt8.toNat (List.getD s (Int.toNat (0 : Int)) (0 : UInt8))) : Int) = true then
            True ∧ decide ((↑(restN s) : Int) = (↑(List.length s) : Int)) = upperF s ∧ True
          else True ∧ false = upperF s ∧ True
      else True ∧ false = upperF s ∧ True
    else True ∧ false = upperF s ∧ True := by
  have eb : ∀ b : UInt8, (b.toNat : Int) = bI b := fun _ => rfl
  simp only [Int.toNat_natCast, Int.toNat_zero, eq_self, true_and, and_true, eb]
  have hF : upperF s = (!decide (s = []) && decide (s.length ≤ 24) && greatI (bI (s.getD 0 0)) && decide (restN s = s.length)) := by unfold upperF; rw [namedF_rest]
  refine ite_intro (fun a => ?_) (fun a => ?_)
  · have a' : decide (s = []) = false := by simpa using a
    have hpos : 0 < s.length := List.length_pos_iff.2 (of_decide_eq_false a')
    refine ite_intro (fun b => ?_) (fun b => ?_)
    · have b' : s.length ≤ 24 := by have := of_decide_eq_true b; omega
      refine ⟨by omega, ite_intro (fun c => ?_) (fun c => ?_)⟩
      · rw [hF, a', c]
        simp [b', Int.ofNat_inj]
      · simp only [Bool.not_eq_true] at c
        rw [hF, c]; simp
    · have b' : ¬ s.length ≤ 24 := fun e => b (decide_eq_true (by omega))
      rw [hF]; simp [b']
  · have a' : decide (s = []) = true := by simpa using a
    rw [hF, a']; simp
theorem vc_rnames (ns : List Str) (n : Int) (hl : Wf (.lst .str) ns) :
    (∃ (x : Nat),
        (x ≤ List.length ns ∧ List.all (List.take x ns) nameF = true ∧ List.Nodup (List.take x ns)) ∧
          (0 : Int) = (↑x : Int) ∧ ns = ns ∧ n = n ∧ True) ∧
      ∀ (x : Nat),
        x ≤ List.length ns ∧ List.all (List.take x ns) nameF = true ∧ List.Nodup (List.take x ns) →
          if decide ((↑x : Int) < (↑(List.length ns) : Int)) = true then
            ((0 : Int) ≤ (↑x : Int) ∧ (↑x : Int) < (↑(List.length ns) : Int)) ∧
              if (!nameF (List.getD ns (Int.toNat (↑x : Int)) (dfl Ty.str))) = true then True ∧ false = namesOK ns n ∧ True
              else
                (∃ (x_1 : Nat),
                    ((↑x_1 : Int) ≤ (↑x : Int) ∧ ¬List.getD ns (Int.toNat (↑x : Int)) (dfl Ty.str) ∈ List.take x_1 ns) ∧
                      (0 : Int) = (↑x_1 : Int) ∧
                        (↑x : Int) = (↑x : Int) ∧ ns = ns ∧ n = n ∧ true = true ∧ false = false ∧ True) ∧
                  ∀ (x_1 : Nat),
                    (↑x_1 : Int) ≤ (↑x : Int) ∧ ¬List.getD ns (Int.toNat (↑x : Int)) (dfl Ty.str) ∈ List.take x_1 ns →
                      if decide ((↑x_1 : Int) < (↑x : Int)) = true then
                        ((0 : Int) ≤ (↑x_1 : Int) ∧ (↑x_1 : Int) < (↑(List.length ns) : Int)) ∧
                          ((0 : Int) ≤ (↑x : Int) ∧ (↑x : Int) < (↑(List.length ns) : Int)) ∧
                            if
                                decide
                                    (List.getD ns (Int.toNat (↑x_1 : Int)) (dfl Ty.str) =
                                      List.getD ns (Int.toNat (↑x : Int)) (dfl Ty.str)) =
                                  true then
                              True ∧ false = namesOK ns n ∧ True
                            else
                              inR IntKind.i64 ((↑x_1 : Int) + (1 : Int)) ∧
                                ∃ (y : Nat),
                                  ((↑y : Int) ≤ (↑x : Int) ∧
                                      ¬List.getD ns (Int.toNat (↑x : Int)) (dfl Ty.str) ∈ List.take y ns) ∧
                                    Int.toNat (↑x : Int) - y < Int.toNat (↑x : Int) - x_1 ∧
                                      (↑x_1 : Int) + (1 : Int) = (↑y : Int) ∧
                                        (↑x : Int) = (↑x : Int) ∧ ns = ns ∧ n = n ∧ true = true ∧ false = false ∧ True
                      else
                        inR IntKind.i64 ((↑x : Int) + (1 : Int)) ∧
                          ∃ (y : Nat),
                            (y ≤ List.length ns ∧ List.all (List.take y ns) nameF = true ∧ List.Nodup (List.take y ns)) ∧
                              List.length ns - y < List.length ns - x ∧
                                (↑x : Int) + (1 : Int) = (↑y : Int) ∧ ns = ns ∧ n = n ∧ True
          else True ∧ decide ((↑(List.length ns) : Int) = n) = namesOK ns n ∧ True := by
  have ln := hl.len
  simp only [Int.toNat_natCast, eq_self, true_and, and_true]
  refine ⟨⟨0, ⟨Nat.zero_le _, by simp, by simp⟩, rfl⟩, ?_⟩
  rintro k ⟨h1, h2, h3⟩
  refine ite_intro (fun h => ?_) (fun h => ?_)
  · replace h := of_decide_eq_true h
    have hk : k < ns.length := by omega
    have hmem := getD_mem ns k (dfl .str) hk
    have ht := take_getD ns k (dfl .str) hk
    refine ⟨by omega, ite_intro (fun a => ?_) (fun a => ?_)⟩
    · have a' : ns.all nameF = false := by
        rw [Bool.eq_false_iff]
        intro e
        have := List.all_eq_true.1 e _ hmem
        rw [this] at a
        simp at a
      unfold namesOK
      rw [a']
      simp
    · have a' : nameF (ns.getD k (dfl .str)) = true := by simpa using a
      refine ⟨⟨0, ⟨by omega, by simp⟩, rfl⟩, ?_⟩
      rintro j ⟨j1, j2⟩
      refine ite_intro (fun b => ?_) (fun b => ?_)
      · replace b := of_decide_eq_true b
        have hj : j < k := by omega
        have hjn : j < ns.length := by omega
        have htj := take_getD ns j (dfl .str) hjn
        refine ⟨by omega, by omega, ite_intro (fun c => ?_) (fun c => ?_)⟩
        · replace c := of_decide_eq_true c
          have hnd : ¬ ns.Nodup := by
            intro hn
            rw [List.nodup_iff_pairwise_ne] at hn
            have := List.pairwise_iff_getElem.1 hn j k hjn hk hj
            rw [List.getD_eq_getElem?_getD, List.getD_eq_getElem?_getD, List.getElem?_eq_getElem hjn, List.getElem?_eq_getElem hk] at c
            exact this c
          unfold namesOK
          simp [hnd]
        · refine ⟨inR_len hjn ln, j + 1, ⟨by omega, ?_⟩, by omega, by omega⟩
          rw [htj, List.mem_append, List.mem_singleton, not_or]
          exact ⟨j2, fun e => c (decide_eq_true e.symm)⟩
      · have hj : j = k := by
          have : ¬ ((j : Int) < (k : Int)) := fun e => b (decide_eq_true e)
          omega
        subst hj
        refine ⟨inR_len hk ln, j + 1, ⟨by omega, ?_, ?_⟩, by omega, by omega⟩
        · rw [ht, List.all_append, h2]; simpa using a'
        · rw [ht, List.nodup_append]
          refine ⟨h3, by simp, fun x hx y hy => ?_⟩
          rw [List.mem_singleton] at hy
          subst hy
          intro e
          subst e
          exact j2 hx
  · replace h : ¬ ((k : Int) < (ns.length : Int)) := fun e => h (decide_eq_true e)
    have e : k = ns.length := by omega
    subst e
    rw [List.take_length] at h2 h3
    unfold namesOK
    rw [h2]
    simp [h3]
theorem vc_rfits (s : Shape) (hs : Wf (.st .shape) s) :
    if decide (s.kind = (9 : Int)) = true then
      if decide (s.name = [(73 : UInt8), (110 : UInt8), (116 : UInt8)]) = true then
        if nameF s.pkg = true then
          if upperF s.name = true then
            if decide ((↑(List.length s.names) : Int) = (0 : Int)) = true then
              True ∧ decide ((↑(List.length s.parts) : Int) = (0 : Int)) = fitsF s ∧ True
            else True ∧ false = fitsF s ∧ True
          else True ∧ false = fitsF s ∧ True
        else
          if decide (s.pkg = []) = true then
            if decide (s.kind = (9 : Int)) = true then
              if upperF s.name = true then True ∧ false = fitsF s ∧ True else True ∧ false = fitsF s ∧ True
            else if upperF s.name = true then True ∧ false = fitsF s ∧ True else True ∧ false = fitsF s ∧ True
          else if upperF s.name = true then True ∧ false = fitsF s ∧ True else True ∧ false = fitsF s ∧ True
      else
        if decide (s.name = [(66 : UInt8), (111 : UInt8), (111 : UInt8), (108 : UInt8)]) = true then
          if nameF s.pkg = true then
            if upperF s.name = true then
              if decide ((↑(List.length s.names) : Int) = (0 : Int)) = true then
                True ∧ decide ((↑(List.length s.parts) : Int) = (0 : Int)) = fitsF s ∧ True
              else True ∧ false = fitsF s ∧ True
            else True ∧ false = fitsF s ∧ True
          else
            if decide (s.pkg = []) = true then
              if decide (s.kind = (9 : Int)) = true then
                if upperF s.name = true then True ∧ false = fitsF s ∧ True else True ∧ false = fitsF s ∧ True
              else if upperF s.name = true then True ∧ false = fitsF s ∧ True else True ∧ false = fitsF s ∧ True
            else if upperF s.name = true then True ∧ false = fitsF s ∧ True else True ∧ false = fitsF s ∧ True
        else
          if decide (s.name = [(84 : UInt8), (101 : UInt8), (120 : UInt8), (116 : UInt8)]) = true then
            if nameF s.pkg = true then
              if upperF s.name = true then
                if decide ((↑(List.length s.names) : Int) = (0 : Int)) = true then
                  True ∧ decide ((↑(List.length s.parts) : Int) = (0 : Int)) = fitsF s ∧ True
                else True ∧ false = fitsF s ∧ True
              else True ∧ false = fitsF s ∧ True
            else
              if decide (s.pkg = []) = true then
                if decide (s.kind = (9 : Int)) = true then
                  if upperF s.name = true then True ∧ false = fitsF s ∧ True else True ∧ false = fitsF s ∧ True
                else if upperF s.name = true then True ∧ false = fitsF s ∧ True else True ∧ false = fitsF s ∧ True
              else if upperF s.name = true then True ∧ false = fitsF s ∧ True else True ∧ false = fitsF s ∧ True
          else
            if nameF s.pkg = true then
              if upperF s.name = true then
                if decide ((↑(List.length s.names) : Int) = (0 : Int)) = true then
                  True ∧ decide ((↑(List.length s.parts) : Int) = (0 : Int)) = fitsF s ∧ True
                else True ∧ false = fitsF s ∧ True
              else True ∧ false = fitsF s ∧ True
            else
              if decide (s.pkg = []) = true then
                if decide (s.kind = (9 : Int)) = true then
                  if upperF s.name = true then
                    if (!decide (s.name = [(65 : UInt8), (110 : UInt8), (121 : UInt8)])) = true then
                      if decide ((↑(List.length s.names) : Int) = (0 : Int)) = true then
                        True ∧ decide ((↑(List.length s.parts) : Int) = (0 : Int)) = fitsF s ∧ True
                      else True ∧ false = fitsF s ∧ True
                    else True ∧ false = fitsF s ∧ True
                  else True ∧ false = fitsF s ∧ True
                else if upperF s.name = true then True ∧ false = fitsF s ∧ True else True ∧ false = fitsF s ∧ True
              else if upperF s.name = true then True ∧ false = fitsF s ∧ True else True ∧ false = fitsF s ∧ True
    else
      if decide (s.kind = (10 : Int)) = true then
        if decide (s.name = [(73 : UInt8), (110 : UInt8), (116 : UInt8)]) = true then
          if nameF s.pkg = true then
            if upperF s.name = true then
              if decide ((↑(List.length s.names) : Int) = (0 : Int)) = true then
                True ∧ decide ((↑(List.length s.parts) : Int) = (0 : Int)) = fitsF s ∧ True
              else True ∧ false = fitsF s ∧ True
            else True ∧ false = fitsF s ∧ True
          else
            if decide (s.pkg = []) = true then
              if decide (s.kind = (9 : Int)) = true then
                if upperF s.name = true then True ∧ false = fitsF s ∧ True else True ∧ false = fitsF s ∧ True
              else if upperF s.name = true then True ∧ false = fitsF s ∧ True else True ∧ false = fitsF s ∧ True
            else if upperF s.name = true then True ∧ false = fitsF s ∧ True else True ∧ false = fitsF s ∧ True
        else
          if decide (s.name = [(66 : UInt8), (111 : UInt8), (111 : UInt8), (108 : UInt8)]) = true then
            if nameF s.pkg = true then
              if upperF s.name = true then
                if decide ((↑(List.length s.names) : Int) = (0 : Int)) = true then
                  True ∧ decide ((↑(List.length s.parts) : Int) = (0 : Int)) = fitsF s ∧ True
                else True ∧ false = fitsF s ∧ True
              else True ∧ false = fitsF s ∧ True
            else
              if decide (s.pkg = []) = true then
                if decide (s.kind = (9 : Int)) = true then
                  if upperF s.name = true then True ∧ false = fitsF s ∧ True else True ∧ false = fitsF s ∧ True
                else if upperF s.name = true then True ∧ false = fitsF s ∧ True else True ∧ false = fitsF s ∧ True
              else if upperF s.name = true then True ∧ false = fitsF s ∧ True else True ∧ false = fitsF s ∧ True
          else
            if decide (s.name = [(84 : UInt8), (101 : UInt8), (120 : UInt8), (116 : UInt8)]) = true then
              if nameF s.pkg = true then
                if upperF s.name = true then
                  if decide ((↑(List.length s.names) : Int) = (0 : Int)) = true then
                    True ∧ decide ((↑(List.length s.parts) : Int) = (0 : Int)) = fitsF s ∧ True
                  else True ∧ false = fitsF s ∧ True
                else True ∧ false = fitsF s ∧ True
              else
                if decide (s.pkg = []) = true then
                  if decide (s.kind = (9 : Int)) = true then
                    if upperF s.name = true then True ∧ false = fitsF s ∧ True else True ∧ false = fitsF s ∧ True
                  else if upperF s.name = true then True ∧ false = fitsF s ∧ True else True ∧ false = fitsF s ∧ True
                else if upperF s.name = true then True ∧ false = fitsF s ∧ True else True ∧ false = fitsF s ∧ True
            else
              if nameF s.pkg = true then
                if upperF s.name = true then
                  if decide ((↑(List.length s.names) : Int) = (0 : Int)) = true then
                    True ∧ decide ((↑(List.length s.parts) : Int) = (0 : Int)) = fitsF s ∧ True
                  else True ∧ false = fitsF s ∧ True
                else True ∧ false = fitsF s ∧ True
              else
                if decide (s.pkg = []) = true then
                  if decide (s.kind = (9 : Int)) = true then
                    if upperF s.name = true then
                      if (!decide (s.name = [(65 : UInt8), (110 : UInt8), (121 : UInt8)])) = true then
                        if decide ((↑(List.length s.names) : Int) = (0 : Int)) = true then
                          True ∧ decide ((↑(List.length s.parts) : Int) = (0 : Int)) = fitsF s ∧ True
                        else True ∧ false = fitsF s ∧ True
                      else True ∧ false = fitsF s ∧ True
                    else True ∧ false = fitsF s ∧ True
                  else if upperF s.name = true then True ∧ false = fitsF s ∧ True else True ∧ false = fitsF s ∧ True
                else if upperF s.name = true then True ∧ false = fitsF s ∧ True else True ∧ false = fitsF s ∧ True
      else
        if (!decide (s.pkg = [])) = true then True ∧ false = fitsF s ∧ True
        else
          if (!decide (s.name = [])) = true then True ∧ false = fitsF s ∧ True
          else
            if decide (s.kind = (6 : Int)) = true then
              True ∧ namesOK s.names (↑(List.length s.parts) : Int) = fitsF s ∧ True
            else
              if decide (s.kind = (7 : Int)) = true then
                True ∧ namesOK s.names (↑(List.length s.parts) : Int) = fitsF s ∧ True
              else
                if decide ((0 : Int) < (↑(List.length s.names) : Int)) = true then True ∧ false = fitsF s ∧ True
                else
                  if decide (s.kind = (8 : Int)) = true then
                    True ∧ decide ((1 : Int) ≤ (↑(List.length s.parts) : Int)) = fitsF s ∧ True
                  else
                    if decide (s.kind = (5 : Int)) = true then
                      True ∧ decide ((↑(List.length s.parts) : Int) = (1 : Int)) = fitsF s ∧ True
                    else
                      if decide ((1 : Int) ≤ s.kind) = true then
                        if decide (s.kind ≤ (4 : Int)) = true then
                          True ∧ decide ((↑(List.length s.parts) : Int) = (0 : Int)) = fitsF s ∧ True
                        else True ∧ false = fitsF s ∧ True
                      else True ∧ false = fitsF s ∧ True := by
  have n0 : ((s.names.length : Int) = 0) ↔ s.names = [] := by rw [← List.length_eq_zero_iff]; omega
  have n1 : (0 < (s.names.length : Int)) ↔ ¬ s.names = [] := by rw [← List.length_eq_zero_iff]; omega
  have p0 : ((s.parts.length : Int) = 0) ↔ s.parts = [] := by rw [← List.length_eq_zero_iff]; omega
  have p1 : ((s.parts.length : Int) = 1) ↔ s.parts.length = 1 := by omega
  have p2 : (1 ≤ (s.parts.length : Int)) ↔ ¬ s.parts = [] := by rw [← List.length_eq_zero_iff]; omega
  have hn : namesOK s.names (s.parts.length : Int) = namedOK s := by
    unfold namesOK namedOK
    rw [decide_eq_decide.2 (show ((s.names.length : Int) = (s.parts.length : Int)) ↔ s.names.length = s.parts.length by omega)]
  simp only [n0, n1, p0, p1, p2, hn, decide_eq_true_eq, true_and, and_true]
  have hf : fitsF s = fitsF s := rfl
  conv at hf => rhs; unfold fitsF
  unfold plainF at hf
  have hk : (s.kind = 1 ∨ s.kind = 2 ∨ s.kind = 3 ∨ s.kind = 4) ↔ (1 ≤ s.kind ∧ s.kind ≤ 4) := by omega
  simp only [hk] at hf
  clear hk n0 n1 p0 p1 p2 hn
  revert hf
  generalize fitsF s = F
  generalize namedOK s = A
  generalize upperF s.name = B
  generalize nameF s.pkg = C
  generalize s.kind = K
  intro hf
  repeat' (refine ite_intro (fun _ => ?_) (fun _ => ?_))
  all_goals (subst hf; (try simp_all); try (intros; omega))
theorem vc_right (n : Nat) (s : Shape) (hs : Wf (.st .shape) s) (hn : sz s ≤ n + 1) :
    if (!fitsF s) = true then True ∧ false = allS fitsF s ∧ True
    else
      (∃ (x : Nat),
          (x ≤ List.length s.parts ∧ allS fitsF s = allL fitsF (List.drop x s.parts)) ∧
            (0 : Int) = (↑x : Int) ∧ s = s ∧ false = false ∧ s = s ∧ True) ∧
        ∀ (x : Nat),
          x ≤ List.length s.parts ∧ allS fitsF s = allL fitsF (List.drop x s.parts) →
            if decide ((↑x : Int) < (↑(List.length s.parts) : Int)) = true then
              ((0 : Int) ≤ (↑x : Int) ∧ (↑x : Int) < (↑(List.length s.parts) : Int)) ∧
                sz (List.getD s.parts (Int.toNat (↑x : Int)) (dfl (Ty.st SN.shape))) ≤ n ∧
                  if (!allS fitsF (List.getD s.parts (Int.toNat (↑x : Int)) (dfl (Ty.st SN.shape)))) = true then
                    True ∧ false = allS fitsF s ∧ True
                  else
                    inR IntKind.i64 ((↑x : Int) + (1 : Int)) ∧
                      ∃ (y : Nat),
                        (y ≤ List.length s.parts ∧ allS fitsF s = allL fitsF (List.drop y s.parts)) ∧
                          List.length s.parts - y < List.length s.parts - x ∧
                            (↑x : Int) + (1 : Int) = (↑y : Int) ∧ s = s ∧ false = false ∧ s = s ∧ True
            else True ∧ true = allS fitsF s ∧ True := by
  have ln := hs.parts.len
  have hz := sz_eq s
  simp only [Int.toNat_natCast, eq_self, true_and, and_true]
  refine ite_intro (fun h => ?_) (fun h => ?_)
  · have h : fitsF s = false := by simpa using h
    rw [allS_eq, h]; rfl
  have h : fitsF s = true := by simpa using h
  refine ⟨⟨0, ⟨Nat.zero_le _, by rw [allS_eq, h]; rfl⟩, rfl⟩, ?_⟩
  rintro k ⟨h1, h3⟩
  refine ite_intro (fun h => ?_) (fun h => ?_)
  · replace h := of_decide_eq_true h
    have hk : k < s.parts.length := by omega
    have hm := sz_mem (getD_mem s.parts k (dfl (.st .shape)) hk)
    rw [drop_getD s.parts k (dfl (.st .shape)) hk] at h3
    simp only [allL] at h3
    refine ⟨by omega, by omega, ?_⟩
    cases e : allS fitsF (s.parts.getD k (dfl (.st .shape)))
    · rw [e] at h3; rw [h3]; simp
    · simp only [e, Bool.true_and] at h3
      exact ⟨inR_len hk ln, k + 1, ⟨by omega, h3⟩, by omega, by omega⟩
  · replace h : ¬ ((k : Int) < (s.parts.length : Int)) := fun e => h (decide_eq_true e)
    have e : k = s.parts.length := by omega
    subst e
    rw [h3, List.drop_length]; rfl
theorem vc_Deep (n : Nat) (s : Shape) (hs : Wf (.st .shape) s) (hn : sz s ≤ n + 1) (hb : n ≤ 1000000) :
    (∃ (x : Nat × Int),
        (x.fst ≤ List.length s.parts ∧
            (0 : Int) ≤ x.snd ∧ max x.snd (↑(maxDeep (List.drop x.fst s.parts)) : Int) = (↑(maxDeep s.parts) : Int)) ∧
          (0 : Int) = x.snd ∧ (0 : Int) = (↑x.fst : Int) ∧ s = s ∧ (0 : Int) = (0 : Int) ∧ s = s ∧ True) ∧
      ∀ (x : Nat × Int),
        x.fst ≤ List.length s.parts ∧
            (0 : Int) ≤ x.snd ∧ max x.snd (↑(maxDeep (List.drop x.fst s.parts)) : Int) = (↑(maxDeep s.parts) : Int) →
          if decide ((↑x.fst : Int) < (↑(List.length s.parts) : Int)) = true then
            ((0 : Int) ≤ (↑x.fst : Int) ∧ (↑x.fst : Int) < (↑(List.length s.parts) : Int)) ∧
              sz (List.getD s.parts (Int.toNat (↑x.fst : Int)) (dfl (Ty.st SN.shape))) ≤ n ∧
                if
                    decide
                        (x.snd < (↑(deepF (List.getD s.parts (Int.toNat (↑x.fst : Int)) (dfl (Ty.st SN.shape)))) : Int)) =
                      true then
                  inR IntKind.i64 ((↑x.fst : Int) + (1 : Int)) ∧
                    ∃ (y : Nat × Int),
                      (y.fst ≤ List.length s.parts ∧
                          (0 : Int) ≤ y.snd ∧
                            max y.snd (↑(maxDeep (List.drop y.fst s.parts)) : Int) = (↑(maxDeep s.parts) : Int)) ∧
                        List.length s.parts - y.fst < List.length s.parts - x.fst ∧
                          (↑(deepF (List.getD s.parts (Int.toNat (↑x.fst : Int)) (dfl (Ty.st SN.shape)))) : Int) = y.snd ∧
                            (↑x.fst : Int) + (1 : Int) = (↑y.fst : Int) ∧ s = s ∧ (0 : Int) = (0 : Int) ∧ s = s ∧ True
                else
                  inR IntKind.i64 ((↑x.fst : Int) + (1 : Int)) ∧
                    ∃ (y : Nat × Int),
                      (y.fst ≤ List.length s.parts ∧
                          (0 : Int) ≤ y.snd ∧
                            max y.snd (↑(maxDeep (List.drop y.fst s.parts)) : Int) = (↑(maxDeep s.parts) : Int)) ∧
                        List.length s.parts - y.fst < List.length s.parts - x.fst ∧
                          x.snd = y.snd ∧
                            (↑x.fst : Int) + (1 : Int) = (↑y.fst : Int) ∧ s = s ∧ (0 : Int) = (0 : Int) ∧ s = s ∧ True
          else inR IntKind.i64 (x.snd + (1 : Int)) ∧ True ∧ x.snd + (1 : Int) = (↑(deepF s) : Int) ∧ True := by
  have ln := hs.parts.len
  have hz := sz_eq s
  have hd : deepF s = maxDeep s.parts + 1 := by cases s; rfl
  have hds := maxDeep_sz s.parts
  simp only [Int.toNat_natCast, eq_self, true_and, and_true]
  refine ⟨⟨(0, 0), ⟨Nat.zero_le _, by simp, by simp only [List.drop_zero]; omega⟩, rfl, rfl⟩, ?_⟩
  rintro ⟨k, c⟩ ⟨h1, h2, h3⟩
  simp only at h1 h2 h3 ⊢
  refine ite_intro (fun h => ?_) (fun h => ?_)
  · replace h := of_decide_eq_true h
    have hk : k < s.parts.length := by omega
    have hm := sz_mem (getD_mem s.parts k (dfl (.st .shape)) hk)
    rw [drop_getD s.parts k (dfl (.st .shape)) hk] at h3
    simp only [maxDeep] at h3
    refine ⟨by omega, by omega, ite_intro (fun a => ?_) (fun a => ?_)⟩
    · replace a := of_decide_eq_true a
      exact ⟨inR_len hk ln, (k + 1, (deepF (s.parts.getD k (dfl (.st .shape))) : Int)), ⟨by omega, by simp only; omega, by simp only; omega⟩, by simp only; omega, rfl, rfl⟩
    · replace a : ¬ c < (deepF (s.parts.getD k (dfl (.st .shape))) : Int) := fun e => a (decide_eq_true e)
      exact ⟨inR_len hk ln, (k + 1, c), ⟨by omega, by simp only; omega, by simp only; omega⟩, by simp only; omega, rfl, rfl⟩
  · replace h : ¬ ((k : Int) < (s.parts.length : Int)) := fun e => h (decide_eq_true e)
    have e : k = s.parts.length := by omega
    subst e
    rw [List.drop_length] at h3
    simp only [maxDeep] at h3
    exact ⟨inR_i64 (by omega) (by omega), by omega⟩
theorem vc_rCheck (s : Shape) (hs : Wf (.st .shape) s) :
    (sz s ≤ sz s ∧ (0 : Int) ≤ (400 : Int) ∧ (400 : Int) ≤ (1000000 : Int)) ∧
      if decide ((400 : Int) < sizeF s (400 : Int)) = true then True ∧ (3 : Int) = checkS s ∧ True
      else
        sz s ≤ (400 : Nat) ∧
          if decide ((40 : Int) < (↑(deepF s) : Int)) = true then True ∧ (91 : Int) = checkS s ∧ True
          else
            sz s ≤ (400 : Nat) ∧
              if (!allS fitsF s) = true then True ∧ (70 : Int) = checkS s ∧ True else True ∧ (0 : Int) = checkS s ∧ True := by
  simp only [eq_self, true_and, and_true]
  rw [checkR]
  refine ⟨⟨Nat.le_refl _, by omega, by omega⟩, ite_intro (fun h => ?_) (fun h => ?_)⟩
  · rw [if_pos (of_decide_eq_true h)]
  · have h' : ¬ (400 : Int) < sizeF s 400 := fun e => h (decide_eq_true e)
    have hs4 : sz s ≤ 400 := by rw [sizeF_eq s 400 (by omega)] at h'; omega
    rw [if_neg h']
    refine ⟨hs4, ite_intro (fun g => ?_) (fun g => ⟨hs4, ?_⟩)⟩
    · rw [if_pos (of_decide_eq_true g)]
    · rw [if_neg (fun e => g (decide_eq_true e))]
      cases allS fitsF s <;> simp
theorem vc_rEqual (n : Nat) (a b : Shape) (ha : Wf (.st .shape) a) (hb : Wf (.st .shape) b) (hn : sz a ≤ n + 1) :
    if (!decide (a.kind = b.kind)) = true then True ∧ false = eqS a b ∧ True
    else
      if (!decide (a.pkg = b.pkg)) = true then True ∧ false = eqS a b ∧ True
      else
        if (!decide (a.name = b.name)) = true then True ∧ false = eqS a b ∧ True
        else
          if (!decide ((↑(List.length a.names) : Int) = (↑(List.length b.names) : Int))) = true then
            True ∧ false = eqS a b ∧ True
          else
            if (!decide ((↑(List.length a.parts) : Int) = (↑(List.length b.parts) : Int))) = true then
              True ∧ false = eqS a b ∧ True
            else
              (∃ (x : Nat),
                  (x ≤ List.length a.names ∧
                      List.length a.names = List.length b.names ∧
                        List.length a.parts = List.length b.parts ∧
                          eqS a b = (decide (List.drop x a.names = List.drop x b.names) && eqL a.parts b.parts)) ∧
                    (0 : Int) = (↑x : Int) ∧ a = a ∧ b = b ∧ false = false ∧ a = a ∧ b = b ∧ True) ∧
                ∀ (x : Nat),
                  x ≤ List.length a.names ∧
                      List.length a.names = List.length b.names ∧
                        List.length a.parts = List.length b.parts ∧
                          eqS a b = (decide (List.drop x a.names = List.drop x b.names) && eqL a.parts b.parts) →
                    if decide ((↑x : Int) < (↑(List.length a.names) : Int)) = true then
                      ((0 : Int) ≤ (↑x : Int) ∧ (↑x : Int) < (↑(List.length a.names) : Int)) ∧
                        ((0 : Int) ≤ (↑x : Int) ∧ (↑x : Int) < (↑(List.length b.names) : Int)) ∧
                          if
                              (!decide
                                    (List.getD a.names (Int.toNat (↑x : Int)) (dfl Ty.str) =
                                      List.getD b.names (Int.toNat (↑x : Int)) (dfl Ty.str))) =
                                true then
                            True ∧ false = eqS a b ∧ True
                          else
                            inR IntKind.i64 ((↑x : Int) + (1 : Int)) ∧
                              ∃ (y : Nat),
                                (y ≤ List.length a.names ∧
                                    List.length a.names = List.length b.names ∧
                                      List.length a.parts = List.length b.parts ∧
                                        eqS a b =
                                          (decide (List.drop y a.names = List.drop y b.names) && eqL a.parts b.parts)) ∧
                                  List.length a.names - y < List.length a.names - x ∧
                                    (↑x : Int) + (1 : Int) = (↑y : Int) ∧
                                      a = a ∧ b = b ∧ false = false ∧ a = a ∧ b = b ∧ True
                    else
                      (∃ (x_1 : Nat),
                          (x_1 ≤ List.length a.parts ∧
                              List.length a.parts = List.length b.parts ∧
                                eqS a b = eqL (List.drop x_1 a.parts) (List.drop x_1 b.parts)) ∧
                            (0 : Int) = (↑x_1 : Int) ∧
                              (↑x : Int) = (↑x : Int) ∧
                                a = a ∧ b = b ∧ false = false ∧ false = false ∧ a = a ∧ b = b ∧ True) ∧
                        ∀ (x_1 : Nat),
                          x_1 ≤ List.length a.parts ∧
                              List.length a.parts = List.length b.parts ∧
                                eqS a b = eqL (List.drop x_1 a.parts) (List.drop x_1 b.parts) →
                            if decide ((↑x_1 : Int) < (↑(List.length a.parts) : Int)) = true then
                              ((0 : Int) ≤ (↑x_1 : Int) ∧ (↑x_1 : Int) < (↑(List.length a.parts) : Int)) ∧
                                ((0 : Int) ≤ (↑x_1 : Int) ∧ (↑x_1 : Int) < (↑(List.length b.parts) : Int)) ∧
                                  sz (List.getD a.parts (Int.toNat (↑x_1 : Int)) (dfl (Ty.st SN.shape))) ≤ n ∧
                                    if
                                        (!eqS (List.getD a.parts (Int.toNat (↑x_1 : Int)) (dfl (Ty.st SN.shape)))
                                              (List.getD b.parts (Int.toNat (↑x_1 : Int)) (dfl (Ty.st SN.shape)))) =
                                          true then
                                      True ∧ false = eqS a b ∧ True
                                    else
                                      inR IntKind.i64 ((↑x_1 : Int) + (1 : Int)) ∧
                                        ∃ (y : Nat),
                                          (y ≤ List.length a.parts ∧
                                              List.length a.parts = List.length b.parts ∧
                                                eqS a b = eqL (List.drop y a.parts) (List.drop y b.parts)) ∧
                                            List.length a.parts - y < List.length a.parts - x_1 ∧
                                              (↑x_1 : Int) + (1 : Int) = (↑y : Int) ∧
                                                (↑x : Int) = (↑x : Int) ∧
                                                  a = a ∧ b = b ∧ false = false ∧ false = false ∧ a = a ∧ b = b ∧ True
                            else True ∧ true = eqS a b ∧ True := by
  have lna := ha.names.len
  have lpa := ha.parts.len
  have hz := sz_eq a
  have he : eqS a b = (decide (a.kind = b.kind) && decide (a.pkg = b.pkg) && decide (a.name = b.name) && decide (a.names = b.names) && eqL a.parts b.parts) := by cases a; cases b; rfl
  simp only [Int.toNat_natCast, eq_self, true_and, and_true]
  refine ite_intro (fun h => ?_) (fun h1 => ite_intro (fun h => ?_) (fun h2 => ite_intro (fun h => ?_) (fun h3 => ite_intro (fun h => ?_) (fun h4 => ite_intro (fun h => ?_) (fun h5 => ?_)))))
  · rw [he]; simp only [Bool.not_eq_true'] at h; rw [h]; simp
  · rw [he]; simp only [Bool.not_eq_true'] at h; rw [h]; simp
  · rw [he]; simp only [Bool.not_eq_true'] at h; rw [h]; simp
  · have : ¬ a.names = b.names := by intro e; rw [e] at h; simp at h
    rw [he]; simp [this]
  · have : a.parts.length ≠ b.parts.length := by intro e; rw [e] at h; simp at h
    rw [he, eqL_len this]; simp
  have l4 : a.names.length = b.names.length := by simp at h4; omega
  have l5 : a.parts.length = b.parts.length := by simp at h5; omega
  have he' : eqS a b = (decide (a.names = b.names) && eqL a.parts b.parts) := by
    rw [he]; simp only [Bool.not_eq_true, Bool.not_eq_false'] at h1 h2 h3; rw [h1, h2, h3]; simp
  refine ⟨⟨0, ⟨Nat.zero_le _, l4, l5, by simpa using he'⟩, rfl⟩, ?_⟩
  rintro k ⟨k1, _, _, k4⟩
  refine ite_intro (fun h => ?_) (fun h => ?_)
  · replace h := of_decide_eq_true h
    have hk : k < a.names.length := by omega
    have hk' : k < b.names.length := by omega
    rw [drop_getD a.names k (dfl .str) hk, drop_getD b.names k (dfl .str) hk'] at k4
    refine ⟨by omega, by omega, ite_intro (fun c => ?_) (fun c => ?_)⟩
    · have c' : ¬ a.names.getD k (dfl .str) = b.names.getD k (dfl .str) := by simpa using c
      rw [k4]
      have : ¬ (a.names.getD k (dfl .str) :: a.names.drop (k + 1) = b.names.getD k (dfl .str) :: b.names.drop (k + 1)) := fun e => c' (List.cons.inj e).1
      simp only [this, decide_false, Bool.false_and]
    · have c' : a.names.getD k (dfl .str) = b.names.getD k (dfl .str) := by simpa using c
      refine ⟨inR_len hk lna, k + 1, ⟨by omega, l4, l5, ?_⟩, by omega, by omega⟩
      rw [k4, c']
      congr 1
      rw [decide_eq_decide]
      simp
  · replace h : ¬ ((k : Int) < (a.names.length : Int)) := fun e => h (decide_eq_true e)
    have e : k = a.names.length := by omega
    subst e
    have k4' : eqS a b = eqL a.parts b.parts := by rw [k4, List.drop_length, l4, List.drop_length]; simp
    refine ⟨⟨0, ⟨Nat.zero_le _, l5, by simpa using k4'⟩, rfl⟩, ?_⟩
    rintro j ⟨j1, _, j3⟩
    refine ite_intro (fun h => ?_) (fun h => ?_)
    · replace h := of_decide_eq_true h
      have hj : j < a.parts.length := by omega
      have hj' : j < b.parts.length := by omega
      have hm := sz_mem (getD_mem a.parts j (dfl (.st .shape)) hj)
      rw [drop_getD a.parts j (dfl (.st .shape)) hj, drop_getD b.parts j (dfl (.st .shape)) hj'] at j3
      simp only [eqL] at j3
      refine ⟨by omega, by omega, by omega, ite_intro (fun c => ?_) (fun c => ?_)⟩
      · have c' : eqS (a.parts.getD j (dfl (.st .shape))) (b.parts.getD j (dfl (.st .shape))) = false := by simpa using c
        rw [j3, c']; rfl
      · have c' : eqS (a.parts.getD j (dfl (.st .shape))) (b.parts.getD j (dfl (.st .shape))) = true := by simpa using c
        rw [c', Bool.true_and] at j3
        exact ⟨inR_len hj lpa, j + 1, ⟨by omega, l5, j3⟩, by omega, by omega⟩
    · replace h : ¬ ((j : Int) < (a.parts.length : Int)) := fun e => h (decide_eq_true e)
      have e : j = a.parts.length := by omega
      subst e
      rw [j3, List.drop_length, l5, List.drop_length]; rfl
theorem vc_Find (l : List AL.Item) (n : Str) (hl : Wf (.lst (.st .item)) l) :
    (∃ (x : Nat),
        (x ≤ List.length l ∧ itemOf l n = itemOf (List.drop x l) n) ∧
          (0 : Int) = (↑x : Int) ∧
            l = l ∧
              n = n ∧
                (0 : Int) = (0 : Int) ∧
                  noOf UInt8 = noOf UInt8 ∧
                    (0 : Int) = (0 : Int) ∧ noOf UInt8 = noOf UInt8 ∧ noOf UInt8 = noOf UInt8 ∧ True) ∧
      ∀ (x : Nat),
        x ≤ List.length l ∧ itemOf l n = itemOf (List.drop x l) n →
          if decide ((↑x : Int) < (↑(List.length l) : Int)) = true then
            ((0 : Int) ≤ (↑x : Int) ∧ (↑x : Int) < (↑(List.length l) : Int)) ∧
              if decide ((List.getD l (Int.toNat (↑x : Int)) (dfl (Ty.st SN.item))).name = n) = true then
                ((0 : Int) ≤ (↑x : Int) ∧ (↑x : Int) < (↑(List.length l) : Int)) ∧
                  True ∧
                    List.getD l (Int.toNat (↑x : Int)) (dfl (Ty.st SN.item)) = Option.getD (itemOf l n) dflI ∧
                      true = Option.isSome (itemOf l n) ∧ True
              else
                inR IntKind.i64 ((↑x : Int) + (1 : Int)) ∧
                  ∃ (y : Nat),
                    (y ≤ List.length l ∧ itemOf l n = itemOf (List.drop y l) n) ∧
                      List.length l - y < List.length l - x ∧
                        (↑x : Int) + (1 : Int) = (↑y : Int) ∧
                          l = l ∧
                            n = n ∧
                              (0 : Int) = (0 : Int) ∧
                                noOf UInt8 = noOf UInt8 ∧
                                  (0 : Int) = (0 : Int) ∧ noOf UInt8 = noOf UInt8 ∧ noOf UInt8 = noOf UInt8 ∧ True
          else
            True ∧
              (0 : Int) = (Option.getD (itemOf l n) dflI).kind ∧
                [] = (Option.getD (itemOf l n) dflI).name ∧
                  (0 : Int) = (Option.getD (itemOf l n) dflI).shape.kind ∧
                    [] = (Option.getD (itemOf l n) dflI).shape.pkg ∧
                      [] = (Option.getD (itemOf l n) dflI).shape.name ∧
                        (Option.getD (itemOf l n) dflI).shape.names = [] ∧
                          (Option.getD (itemOf l n) dflI).shape.parts = [] ∧ false = Option.isSome (itemOf l n) ∧ True := by
  have ln := hl.len
  simp only [Int.toNat_natCast, eq_self, true_and, and_true]
  refine ⟨⟨0, ⟨Nat.zero_le _, by simp⟩, rfl⟩, ?_⟩
  rintro k ⟨h1, h2⟩
  refine ite_intro (fun h => ?_) (fun h => ?_)
  · replace h := of_decide_eq_true h
    have hk : k < l.length := by omega
    rw [drop_getD l k (dfl (.st .item)) hk] at h2
    simp only [itemOf] at h2
    refine ⟨by omega, ite_intro (fun a => ?_) (fun a => ?_)⟩
    · rw [if_pos (of_decide_eq_true a)] at h2
      rw [h2]
      exact ⟨by omega, rfl, rfl⟩
    · rw [if_neg (fun e => a (decide_eq_true e))] at h2
      exact ⟨inR_len hk ln, k + 1, ⟨by omega, h2⟩, by omega, by omega⟩
  · replace h : ¬ ((k : Int) < (l.length : Int)) := fun e => h (decide_eq_true e)
    have e : k = l.length := by omega
    subst e
    rw [List.drop_length] at h2
    rw [h2]
    exact ⟨rfl, rfl, rfl, rfl, rfl, rfl, rfl, rfl⟩
theorem vc_part (s : Shape) (n : Str) (hs : Wf (.st .shape) s) (ho : s.names.length = s.parts.length) :
    (∃ (x : Nat),
        (x ≤ List.length s.names ∧ partOf s n = partGo (List.drop x s.names) (List.drop x s.parts) n) ∧
          (0 : Int) = (↑x : Int) ∧
            s = s ∧ n = n ∧ s = s ∧ (0 : Int) = (0 : Int) ∧ noOf UInt8 = noOf UInt8 ∧ noOf UInt8 = noOf UInt8 ∧ True) ∧
      ∀ (x : Nat),
        x ≤ List.length s.names ∧ partOf s n = partGo (List.drop x s.names) (List.drop x s.parts) n →
          if decide ((↑x : Int) < (↑(List.length s.names) : Int)) = true then
            ((0 : Int) ≤ (↑x : Int) ∧ (↑x : Int) < (↑(List.length s.names) : Int)) ∧
              if decide (List.getD s.names (Int.toNat (↑x : Int)) (dfl Ty.str) = n) = true then
                ((0 : Int) ≤ (↑x : Int) ∧ (↑x : Int) < (↑(List.length s.parts) : Int)) ∧
                  True ∧
                    List.getD s.parts (Int.toNat (↑x : Int)) (dfl (Ty.st SN.shape)) = Option.getD (partOf s n) dflS ∧
                      true = Option.isSome (partOf s n) ∧ True
              else
                inR IntKind.i64 ((↑x : Int) + (1 : Int)) ∧
                  ∃ (y : Nat),
                    (y ≤ List.length s.names ∧ partOf s n = partGo (List.drop y s.names) (List.drop y s.parts) n) ∧
                      List.length s.names - y < List.length s.names - x ∧
                        (↑x : Int) + (1 : Int) = (↑y : Int) ∧
                          s = s ∧
                            n = n ∧ s = s ∧ (0 : Int) = (0 : Int) ∧ noOf UInt8 = noOf UInt8 ∧ noOf UInt8 = noOf UInt8 ∧ True
          else
            True ∧
              (0 : Int) = (Option.getD (partOf s n) dflS).kind ∧
                [] = (Option.getD (partOf s n) dflS).pkg ∧
                  [] = (Option.getD (partOf s n) dflS).name ∧
                    (Option.getD (partOf s n) dflS).names = [] ∧
                      (Option.getD (partOf s n) dflS).parts = [] ∧ false = Option.isSome (partOf s n) ∧ True := by
  have ln := hs.names.len
  simp only [Int.toNat_natCast, eq_self, true_and, and_true]
  refine ⟨⟨0, ⟨Nat.zero_le _, by simp; rfl⟩, rfl⟩, ?_⟩
  rintro k ⟨h1, h2⟩
  refine ite_intro (fun h => ?_) (fun h => ?_)
  · replace h := of_decide_eq_true h
    have hk : k < s.names.length := by omega
    have hk' : k < s.parts.length := by omega
    rw [drop_getD s.names k (dfl .str) hk, drop_getD s.parts k (dfl (.st .shape)) hk'] at h2
    simp only [partGo] at h2
    refine ⟨by omega, ite_intro (fun a => ?_) (fun a => ?_)⟩
    · rw [if_pos (of_decide_eq_true a)] at h2
      rw [h2]
      exact ⟨by omega, rfl, rfl⟩
    · rw [if_neg (fun e => a (decide_eq_true e))] at h2
      exact ⟨inR_len hk ln, k + 1, ⟨by omega, h2⟩, by omega, by omega⟩
  · replace h : ¬ ((k : Int) < (s.names.length : Int)) := fun e => h (decide_eq_true e)
    have e : k = s.names.length := by omega
    subst e
    have h3 : partOf s n = none := by rw [h2, List.drop_length]; simp [partGo]
    rw [h3]
    exact ⟨rfl, rfl, rfl, rfl, rfl, rfl⟩
theorem vc_cSame (a b : List Change) (ha : Wf (.lst (.st .change)) a) (hb : Wf (.lst (.st .change)) b) :
    if (!decide ((↑(List.length a) : Int) = (↑(List.length b) : Int))) = true then True ∧ false = eqC a b ∧ True
    else
      (∃ (x : Nat),
          (x ≤ List.length a ∧ List.length a = List.length b ∧ eqC a b = eqC (List.drop x a) (List.drop x b)) ∧
            (0 : Int) = (↑x : Int) ∧ a = a ∧ b = b ∧ false = false ∧ True) ∧
        ∀ (x : Nat),
          x ≤ List.length a ∧ List.length a = List.length b ∧ eqC a b = eqC (List.drop x a) (List.drop x b) →
            if decide ((↑x : Int) < (↑(List.length a) : Int)) = true then
              ((0 : Int) ≤ (↑x : Int) ∧ (↑x : Int) < (↑(List.length a) : Int)) ∧
                ((0 : Int) ≤ (↑x : Int) ∧ (↑x : Int) < (↑(List.length b) : Int)) ∧
                  if
                      (!(decide
                              ((List.getD a (Int.toNat (↑x : Int)) (dfl (Ty.st SN.change))).kind =
                                (List.getD b (Int.toNat (↑x : Int)) (dfl (Ty.st SN.change))).kind) &&
                            (decide
                                ((List.getD a (Int.toNat (↑x : Int)) (dfl (Ty.st SN.change))).name =
                                  (List.getD b (Int.toNat (↑x : Int)) (dfl (Ty.st SN.change))).name) &&
                              true))) =
                        true then
                    True ∧ false = eqC a b ∧ True
                  else
                    inR IntKind.i64 ((↑x : Int) + (1 : Int)) ∧
                      ∃ (y : Nat),
                        (y ≤ List.length a ∧
                            List.length a = List.length b ∧ eqC a b = eqC (List.drop y a) (List.drop y b)) ∧
                          List.length a - y < List.length a - x ∧
                            (↑x : Int) + (1 : Int) = (↑y : Int) ∧ a = a ∧ b = b ∧ false = false ∧ True
            else True ∧ true = eqC a b ∧ True := by
  have ln := ha.len
  simp only [Int.toNat_natCast, eq_self, true_and, and_true]
  refine ite_intro (fun h => ?_) (fun h => ?_)
  · have : a.length ≠ b.length := by intro e; rw [e] at h; simp at h
    rw [eqC_len this]
  have hl : a.length = b.length := by simp at h; omega
  refine ⟨⟨0, ⟨Nat.zero_le _, hl, by simp⟩, rfl⟩, ?_⟩
  rintro k ⟨h1, _, h3⟩
  refine ite_intro (fun h => ?_) (fun h => ?_)
  · replace h := of_decide_eq_true h
    have hk : k < a.length := by omega
    have hk' : k < b.length := by omega
    rw [drop_getD a k (dfl (.st .change)) hk, drop_getD b k (dfl (.st .change)) hk'] at h3
    simp only [eqC] at h3
    refine ⟨by omega, by omega, ite_intro (fun c => ?_) (fun c => ?_)⟩
    · rw [Bool.not_eq_true'] at c
      rw [h3, c]; rfl
    · rw [Bool.not_eq_true', Bool.not_eq_false] at c
      rw [c, Bool.true_and] at h3
      exact ⟨inR_len hk ln, k + 1, ⟨by omega, hl, h3⟩, by omega, by omega⟩
  · replace h : ¬ ((k : Int) < (a.length : Int)) := fun e => h (decide_eq_true e)
    have e : k = a.length := by omega
    subst e
    rw [h3, List.drop_length, hl, List.drop_length]; rfl
theorem vc_cnames (l : List AL.Item) (hl : Wf (.lst (.st .item)) l) (hb : l.length ≤ 1000000) :
    (∃ (x : Nat), x ≤ List.length l ∧ insAll (List.take x l) = [] ∧ (0 : Int) = (↑x : Int) ∧ l = l ∧ True) ∧
      ∀ (x : Nat),
        x ≤ List.length l →
          if decide ((↑x : Int) < (↑(List.length l) : Int)) = true then
            (∃ (x_1 : Nat),
                (x_1 ≤ List.length (insAll (List.take (Int.toNat (↑x : Int)) l)) ∧
                    placeOf (insAll (List.take (Int.toNat (↑x : Int)) l))
                        (List.getD l (Int.toNat (↑x : Int)) (dfl (Ty.st SN.item))).name =
                      x_1 +
                        placeOf (List.drop x_1 (insAll (List.take (Int.toNat (↑x : Int)) l)))
                          (List.getD l (Int.toNat (↑x : Int)) (dfl (Ty.st SN.item))).name) ∧
                  (0 : Int) = (↑x_1 : Int) ∧
                    insAll (List.take x l) = insAll (List.take x l) ∧
                      (↑x : Int) = (↑x : Int) ∧ l = l ∧ true = true ∧ True) ∧
              ∀ (x_1 : Nat),
                x_1 ≤ List.length (insAll (List.take (Int.toNat (↑x : Int)) l)) ∧
                    placeOf (insAll (List.take (Int.toNat (↑x : Int)) l))
                        (List.getD l (Int.toNat (↑x : Int)) (dfl (Ty.st SN.item))).name =
                      x_1 +
                        placeOf (List.drop x_1 (insAll (List.take (Int.toNat (↑x : Int)) l)))
                          (List.getD l (Int.toNat (↑x : Int)) (dfl (Ty.st SN.item))).name →
                  if decide ((↑x_1 : Int) < (↑(List.length (insAll (List.take x l))) : Int)) = true then
                    ((0 : Int) ≤ (↑x_1 : Int) ∧ (↑x_1 : Int) < (↑(List.length (insAll (List.take x l))) : Int)) ∧
                      ((0 : Int) ≤ (↑x : Int) ∧ (↑x : Int) < (↑(List.length l) : Int)) ∧
                        if
                            Op.bytesLess (List.getD (insAll (List.take x l)) (Int.toNat (↑x_1 : Int)) (dfl Ty.str))
                                (List.getD l (Int.toNat (↑x : Int)) (dfl (Ty.st SN.item))).name =
                              true then
                          inR IntKind.i64 ((↑x_1 : Int) + (1 : Int)) ∧
                            ∃ (y : Nat),
                              (y ≤ List.length (insAll (List.take (Int.toNat (↑x : Int)) l)) ∧
                                  placeOf (insAll (List.take (Int.toNat (↑x : Int)) l))
                                      (List.getD l (Int.toNat (↑x : Int)) (dfl (Ty.st SN.item))).name =
                                    y +
                                      placeOf (List.drop y (insAll (List.take (Int.toNat (↑x : Int)) l)))
                                        (List.getD l (Int.toNat (↑x : Int)) (dfl (Ty.st SN.item))).name) ∧
                                List.length (insAll (List.take (Int.toNat (↑x : Int)) l)) - y <
                                    List.length (insAll (List.take (Int.toNat (↑x : Int)) l)) - x_1 ∧
                                  (↑x_1 : Int) + (1 : Int) = (↑y : Int) ∧
                                    insAll (List.take x l) = insAll (List.take x l) ∧
                                      (↑x : Int) = (↑x : Int) ∧ l = l ∧ true = true ∧ True
                        else
                          if decide ((↑x_1 : Int) = (↑(List.length (insAll (List.take x l))) : Int)) = true then
                            ((0 : Int) ≤ (0 : Int) ∧
                                (0 : Int) ≤ (↑x_1 : Int) ∧ (↑x_1 : Int) ≤ (↑(List.length (insAll (List.take x l))) : Int)) ∧
                              (List.length ([] : List Str) = List.length ([] : List Str) ∧
                                  (List.length ([] : List Str) +
                                        List.length
                                          (List.drop (Int.toNat (0 : Int))
                                            (List.take (Int.toNat (↑x_1 : Int)) (insAll (List.take x l))))) *
                                      (16 : Nat) ≤
                                    (140737488355328 : Nat)) ∧
                                ((0 : Int) ≤ (↑x : Int) ∧ (↑x : Int) < (↑(List.length l) : Int)) ∧
                                  (List.length
                                          ([] ++
                                            List.drop (Int.toNat (0 : Int))
                                              (List.take (Int.toNat (↑x_1 : Int)) (insAll (List.take x l)))) =
                                        List.length
                                          ([] ++
                                            List.drop (Int.toNat (0 : Int))
                                              (List.take (Int.toNat (↑x_1 : Int)) (insAll (List.take x l)))) ∧
                                      (List.length
                                              ([] ++
                                                List.drop (Int.toNat (0 : Int))
                                                  (List.take (Int.toNat (↑x_1 : Int)) (insAll (List.take x l)))) +
                                            List.length [(List.getD l (Int.toNat (↑x : Int)) (dfl (Ty.st SN.item))).name]) *
                                          (16 : Nat) ≤
                                        (140737488355328 : Nat)) ∧
                                    ((0 : Int) ≤ (↑x_1 : Int) ∧
                                        (↑x_1 : Int) ≤ (↑(List.length (insAll (List.take x l))) : Int) ∧
                                          (↑(List.length (insAll (List.take x l))) : Int) ≤
                                            (↑(List.length (insAll (List.take x l))) : Int)) ∧
                                      (List.length
                                              ([] ++
                                                  List.drop (Int.toNat (0 : Int))
                                                    (List.take (Int.toNat (↑x_1 : Int)) (insAll (List.take x l))) ++
                                                [(List.getD l (Int.toNat (↑x : Int)) (dfl (Ty.st SN.item))).name]) =
                                            List.length
                                              ([] ++
                                                  List.drop (Int.toNat (0 : Int))
                                                    (List.take (Int.toNat (↑x_1 : Int)) (insAll (List.take x l))) ++
                                                [(List.getD l (Int.toNat (↑x : Int)) (dfl (Ty.st SN.item))).name]) ∧
                                          (List.length
                                                  ([] ++
                                                      List.drop (Int.toNat (0 : Int))
                                                        (List.take (Int.toNat (↑x_1 : Int)) (insAll (List.take x l))) ++
                                                    [(List.getD l (Int.toNat (↑x : Int)) (dfl (Ty.st SN.item))).name]) +
                                                List.length
                                                  (List.drop (Int.toNat (↑x_1 : Int))
                                                    (List.take (Int.toNat (↑(List.length (insAll (List.take x l))) : Int))
                                                      (insAll (List.take x l))))) *
                                              (16 : Nat) ≤
                                            (140737488355328 : Nat)) ∧
                                        inR IntKind.i64 ((↑x : Int) + (1 : Int)) ∧
                                          ∃ (y : Nat),
                                            y ≤ List.length l ∧
                                              List.length l - y < List.length l - x ∧
                                                [] ++
                                                          List.drop (Int.toNat (0 : Int))
                                                            (List.take (Int.toNat (↑x_1 : Int)) (insAll (List.take x l))) ++
                                                        [(List.getD l (Int.toNat (↑x : Int)) (dfl (Ty.st SN.item))).name] ++
                                                      List.drop (Int.toNat (↑x_1 : Int))
                                                        (List.take
                                                          (Int.toNat (↑(List.length (insAll (List.take x l))) : Int))
                                                          (insAll (List.take x l))) =
                                                    insAll (List.take y l) ∧
                                                  (↑x : Int) + (1 : Int) = (↑y : Int) ∧ l = l ∧ True
                          else
                            ((0 : Int) ≤ (↑x_1 : Int) ∧ (↑x_1 : Int) < (↑(List.length (insAll (List.take x l))) : Int)) ∧
                              ((0 : Int) ≤ (↑x : Int) ∧ (↑x : Int) < (↑(List.length l) : Int)) ∧
                                if
                                    (!decide
                                          (List.getD (insAll (List.take x l)) (Int.toNat (↑x_1 : Int)) (dfl Ty.str) =
                                            (List.getD l (Int.toNat (↑x : Int)) (dfl (Ty.st SN.item))).name)) =
                                      true then
                                  ((0 : Int) ≤ (0 : Int) ∧
                                      (0 : Int) ≤ (↑x_1 : Int) ∧
                                        (↑x_1 : Int) ≤ (↑(List.length (insAll (List.take x l))) : Int)) ∧
                                    (List.length ([] : List Str) = List.length ([] : List Str) ∧
                                        (List.length ([] : List Str) +
                                              List.length
                                                (List.drop (Int.toNat (0 : Int))
                                                  (List.take (Int.toNat (↑x_1 : Int)) (insAll (List.take x l))))) *
                                            (16 : Nat) ≤
                                          (140737488355328 : Nat)) ∧
                                      ((0 : Int) ≤ (↑x : Int) ∧ (↑x : Int) < (↑(List.length l) : Int)) ∧
                                        (List.length
                                                ([] ++
                                                  List.drop (Int.toNat (0 : Int))
                                                    (List.take (Int.toNat (↑x_1 : Int)) (insAll (List.take x l)))) =
                                              List.length
                                                ([] ++
                                                  List.drop (Int.toNat (0 : Int))
                                                    (List.take (Int.toNat (↑x_1 : Int)) (insAll (List.take x l)))) ∧
                                            (List.length
                                                    ([] ++
                                                      List.drop (Int.toNat (0 : Int))
                                                        (List.take (Int.toNat (↑x_1 : Int)) (insAll (List.take x l)))) +
                                                  List.length
                                                    [(List.getD l (Int.toNat (↑x : Int)) (dfl (Ty.st SN.item))).name]) *
                                                (16 : Nat) ≤
                                              (140737488355328 : Nat)) ∧
                                          ((0 : Int) ≤ (↑x_1 : Int) ∧
                                              (↑x_1 : Int) ≤ (↑(List.length (insAll (List.take x l))) : Int) ∧
                                                (↑(List.length (insAll (List.take x l))) : Int) ≤
                                                  (↑(List.length (insAll (List.take x l))) : Int)) ∧
                                            (List.length
                                                    ([] ++
                                                        List.drop (Int.toNat (0 : Int))
                                                          (List.take (Int.toNat (↑x_1 : Int)) (insAll (List.take x l))) ++
                                                      [(List.getD l (Int.toNat (↑x : Int)) (dfl (Ty.st SN.item))).name]) =
                                                  List.length
                                                    ([] ++
                                                        List.drop (Int.toNat (0 : Int))
                                                          (List.take (Int.toNat (↑x_1 : Int)) (insAll (List.take x l))) ++
                                                      [(List.getD l (Int.toNat (↑x : Int)) (dfl (Ty.st SN.item))).name]) ∧
                                                (List.length
                                                        ([] ++
                                                            List.drop (Int.toNat (0 : Int))
                                                              (List.take (Int.toNat (↑x_1 : Int))
                                                                (insAll (List.take x l))) ++
                                                          [(List.getD l (Int.toNat (↑x : Int))
                                                                (dfl (Ty.st SN.item))).name]) +
                                                      List.length
                                                        (List.drop (Int.toNat (↑x_1 : Int))
                                                          (List.take
                                                            (Int.toNat (↑(List.length (insAll (List.take x l))) : Int))
                                                            (insAll (List.take x l))))) *
                                                    (16 : Nat) ≤
                                                  (140737488355328 : Nat)) ∧
                                              inR IntKind.i64 ((↑x : Int) + (1 : Int)) ∧
                                                ∃ (y : Nat),
                                                  y ≤ List.length l ∧
                                                    List.length l - y < List.length l - x ∧
                                                      [] ++
                                                                List.drop (Int.toNat (0 : Int))
                                                                  (List.take (Int.toNat (↑x_1 : Int))
                                                                    (insAll (List.take x l))) ++
                                                              [(List.getD l (Int.toNat (↑x : Int))
                                                                    (dfl (Ty.st SN.item))).name] ++
                                                            List.drop (Int.toNat (↑x_1 : Int))
                                                              (List.take
                                                                (Int.toNat (↑(List.length (insAll (List.take x l))) : Int))
                                                                (insAll (List.take x l))) =
                                                          insAll (List.take y l) ∧
                                                        (↑x : Int) + (1 : Int) = (↑y : Int) ∧ l = l ∧ True
                                else
                                  inR IntKind.i64 ((↑x : Int) + (1 : Int)) ∧
                                    ∃ (y : Nat),
                                      y ≤ List.length l ∧
                                        List.length l - y < List.length l - x ∧
                                          insAll (List.take x l) = insAll (List.take y l) ∧
                                            (↑x : Int) + (1 : Int) = (↑y : Int) ∧ l = l ∧ True
                  else
                    if decide ((↑x_1 : Int) = (↑(List.length (insAll (List.take x l))) : Int)) = true then
                      ((0 : Int) ≤ (0 : Int) ∧
                          (0 : Int) ≤ (↑x_1 : Int) ∧ (↑x_1 : Int) ≤ (↑(List.length (insAll (List.take x l))) : Int)) ∧
                        (List.length ([] : List Str) = List.length ([] : List Str) ∧
                            (List.length ([] : List Str) +
                                  List.length
                                    (List.drop (Int.toNat (0 : Int))
                                      (List.take (Int.toNat (↑x_1 : Int)) (insAll (List.take x l))))) *
                                (16 : Nat) ≤
                              (140737488355328 : Nat)) ∧
                          ((0 : Int) ≤ (↑x : Int) ∧ (↑x : Int) < (↑(List.length l) : Int)) ∧
                            (List.length
                                    ([] ++
                                      List.drop (Int.toNat (0 : Int))
                                        (List.take (Int.toNat (↑x_1 : Int)) (insAll (List.take x l)))) =
                                  List.length
                                    ([] ++
                                      List.drop (Int.toNat (0 : Int))
                                        (List.take (Int.toNat (↑x_1 : Int)) (insAll (List.take x l)))) ∧
                                (List.length
                                        ([] ++
                                          List.drop (Int.toNat (0 : Int))
                                            (List.take (Int.toNat (↑x_1 : Int)) (insAll (List.take x l)))) +
                                      List.length [(List.getD l (Int.toNat (↑x : Int)) (dfl (Ty.st SN.item))).name]) *
                                    (16 : Nat) ≤
                                  (140737488355328 : Nat)) ∧
                              ((0 : Int) ≤ (↑x_1 : Int) ∧
                                  (↑x_1 : Int) ≤ (↑(List.length (insAll (List.take x l))) : Int) ∧
                                    (↑(List.length (insAll (List.take x l))) : Int) ≤
                                      (↑(List.length (insAll (List.take x l))) : Int)) ∧
                                (List.length
                                        ([] ++
                                            List.drop (Int.toNat (0 : Int))
                                              (List.take (Int.toNat (↑x_1 : Int)) (insAll (List.take x l))) ++
                                          [(List.getD l (Int.toNat (↑x : Int)) (dfl (Ty.st SN.item))).name]) =
                                      List.length
                                        ([] ++
                                            List.drop (Int.toNat (0 : Int))
                                              (List.take (Int.toNat (↑x_1 : Int)) (insAll (List.take x l))) ++
                                          [(List.getD l (Int.toNat (↑x : Int)) (dfl (Ty.st SN.item))).name]) ∧
                                    (List.length
                                            ([] ++
                                                List.drop (Int.toNat (0 : Int))
                                                  (List.take (Int.toNat (↑x_1 : Int)) (insAll (List.take x l))) ++
                                              [(List.getD l (Int.toNat (↑x : Int)) (dfl (Ty.st SN.item))).name]) +
                                          List.length
                                            (List.drop (Int.toNat (↑x_1 : Int))
                                              (List.take (Int.toNat (↑(List.length (insAll (List.take x l))) : Int))
                                                (insAll (List.take x l))))) *
                                        (16 : Nat) ≤
                                      (140737488355328 : Nat)) ∧
                                  inR IntKind.i64 ((↑x : Int) + (1 : Int)) ∧
                                    ∃ (y : Nat),
                                      y ≤ List.length l ∧
                                        List.length l - y < List.length l - x ∧
                                          [] ++
                                                    List.drop (Int.toNat (0 : Int))
                                                      (List.take (Int.toNat (↑x_1 : Int)) (insAll (List.take x l))) ++
                                                  [(List.getD l (Int.toNat (↑x : Int)) (dfl (Ty.st SN.item))).name] ++
                                                List.drop (Int.toNat (↑x_1 : Int))
                                                  (List.take (Int.toNat (↑(List.length (insAll (List.take x l))) : Int))
                                                    (insAll (List.take x l))) =
                                              insAll (List.take y l) ∧
                                            (↑x : Int) + (1 : Int) = (↑y : Int) ∧ l = l ∧ True
                    else
                      ((0 : Int) ≤ (↑x_1 : Int) ∧ (↑x_1 : Int) < (↑(List.length (insAll (List.take x l))) : Int)) ∧
                        ((0 : Int) ≤ (↑x : Int) ∧ (↑x : Int) < (↑(List.length l) : Int)) ∧
                          if
                              (!decide
                                    (List.getD (insAll (List.take x l)) (Int.toNat (↑x_1 : Int)) (dfl Ty.str) =
                                      (List.getD l (Int.toNat (↑x : Int)) (dfl (Ty.st SN.item))).name)) =
                                true then
                            ((0 : Int) ≤ (0 : Int) ∧
                                (0 : Int) ≤ (↑x_1 : Int) ∧ (↑x_1 : Int) ≤ (↑(List.length (insAll (List.take x l))) : Int)) ∧
                              (List.length ([] : List Str) = List.length ([] : List Str) ∧
                                  (List.length ([] : List Str) +
                                        List.length
                                          (List.drop (Int.toNat (0 : Int))
                                            (List.take (Int.toNat (↑x_1 : Int)) (insAll (List.take x l))))) *
                                      (16 : Nat) ≤
                                    (140737488355328 : Nat)) ∧
                                ((0 : Int) ≤ (↑x : Int) ∧ (↑x : Int) < (↑(List.length l) : Int)) ∧
                                  (List.length
                                          ([] ++
                                            List.drop (Int.toNat (0 : Int))
                                              (List.take (Int.toNat (↑x_1 : Int)) (insAll (List.take x l)))) =
                                        List.length
                                          ([] ++
                                            List.drop (Int.toNat (0 : Int))
                                              (List.take (Int.toNat (↑x_1 : Int)) (insAll (List.take x l)))) ∧
                                      (List.length
                                              ([] ++
                                                List.drop (Int.toNat (0 : Int))
                                                  (List.take (Int.toNat (↑x_1 : Int)) (insAll (List.take x l)))) +
                                            List.length [(List.getD l (Int.toNat (↑x : Int)) (dfl (Ty.st SN.item))).name]) *
                                          (16 : Nat) ≤
                                        (140737488355328 : Nat)) ∧
                                    ((0 : Int) ≤ (↑x_1 : Int) ∧
                                        (↑x_1 : Int) ≤ (↑(List.length (insAll (List.take x l))) : Int) ∧
                                          (↑(List.length (insAll (List.take x l))) : Int) ≤
                                            (↑(List.length (insAll (List.take x l))) : Int)) ∧
                                      (List.length
                                              ([] ++
                                                  List.drop (Int.toNat (0 : Int))
                                                    (List.take (Int.toNat (↑x_1 : Int)) (insAll (List.take x l))) ++
                                                [(List.getD l (Int.toNat (↑x : Int)) (dfl (Ty.st SN.item))).name]) =
                                            List.length
                                              ([] ++
                                                  List.drop (Int.toNat (0 : Int))
                                                    (List.take (Int.toNat (↑x_1 : Int)) (insAll (List.take x l))) ++
                                                [(List.getD l (Int.toNat (↑x : Int)) (dfl (Ty.st SN.item))).name]) ∧
                                          (List.length
                                                  ([] ++
                                                      List.drop (Int.toNat (0 : Int))
                                                        (List.take (Int.toNat (↑x_1 : Int)) (insAll (List.take x l))) ++
                                                    [(List.getD l (Int.toNat (↑x : Int)) (dfl (Ty.st SN.item))).name]) +
                                                List.length
                                                  (List.drop (Int.toNat (↑x_1 : Int))
                                                    (List.take (Int.toNat (↑(List.length (insAll (List.take x l))) : Int))
                                                      (insAll (List.take x l))))) *
                                              (16 : Nat) ≤
                                            (140737488355328 : Nat)) ∧
                                        inR IntKind.i64 ((↑x : Int) + (1 : Int)) ∧
                                          ∃ (y : Nat),
                                            y ≤ List.length l ∧
                                              List.length l - y < List.length l - x ∧
                                                [] ++
                                                          List.drop (Int.toNat (0 : Int))
                                                            (List.take (Int.toNat (↑x_1 : Int)) (insAll (List.take x l))) ++
                                                        [(List.getD l (Int.toNat (↑x : Int)) (dfl (Ty.st SN.item))).name] ++
                                                      List.drop (Int.toNat (↑x_1 : Int))
                                                        (List.take
                                                          (Int.toNat (↑(List.length (insAll (List.take x l))) : Int))
                                                          (insAll (List.take x l))) =
                                                    insAll (List.take y l) ∧
                                                  (↑x : Int) + (1 : Int) = (↑y : Int) ∧ l = l ∧ True
                          else
                            inR IntKind.i64 ((↑x : Int) + (1 : Int)) ∧
                              ∃ (y : Nat),
                                y ≤ List.length l ∧
                                  List.length l - y < List.length l - x ∧
                                    insAll (List.take x l) = insAll (List.take y l) ∧
                                      (↑x : Int) + (1 : Int) = (↑y : Int) ∧ l = l ∧ True
          else
            True ∧
              (insAll (List.take x l) =
                  List.mergeSort (uniq (List.map (fun (x : AL.Item) ↦ x.name) l)) fun (x y : Str) ↦ decide (x ≤ y)) ∧
                True := by
  have ln := hl.len
  simp only [Int.toNat_natCast, Int.toNat_zero, List.drop_zero, List.nil_append, List.length_nil, List.length_singleton, List.take_length, eq_self, true_and, and_true]
  refine ⟨⟨0, Nat.zero_le _, rfl, rfl⟩, ?_⟩
  rintro k hk0
  refine ite_intro (fun h => ?_) (fun h => ?_)
  · replace h := of_decide_eq_true h
    have hk : k < l.length := by omega
    have hA : (insAll (l.take k)).length ≤ k := by have := insAll_len (l.take k); rw [List.length_take] at this; omega
    have hs := insAll_succ l k (dfl (.st .item)) hk
    refine ⟨⟨0, ⟨Nat.zero_le _, by simp⟩, rfl⟩, ?_⟩
    rintro j ⟨j1, j2⟩
    have ins : placeOf (insAll (l.take k)) (l.getD k (dfl (.st .item))).name = j → (j = (insAll (l.take k)).length ∨ ¬ (insAll (l.take k)).getD j [] = (l.getD k (dfl (.st .item))).name) → ((0 : Int) ≤ 0 ∧ (0 : Int) ≤ j ∧ (j : Int) ≤ ((insAll (l.take k)).length : Int)) ∧
        (0 + ((insAll (l.take k)).take j).length) * 16 ≤ 140737488355328 ∧ ((0 : Int) ≤ k ∧ (k : Int) < (l.length : Int)) ∧ (((insAll (l.take k)).take j).length + 1) * 16 ≤ 140737488355328 ∧
        ((0 : Int) ≤ j ∧ (j : Int) ≤ ((insAll (l.take k)).length : Int) ∧ ((insAll (l.take k)).length : Int) ≤ ((insAll (l.take k)).length : Int)) ∧
        (((insAll (l.take k)).take j ++ [(l.getD k (dfl (.st .item))).name]).length + ((insAll (l.take k)).drop j).length) * 16 ≤ 140737488355328 ∧ inR IntKind.i64 ((k : Int) + 1) ∧
        ∃ y : Nat, y ≤ l.length ∧ l.length - y < l.length - k ∧ (insAll (l.take k)).take j ++ [(l.getD k (dfl (.st .item))).name] ++ (insAll (l.take k)).drop j = insAll (l.take y) ∧ (k : Int) + 1 = (y : Int) := by
      intro hp hc
      have e1 : ((insAll (l.take k)).take j).length = j := by rw [List.length_take]; omega
      have e2 : ((insAll (l.take k)).drop j).length = (insAll (l.take k)).length - j := List.length_drop
      refine ⟨by omega, by omega, by omega, by omega, by omega, ?_, inR_len hk ln, k + 1, by omega, by omega, ?_, by omega⟩
      · rw [List.length_append, e1, e2, List.length_singleton]; omega
      · rw [hs]
        unfold ins1
        rw [hp]
        unfold insAt
        rw [if_pos hc]
    have same : placeOf (insAll (l.take k)) (l.getD k (dfl (.st .item))).name = j → j < (insAll (l.take k)).length → (insAll (l.take k)).getD j [] = (l.getD k (dfl (.st .item))).name → inR IntKind.i64 ((k : Int) + 1) ∧ ∃ y : Nat, y ≤ l.length ∧ l.length - y < l.length - k ∧ (insAll (l.take k)) = insAll (l.take y) ∧ (k : Int) + 1 = (y : Int) := by
      intro hp hl1 he
      refine ⟨inR_len hk ln, k + 1, by omega, by omega, ?_, by omega⟩
      rw [hs]
      unfold ins1
      rw [hp]
      unfold insAt
      have hn : ¬ (j = (insAll (l.take k)).length ∨ ¬ (insAll (l.take k)).getD j [] = (l.getD k (dfl (.st .item))).name) := fun h => h.elim (fun e => by omega) (fun e => e he)
      rw [if_neg hn]
    have out : placeOf (insAll (l.take k)) (l.getD k (dfl (.st .item))).name = j → (if decide ((j : Int) = ((insAll (l.take k)).length : Int)) = true then ((0 : Int) ≤ 0 ∧ (0 : Int) ≤ j ∧ (j : Int) ≤ ((insAll (l.take k)).length : Int)) ∧
        (0 + ((insAll (l.take k)).take j).length) * 16 ≤ 140737488355328 ∧ ((0 : Int) ≤ k ∧ (k : Int) < (l.length : Int)) ∧ (((insAll (l.take k)).take j).length + 1) * 16 ≤ 140737488355328 ∧
        ((0 : Int) ≤ j ∧ (j : Int) ≤ ((insAll (l.take k)).length : Int) ∧ ((insAll (l.take k)).length : Int) ≤ ((insAll (l.take k)).length : Int)) ∧
        (((insAll (l.take k)).take j ++ [(l.getD k (dfl (.st .item))).name]).length + ((insAll (l.take k)).drop j).length) * 16 ≤ 140737488355328 ∧ inR IntKind.i64 ((k : Int) + 1) ∧
        ∃ y : Nat, y ≤ l.length ∧ l.length - y < l.length - k ∧ (insAll (l.take k)).take j ++ [(l.getD k (dfl (.st .item))).name] ++ (insAll (l.take k)).drop j = insAll (l.take y) ∧ (k : Int) + 1 = (y : Int)
      else ((0 : Int) ≤ j ∧ (j : Int) < ((insAll (l.take k)).length : Int)) ∧ ((0 : Int) ≤ k ∧ (k : Int) < (l.length : Int)) ∧ (if (!decide ((insAll (l.take k)).getD j (dfl Ty.str) = (l.getD k (dfl (.st .item))).name)) = true then ((0 : Int) ≤ 0 ∧ (0 : Int) ≤ j ∧ (j : Int) ≤ ((insAll (l.take k)).length : Int)) ∧
        (0 + ((insAll (l.take k)).take j).length) * 16 ≤ 140737488355328 ∧ ((0 : Int) ≤ k ∧ (k : Int) < (l.length : Int)) ∧ (((insAll (l.take k)).take j).length + 1) * 16 ≤ 140737488355328 ∧
        ((0 : Int) ≤ j ∧ (j : Int) ≤ ((insAll (l.take k)).length : Int) ∧ ((insAll (l.take k)).length : Int) ≤ ((insAll (l.take k)).length : Int)) ∧
        (((insAll (l.take k)).take j ++ [(l.getD k (dfl (.st .item))).name]).length + ((insAll (l.take k)).drop j).length) * 16 ≤ 140737488355328 ∧ inR IntKind.i64 ((k : Int) + 1) ∧
        ∃ y : Nat, y ≤ l.length ∧ l.length - y < l.length - k ∧ (insAll (l.take k)).take j ++ [(l.getD k (dfl (.st .item))).name] ++ (insAll (l.take k)).drop j = insAll (l.take y) ∧ (k : Int) + 1 = (y : Int)
        else inR IntKind.i64 ((k : Int) + 1) ∧ ∃ y : Nat, y ≤ l.length ∧ l.length - y < l.length - k ∧ (insAll (l.take k)) = insAll (l.take y) ∧ (k : Int) + 1 = (y : Int))) := by
      intro hp
      refine ite_intro (fun a => ?_) (fun a => ?_)
      · replace a := of_decide_eq_true a
        exact ins hp (Or.inl (by omega))
      · replace a : ¬ (j : Int) = ((insAll (l.take k)).length : Int) := fun e => a (decide_eq_true e)
        refine ⟨by omega, by omega, ite_intro (fun b => ?_) (fun b => ?_)⟩
        · rw [Bool.not_eq_true'] at b
          exact ins hp (Or.inr (of_decide_eq_false b))
        · rw [Bool.not_eq_true', Bool.not_eq_false] at b
          exact same hp (by omega) (of_decide_eq_true b)
    refine ite_intro (fun a => ?_) (fun a => ?_)
    · replace a := of_decide_eq_true a
      have hj : j < (insAll (l.take k)).length := by omega
      rw [drop_getD (insAll (l.take k)) j (dfl .str) hj] at j2
      simp only [placeOf] at j2
      refine ⟨by omega, by omega, ite_intro (fun b => ?_) (fun b => ?_)⟩
      · rw [if_pos b] at j2
        exact ⟨inR_i64 (by omega) (by omega), j + 1, ⟨by omega, by omega⟩, by omega, by omega⟩
      · rw [if_neg b] at j2
        exact out (by omega)
    · replace a : ¬ ((j : Int) < ((insAll (l.take k)).length : Int)) := fun e => a (decide_eq_true e)
      have e : j = (insAll (l.take k)).length := by omega
      have e0 : (insAll (l.take k)).drop j = [] := by rw [e]; exact List.drop_length
      rw [e0] at j2
      simp only [placeOf] at j2
      exact out (by omega)
  · replace h : ¬ ((k : Int) < (l.length : Int)) := fun e => h (decide_eq_true e)
    have e : k = l.length := by omega
    subst e
    rw [List.take_length]
    exact insAll_eq l
theorem vc_rsortedN (n : Nat) (s : Shape) (hs : Wf (.st .shape) s) (hn : sz s ≤ n + 1) (ho : allS orderly s = true) (hb : n ≤ 1000000) (h0 : s.names = []) :
    (∃ (x : Nat),
        x ≤ List.length s.parts ∧
          (0 : Int) = (↑x : Int) ∧
            s = s ∧
              s.kind = s.kind ∧
                s.pkg = s.pkg ∧
                  s.name = s.name ∧
                    List.map sortedS (List.take x s.parts) = [] ∧
                      x = (0 : Nat) ∧
                        s = s ∧ (0 : Int) = (0 : Int) ∧ noOf UInt8 = noOf UInt8 ∧ noOf UInt8 = noOf UInt8 ∧ True) ∧
      ∀ (x : Nat),
        x ≤ List.length s.parts →
          if decide ((↑x : Int) < (↑(List.length s.parts) : Int)) = true then
            ((0 : Int) ≤ (↑x : Int) ∧ (↑x : Int) < (↑(List.length s.parts) : Int)) ∧
              (sz (List.getD s.parts (Int.toNat (↑x : Int)) (dfl (Ty.st SN.shape))) ≤ n ∧
                  allS orderly (List.getD s.parts (Int.toNat (↑x : Int)) (dfl (Ty.st SN.shape))) = true) ∧
                if decide ((↑(List.length s.names) : Int) = (0 : Int)) = true then
                  (List.length (List.map sortedS (List.take x s.parts)) = x ∧
                      (List.length (List.map sortedS (List.take x s.parts)) +
                            List.length [sortedS (List.getD s.parts (Int.toNat (↑x : Int)) (dfl (Ty.st SN.shape)))]) *
                          (88 : Nat) ≤
                        (140737488355328 : Nat)) ∧
                    inR IntKind.i64 ((↑x : Int) + (1 : Int)) ∧
                      ∃ (y : Nat),
                        y ≤ List.length s.parts ∧
                          List.length s.parts - y < List.length s.parts - x ∧
                            (↑x : Int) + (1 : Int) = (↑y : Int) ∧
                              s = s ∧
                                s.kind = s.kind ∧
                                  s.pkg = s.pkg ∧
                                    s.name = s.name ∧
                                      List.map sortedS (List.take x s.parts) ++
                                            [sortedS (List.getD s.parts (Int.toNat (↑x : Int)) (dfl (Ty.st SN.shape)))] =
                                          List.map sortedS (List.take y s.parts) ∧
                                        List.length
                                              (List.map sortedS (List.take x s.parts) ++
                                                [sortedS
                                                    (List.getD s.parts (Int.toNat (↑x : Int)) (dfl (Ty.st SN.shape)))]) =
                                            y ∧
                                          s = s ∧
                                            (0 : Int) = (0 : Int) ∧ noOf UInt8 = noOf UInt8 ∧ noOf UInt8 = noOf UInt8 ∧ True
                else
                  (∃ (x_1 : Nat),
                      False ∧
                        (↑x : Int) = (↑x : Int) ∧
                          s = s ∧
                            true = true ∧
                              false = false ∧
                                s.kind = s.kind ∧
                                  s.pkg = s.pkg ∧
                                    s.name = s.name ∧
                                      List.map sortedS (List.take x s.parts) = List.map sortedS (List.take x s.parts) ∧
                                        x = x ∧
                                          s = s ∧
                                            (0 : Int) = (0 : Int) ∧
                                              noOf UInt8 = noOf UInt8 ∧
                                                noOf UInt8 = noOf UInt8 ∧
                                                  sortedS
                                                        (List.getD s.parts (Int.toNat (↑x : Int)) (dfl (Ty.st SN.shape))) =
                                                      sortedS
                                                        (List.getD s.parts (Int.toNat (↑x : Int)) (dfl (Ty.st SN.shape))) ∧
                                                    True) ∧
                    ∀ (x : Nat), False → False
          else
            True ∧
              s.kind = (sortedS s).kind ∧
                s.pkg = (sortedS s).pkg ∧
                  s.name = (sortedS s).name ∧
                    (sortedS s).names = [] ∧ List.map sortedS (List.take x s.parts) = (sortedS s).parts ∧ True := by
  have ln := hs.parts.len
  have hz := sz_eq s
  have hl := szL_len s.parts
  have hor : allL orderly s.parts = true := by rw [allS_eq] at ho; simp only [Bool.and_eq_true] at ho; exact ho.2
  have hlen : ∀ k, k ≤ s.parts.length → (List.map sortedS (s.parts.take k)).length = k := fun k hk => by rw [List.length_map, List.length_take]; omega
  simp only [Int.toNat_natCast, eq_self, true_and, and_true, List.length_singleton]
  refine ⟨⟨0, Nat.zero_le _, rfl, rfl, rfl⟩, ?_⟩
  rintro k hk0
  refine ite_intro (fun h => ?_) (fun h => ?_)
  · replace h := of_decide_eq_true h
    have hk : k < s.parts.length := by omega
    have hm := getD_mem s.parts k (dfl (.st .shape)) hk
    have hm2 := sz_mem hm
    refine ⟨by omega, ⟨by omega, allL_mem hor hm⟩, ?_⟩
    have e0 : s.names.length = 0 := by rw [h0]; rfl
    rw [if_pos (decide_eq_true (show (s.names.length : Int) = 0 by omega))]
    have ht : List.map sortedS (s.parts.take k) ++ [sortedS (s.parts.getD k (dfl (.st .shape)))] = List.map sortedS (s.parts.take (k + 1)) := by
      rw [take_getD s.parts k (dfl (.st .shape)) hk, List.map_append]; rfl
    have hl1 := hlen k hk0
    refine ⟨⟨hl1, by omega⟩, inR_len hk ln, k + 1, by omega, by omega, by omega, ht, ?_⟩
    rw [ht]; exact hlen (k + 1) hk
  · replace h : ¬ ((k : Int) < (s.parts.length : Int)) := fun e => h (decide_eq_true e)
    have e : k = s.parts.length := by omega
    subst e
    rw [List.take_length]
    have hpl : places s = rangeI s.parts.length := by unfold places; rw [if_pos h0]
    have hml : ∀ l : List Shape, List.map sortedS l = sortedL l := fun l => by
      induction l with
      | nil => rfl
      | cons a r ih => simp only [List.map_cons, sortedL, ih]
    have e2 := map_range_getD (sortedL s.parts) dflS
    rw [sortedL_length] at e2
    obtain ⟨k, p, m, ns, ps⟩ := s
    simp only at h0
    subst h0
    simp only [sortedS, if_true] at hpl ⊢
    refine ⟨trivial, trivial, trivial, trivial, ?_⟩
    rw [hpl, hml]
    exact e2.symm
theorem vc_rsortedS (n : Nat) (s : Shape) (hs : Wf (.st .shape) s) (hn : sz s ≤ n + 1) (ho : allS orderly s = true) (hb : n ≤ 1000000) (h0 : s.names ≠ []) :
    (∃ (x : Nat),
        x ≤ List.length s.parts ∧
          (0 : Int) = (↑x : Int) ∧
            s = s ∧
              s.kind = s.kind ∧
                s.pkg = s.pkg ∧
                  s.name = s.name ∧
                    (insN s x).fst = [] ∧
                      (insN s x).snd = [] ∧
                        s = s ∧ (0 : Int) = (0 : Int) ∧ noOf UInt8 = noOf UInt8 ∧ noOf UInt8 = noOf UInt8 ∧ True) ∧
      ∀ (x : Nat),
        x ≤ List.length s.parts →
          if decide ((↑x : Int) < (↑(List.length s.parts) : Int)) = true then
            ((0 : Int) ≤ (↑x : Int) ∧ (↑x : Int) < (↑(List.length s.parts) : Int)) ∧
              (sz (List.getD s.parts (Int.toNat (↑x : Int)) (dfl (Ty.st SN.shape))) ≤ n ∧
                  allS orderly (List.getD s.parts (Int.toNat (↑x : Int)) (dfl (Ty.st SN.shape))) = true) ∧
                if decide ((↑(List.length s.names) : Int) = (0 : Int)) = true then False
                else
                  (∃ (x_1 : Nat),
                      (x_1 ≤ List.length (insN s (Int.toNat (↑x : Int))).fst ∧
                          placeOf (insN s (Int.toNat (↑x : Int))).fst
                              (List.getD s.names (Int.toNat (↑x : Int)) (dfl Ty.str)) =
                            x_1 +
                              placeOf (List.drop x_1 (insN s (Int.toNat (↑x : Int))).fst)
                                (List.getD s.names (Int.toNat (↑x : Int)) (dfl Ty.str))) ∧
                        (0 : Int) = (↑x_1 : Int) ∧
                          (↑x : Int) = (↑x : Int) ∧
                            s = s ∧
                              true = true ∧
                                false = false ∧
                                  s.kind = s.kind ∧
                                    s.pkg = s.pkg ∧
                                      s.name = s.name ∧
                                        (insN s x).fst = (insN s x).fst ∧
                                          (insN s x).snd = (insN s x).snd ∧
                                            s = s ∧
                                              (0 : Int) = (0 : Int) ∧
                                                noOf UInt8 = noOf UInt8 ∧
                                                  noOf UInt8 = noOf UInt8 ∧
                                                    sortedS
                                                          (List.getD s.parts (Int.toNat (↑x : Int))
                                                            (dfl (Ty.st SN.shape))) =
                                                        sortedS
                                                          (List.getD s.parts (Int.toNat (↑x : Int))
                                                            (dfl (Ty.st SN.shape))) ∧
                                                      True) ∧
                    ∀ (x_1 : Nat),
                      x_1 ≤ List.length (insN s (Int.toNat (↑x : Int))).fst ∧
                          placeOf (insN s (Int.toNat (↑x : Int))).fst
                              (List.getD s.names (Int.toNat (↑x : Int)) (dfl Ty.str)) =
                            x_1 +
                              placeOf (List.drop x_1 (insN s (Int.toNat (↑x : Int))).fst)
                                (List.getD s.names (Int.toNat (↑x : Int)) (dfl Ty.str)) →
                        if decide ((↑x_1 : Int) < (↑(List.length (insN s x).fst) : Int)) = true then
                          ((0 : Int) ≤ (↑x_1 : Int) ∧ (↑x_1 : Int) < (↑(List.length (insN s x).fst) : Int)) ∧
                            ((0 : Int) ≤ (↑x : Int) ∧ (↑x : Int) < (↑(List.length s.names) : Int)) ∧
                              if
                                  Op.bytesLess (List.getD (insN s x).fst (Int.toNat (↑x_1 : Int)) (dfl Ty.str))
                                      (List.getD s.names (Int.toNat (↑x : Int)) (dfl Ty.str)) =
                                    true then
                                inR IntKind.i64 ((↑x_1 : Int) + (1 : Int)) ∧
                                  ∃ (y : Nat),
                                    (y ≤ List.length (insN s (Int.toNat (↑x : Int))).fst ∧
                                        placeOf (insN s (Int.toNat (↑x : Int))).fst
                                            (List.getD s.names (Int.toNat (↑x : Int)) (dfl Ty.str)) =
                                          y +
                                            placeOf (List.drop y (insN s (Int.toNat (↑x : Int))).fst)
                                              (List.getD s.names (Int.toNat (↑x : Int)) (dfl Ty.str))) ∧
                                      List.length (insN s (Int.toNat (↑x : Int))).fst - y <
                                          List.length (insN s (Int.toNat (↑x : Int))).fst - x_1 ∧
                                        (↑x_1 : Int) + (1 : Int) = (↑y : Int) ∧
                                          (↑x : Int) = (↑x : Int) ∧
                                            s = s ∧
                                              true = true ∧
                                                false = false ∧
                                                  s.kind = s.kind ∧
                                                    s.pkg = s.pkg ∧
                                                      s.name = s.name ∧
                                                        (insN s x).fst = (insN s x).fst ∧
                                                          (insN s x).snd = (insN s x).snd ∧
                                                            s = s ∧
                                                              (0 : Int) = (0 : Int) ∧
                                                                noOf UInt8 = noOf UInt8 ∧
                                                                  noOf UInt8 = noOf UInt8 ∧
                                                                    sortedS
                                                                          (List.getD s.parts (Int.toNat (↑x : Int))
                                                                            (dfl (Ty.st SN.shape))) =
                                                                        sortedS
                                                                          (List.getD s.parts (Int.toNat (↑x : Int))
                                                                            (dfl (Ty.st SN.shape))) ∧
                                                                      True
                              else
                                ((0 : Int) ≤ (0 : Int) ∧
                                    (0 : Int) ≤ (↑x_1 : Int) ∧ (↑x_1 : Int) ≤ (↑(List.length (insN s x).fst) : Int)) ∧
                                  (List.length ([] : List Str) = List.length ([] : List Str) ∧
                                      (List.length ([] : List Str) +
                                            List.length
                                              (List.drop (Int.toNat (0 : Int))
                                                (List.take (Int.toNat (↑x_1 : Int)) (insN s x).fst))) *
                                          (16 : Nat) ≤
                                        (140737488355328 : Nat)) ∧
                                    ((0 : Int) ≤ (↑x : Int) ∧ (↑x : Int) < (↑(List.length s.names) : Int)) ∧
                                      (List.length
                                              ([] ++
                                                List.drop (Int.toNat (0 : Int))
                                                  (List.take (Int.toNat (↑x_1 : Int)) (insN s x).fst)) =
                                            List.length
                                              ([] ++
                                                List.drop (Int.toNat (0 : Int))
                                                  (List.take (Int.toNat (↑x_1 : Int)) (insN s x).fst)) ∧
                                          (List.length
                                                  ([] ++
                                                    List.drop (Int.toNat (0 : Int))
                                                      (List.take (Int.toNat (↑x_1 : Int)) (insN s x).fst)) +
                                                List.length [List.getD s.names (Int.toNat (↑x : Int)) (dfl Ty.str)]) *
                                              (16 : Nat) ≤
                                            (140737488355328 : Nat)) ∧
                                        ((0 : Int) ≤ (↑x_1 : Int) ∧
                                            (↑x_1 : Int) ≤ (↑(List.length (insN s x).fst) : Int) ∧
                                              (↑(List.length (insN s x).fst) : Int) ≤
                                                (↑(List.length (insN s x).fst) : Int)) ∧
                                          (List.length
                                                  ([] ++
                                                      List.drop (Int.toNat (0 : Int))
                                                        (List.take (Int.toNat (↑x_1 : Int)) (insN s x).fst) ++
                                                    [List.getD s.names (Int.toNat (↑x : Int)) (dfl Ty.str)]) =
                                                List.length
                                                  ([] ++
                                                      List.drop (Int.toNat (0 : Int))
                                                        (List.take (Int.toNat (↑x_1 : Int)) (insN s x).fst) ++
                                                    [List.getD s.names (Int.toNat (↑x : Int)) (dfl Ty.str)]) ∧
                                              (List.length
                                                      ([] ++
                                                          List.drop (Int.toNat (0 : Int))
                                                            (List.take (Int.toNat (↑x_1 : Int)) (insN s x).fst) ++
                                                        [List.getD s.names (Int.toNat (↑x : Int)) (dfl Ty.str)]) +
                                                    List.length
                                                      (List.drop (Int.toNat (↑x_1 : Int))
                                                        (List.take (Int.toNat (↑(List.length (insN s x).fst) : Int))
                                                          (insN s x).fst))) *
                                                  (16 : Nat) ≤
                                                (140737488355328 : Nat)) ∧
                                            ((0 : Int) ≤ (0 : Int) ∧
                                                (0 : Int) ≤ (↑x_1 : Int) ∧
                                                  (↑x_1 : Int) ≤ (↑(List.length (insN s x).snd) : Int)) ∧
                                              (List.length ([] : List Shape) = List.length ([] : List Shape) ∧
                                                  (List.length ([] : List Shape) +
                                                        List.length
                                                          (List.drop (Int.toNat (0 : Int))
                                                            (List.take (Int.toNat (↑x_1 : Int)) (insN s x).snd))) *
                                                      (88 : Nat) ≤
                                                    (140737488355328 : Nat)) ∧
                                                (List.length
                                                        ([] ++
                                                          List.drop (Int.toNat (0 : Int))
                                                            (List.take (Int.toNat (↑x_1 : Int)) (insN s x).snd)) =
                                                      List.length
                                                        ([] ++
                                                          List.drop (Int.toNat (0 : Int))
                                                            (List.take (Int.toNat (↑x_1 : Int)) (insN s x).snd)) ∧
                                                    (List.length
                                                            ([] ++
                                                              List.drop (Int.toNat (0 : Int))
                                                                (List.take (Int.toNat (↑x_1 : Int)) (insN s x).snd)) +
                                                          List.length
                                                            [sortedS
                                                                (List.getD s.parts (Int.toNat (↑x : Int))
                                                                  (dfl (Ty.st SN.shape)))]) *
                                                        (88 : Nat) ≤
                                                      (140737488355328 : Nat)) ∧
                                                  ((0 : Int) ≤ (↑x_1 : Int) ∧
                                                      (↑x_1 : Int) ≤ (↑(List.length (insN s x).snd) : Int) ∧
                                                        (↑(List.length (insN s x).snd) : Int) ≤
                                                          (↑(List.length (insN s x).snd) : Int)) ∧
                                                    (List.length
                                                            ([] ++
                                                                List.drop (Int.toNat (0 : Int))
                                                                  (List.take (Int.toNat (↑x_1 : Int)) (insN s x).snd) ++
                                                              [sortedS
                                                                  (List.getD s.parts (Int.toNat (↑x : Int))
                                                                    (dfl (Ty.st SN.shape)))]) =
                                                          List.length
                                                            ([] ++
                                                                List.drop (Int.toNat (0 : Int))
                                                                  (List.take (Int.toNat (↑x_1 : Int)) (insN s x).snd) ++
                                                              [sortedS
                                                                  (List.getD s.parts (Int.toNat (↑x : Int))
                                                                    (dfl (Ty.st SN.shape)))]) ∧
                                                        (List.length
                                                                ([] ++
                                                                    List.drop (Int.toNat (0 : Int))
                                                                      (List.take (Int.toNat (↑x_1 : Int)) (insN s x).snd) ++
                                                                  [sortedS
                                                                      (List.getD s.parts (Int.toNat (↑x : Int))
                                                                        (dfl (Ty.st SN.shape)))]) +
                                                              List.length
                                                                (List.drop (Int.toNat (↑x_1 : Int))
                                                                  (List.take
                                                                    (Int.toNat (↑(List.length (insN s x).snd) : Int))
                                                                    (insN s x).snd))) *
                                                            (88 : Nat) ≤
                                                          (140737488355328 : Nat)) ∧
                                                      inR IntKind.i64 ((↑x : Int) + (1 : Int)) ∧
                                                        ∃ (y : Nat),
                                                          y ≤ List.length s.parts ∧
                                                            List.length s.parts - y < List.length s.parts - x ∧
                                                              (↑x : Int) + (1 : Int) = (↑y : Int) ∧
                                                                s = s ∧
                                                                  s.kind = s.kind ∧
                                                                    s.pkg = s.pkg ∧
                                                                      s.name = s.name ∧
                                                                        [] ++
                                                                                  List.drop (Int.toNat (0 : Int))
                                                                                    (List.take (Int.toNat (↑x_1 : Int))
                                                                                      (insN s x).fst) ++
                                                                                [List.getD s.names (Int.toNat (↑x : Int))
                                                                                    (dfl Ty.str)] ++
                                                                              List.drop (Int.toNat (↑x_1 : Int))
                                                                                (List.take
                                                                                  (Int.toNat
                                                                                    (↑(List.length (insN s x).fst) : Int))
                                                                                  (insN s x).fst) =
                                                                            (insN s y).fst ∧
                                                                          [] ++
                                                                                    List.drop (Int.toNat (0 : Int))
                                                                                      (List.take (Int.toNat (↑x_1 : Int))
                                                                                        (insN s x).snd) ++
                                                                                  [sortedS
                                                                                      (List.getD s.parts
                                                                                        (Int.toNat (↑x : Int))
                                                                                        (dfl (Ty.st SN.shape)))] ++
                                                                                List.drop (Int.toNat (↑x_1 : Int))
                                                                                  (List.take
                                                                                    (Int.toNat
                                                                                      (↑(List.length (insN s x).snd) : Int))
                                                                                    (insN s x).snd) =
                                                                              (insN s y).snd ∧
                                                                            s = s ∧
                                                                              (0 : Int) = (0 : Int) ∧
                                                                                noOf UInt8 = noOf UInt8 ∧
                                                                                  noOf UInt8 = noOf UInt8 ∧ True
                        else
                          ((0 : Int) ≤ (0 : Int) ∧
                              (0 : Int) ≤ (↑x_1 : Int) ∧ (↑x_1 : Int) ≤ (↑(List.length (insN s x).fst) : Int)) ∧
                            (List.length ([] : List Str) = List.length ([] : List Str) ∧
                                (List.length ([] : List Str) +
                                      List.length
                                        (List.drop (Int.toNat (0 : Int))
                                          (List.take (Int.toNat (↑x_1 : Int)) (insN s x).fst))) *
                                    (16 : Nat) ≤
                                  (140737488355328 : Nat)) ∧
                              ((0 : Int) ≤ (↑x : Int) ∧ (↑x : Int) < (↑(List.length s.names) : Int)) ∧
                                (List.length
                                        ([] ++
                                          List.drop (Int.toNat (0 : Int))
                                            (List.take (Int.toNat (↑x_1 : Int)) (insN s x).fst)) =
                                      List.length
                                        ([] ++
                                          List.drop (Int.toNat (0 : Int))
                                            (List.take (Int.toNat (↑x_1 : Int)) (insN s x).fst)) ∧
                                    (List.length
                                            ([] ++
                                              List.drop (Int.toNat (0 : Int))
                                                (List.take (Int.toNat (↑x_1 : Int)) (insN s x).fst)) +
                                          List.length [List.getD s.names (Int.toNat (↑x : Int)) (dfl Ty.str)]) *
                                        (16 : Nat) ≤
                                      (140737488355328 : Nat)) ∧
                                  ((0 : Int) ≤ (↑x_1 : Int) ∧
                                      (↑x_1 : Int) ≤ (↑(List.length (insN s x).fst) : Int) ∧
                                        (↑(List.length (insN s x).fst) : Int) ≤ (↑(List.length (insN s x).fst) : Int)) ∧
                                    (List.length
                                            ([] ++
                                                List.drop (Int.toNat (0 : Int))
                                                  (List.take (Int.toNat (↑x_1 : Int)) (insN s x).fst) ++
                                              [List.getD s.names (Int.toNat (↑x : Int)) (dfl Ty.str)]) =
                                          List.length
                                            ([] ++
                                                List.drop (Int.toNat (0 : Int))
                                                  (List.take (Int.toNat (↑x_1 : Int)) (insN s x).fst) ++
                                              [List.getD s.names (Int.toNat (↑x : Int)) (dfl Ty.str)]) ∧
                                        (List.length
                                                ([] ++
                                                    List.drop (Int.toNat (0 : Int))
                                                      (List.take (Int.toNat (↑x_1 : Int)) (insN s x).fst) ++
                                                  [List.getD s.names (Int.toNat (↑x : Int)) (dfl Ty.str)]) +
                                              List.length
                                                (List.drop (Int.toNat (↑x_1 : Int))
                                                  (List.take (Int.toNat (↑(List.length (insN s x).fst) : Int))
                                                    (insN s x).fst))) *
                                            (16 : Nat) ≤
                                          (140737488355328 : Nat)) ∧
                                      ((0 : Int) ≤ (0 : Int) ∧
                                          (0 : Int) ≤ (↑x_1 : Int) ∧ (↑x_1 : Int) ≤ (↑(List.length (insN s x).snd) : Int)) ∧
                                        (List.length ([] : List Shape) = List.length ([] : List Shape) ∧
                                            (List.length ([] : List Shape) +
                                                  List.length
                                                    (List.drop (Int.toNat (0 : Int))
                                                      (List.take (Int.toNat (↑x_1 : Int)) (insN s x).snd))) *
                                                (88 : Nat) ≤
                                              (140737488355328 : Nat)) ∧
                                          (List.length
                                                  ([] ++
                                                    List.drop (Int.toNat (0 : Int))
                                                      (List.take (Int.toNat (↑x_1 : Int)) (insN s x).snd)) =
                                                List.length
                                                  ([] ++
                                                    List.drop (Int.toNat (0 : Int))
                                                      (List.take (Int.toNat (↑x_1 : Int)) (insN s x).snd)) ∧
                                              (List.length
                                                      ([] ++
                                                        List.drop (Int.toNat (0 : Int))
                                                          (List.take (Int.toNat (↑x_1 : Int)) (insN s x).snd)) +
                                                    List.length
                                                      [sortedS
                                                          (List.getD s.parts (Int.toNat (↑x : Int))
                                                            (dfl (Ty.st SN.shape)))]) *
                                                  (88 : Nat) ≤
                                                (140737488355328 : Nat)) ∧
                                            ((0 : Int) ≤ (↑x_1 : Int) ∧
                                                (↑x_1 : Int) ≤ (↑(List.length (insN s x).snd) : Int) ∧
                                                  (↑(List.length (insN s x).snd) : Int) ≤
                                                    (↑(List.length (insN s x).snd) : Int)) ∧
                                              (List.length
                                                      ([] ++
                                                          List.drop (Int.toNat (0 : Int))
                                                            (List.take (Int.toNat (↑x_1 : Int)) (insN s x).snd) ++
                                                        [sortedS
                                                            (List.getD s.parts (Int.toNat (↑x : Int))
                                                              (dfl (Ty.st SN.shape)))]) =
                                                    List.length
                                                      ([] ++
                                                          List.drop (Int.toNat (0 : Int))
                                                            (List.take (Int.toNat (↑x_1 : Int)) (insN s x).snd) ++
                                                        [sortedS
                                                            (List.getD s.parts (Int.toNat (↑x : Int))
                                                              (dfl (Ty.st SN.shape)))]) ∧
                                                  (List.length
                                                          ([] ++
                                                              List.drop (Int.toNat (0 : Int))
                                                                (List.take (Int.toNat (↑x_1 : Int)) (insN s x).snd) ++
                                                            [sortedS
                                                                (List.getD s.parts (Int.toNat (↑x : Int))
                                                                  (dfl (Ty.st SN.shape)))]) +
                                                        List.length
                                                          (List.drop (Int.toNat (↑x_1 : Int))
                                                            (List.take (Int.toNat (↑(List.length (insN s x).snd) : Int))
                                                              (insN s x).snd))) *
                                                      (88 : Nat) ≤
                                                    (140737488355328 : Nat)) ∧
                                                inR IntKind.i64 ((↑x : Int) + (1 : Int)) ∧
                                                  ∃ (y : Nat),
                                                    y ≤ List.length s.parts ∧
                                                      List.length s.parts - y < List.length s.parts - x ∧
                                                        (↑x : Int) + (1 : Int) = (↑y : Int) ∧
                                                          s = s ∧
                                                            s.kind = s.kind ∧
                                                              s.pkg = s.pkg ∧
                                                                s.name = s.name ∧
                                                                  [] ++
                                                                            List.drop (Int.toNat (0 : Int))
                                                                              (List.take (Int.toNat (↑x_1 : Int))
                                                                                (insN s x).fst) ++
                                                                          [List.getD s.names (Int.toNat (↑x : Int))
                                                                              (dfl Ty.str)] ++
                                                                        List.drop (Int.toNat (↑x_1 : Int))
                                                                          (List.take
                                                                            (Int.toNat
                                                                              (↑(List.length (insN s x).fst) : Int))
                                                                            (insN s x).fst) =
                                                                      (insN s y).fst ∧
                                                                    [] ++
                                                                              List.drop (Int.toNat (0 : Int))
                                                                                (List.take (Int.toNat (↑x_1 : Int))
                                                                                  (insN s x).snd) ++
                                                                            [sortedS
                                                                                (List.getD s.parts (Int.toNat (↑x : Int))
                                                                                  (dfl (Ty.st SN.shape)))] ++
                                                                          List.drop (Int.toNat (↑x_1 : Int))
                                                                            (List.take
                                                                              (Int.toNat
                                                                                (↑(List.length (insN s x).snd) : Int))
                                                                              (insN s x).snd) =
                                                                        (insN s y).snd ∧
                                                                      s = s ∧
                                                                        (0 : Int) = (0 : Int) ∧
                                                                          noOf UInt8 = noOf UInt8 ∧
                                                                            noOf UInt8 = noOf UInt8 ∧ True
          else
            True ∧
              s.kind = (sortedS s).kind ∧
                s.pkg = (sortedS s).pkg ∧
                  s.name = (sortedS s).name ∧ (insN s x).fst = (sortedS s).names ∧ (insN s x).snd = (sortedS s).parts ∧ True := by
  have ln := hs.parts.len
  have hz := sz_eq s
  have hll := szL_len s.parts
  have hor : orderly s = true ∧ allL orderly s.parts = true := by rw [allS_eq] at ho; simpa using ho
  have hl : s.names.length = s.parts.length ∧ s.names.Nodup := by
    have := hor.1; unfold orderly at this; simpa [h0] using this
  simp only [Int.toNat_natCast, Int.toNat_zero, List.drop_zero, List.nil_append, List.length_nil, List.length_singleton, List.take_length, eq_self, true_and, and_true]
  refine ⟨⟨0, Nat.zero_le _, rfl, rfl, rfl⟩, ?_⟩
  rintro k hk0
  refine ite_intro (fun h => ?_) (fun h => ?_)
  · replace h := of_decide_eq_true h
    have hk : k < s.parts.length := by omega
    have hm := getD_mem s.parts k (dfl (.st .shape)) hk
    have hm2 := sz_mem hm
    refine ⟨by omega, ⟨by omega, allL_mem hor.2 hm⟩, ?_⟩
    have hpos := List.length_pos_iff.2 h0
    rw [if_neg (fun e => by have := of_decide_eq_true e; omega)]
    obtain ⟨la, lb⟩ := insN_len s hl.1 k hk0
    have hs1 := insN_succ s k hl.1 hk (dfl (.st .shape))
    refine ⟨⟨0, ⟨Nat.zero_le _, by simp⟩, rfl⟩, ?_⟩
    rintro j ⟨j1, j2⟩
    have out : placeOf (insN s k).fst (s.names.getD k (dfl Ty.str)) = j → ((0 : Int) ≤ 0 ∧ (0 : Int) ≤ j ∧ (j : Int) ≤ ((insN s k).fst.length : Int)) ∧ (0 + ((insN s k).fst.take j).length) * 16 ≤ 140737488355328 ∧ ((0 : Int) ≤ k ∧ (k : Int) < (s.names.length : Int)) ∧
        (((insN s k).fst.take j).length + 1) * 16 ≤ 140737488355328 ∧ ((0 : Int) ≤ j ∧ (j : Int) ≤ ((insN s k).fst.length : Int) ∧ ((insN s k).fst.length : Int) ≤ ((insN s k).fst.length : Int)) ∧
        (((insN s k).fst.take j ++ [(s.names.getD k (dfl Ty.str))]).length + ((insN s k).fst.drop j).length) * 16 ≤ 140737488355328 ∧ ((0 : Int) ≤ 0 ∧ (0 : Int) ≤ j ∧ (j : Int) ≤ ((insN s k).snd.length : Int)) ∧
        (0 + ((insN s k).snd.take j).length) * 88 ≤ 140737488355328 ∧ (((insN s k).snd.take j).length + 1) * 88 ≤ 140737488355328 ∧ ((0 : Int) ≤ j ∧ (j : Int) ≤ ((insN s k).snd.length : Int) ∧ ((insN s k).snd.length : Int) ≤ ((insN s k).snd.length : Int)) ∧
        (((insN s k).snd.take j ++ [(sortedS (s.parts.getD k (dfl (Ty.st SN.shape))))]).length + ((insN s k).snd.drop j).length) * 88 ≤ 140737488355328 ∧ inR IntKind.i64 ((k : Int) + 1) ∧
        ∃ y : Nat, y ≤ s.parts.length ∧ s.parts.length - y < s.parts.length - k ∧ (k : Int) + 1 = (y : Int) ∧ (insN s k).fst.take j ++ [(s.names.getD k (dfl Ty.str))] ++ (insN s k).fst.drop j = (insN s y).fst ∧ (insN s k).snd.take j ++ [(sortedS (s.parts.getD k (dfl (Ty.st SN.shape))))] ++ (insN s k).snd.drop j = (insN s y).snd := by
      intro hp
      have hp' : placeOf (insN s k).fst (s.names.getD k []) = j := hp
      have e1 : ((insN s k).fst.take j).length = j := by rw [List.length_take]; omega
      have e2 : ((insN s k).fst.drop j).length = (insN s k).fst.length - j := List.length_drop
      have e3 : ((insN s k).snd.take j).length = j := by rw [List.length_take]; omega
      have e4 : ((insN s k).snd.drop j).length = (insN s k).snd.length - j := List.length_drop
      refine ⟨by omega, by omega, by omega, by omega, by omega, ?_, by omega, by omega, by omega, by omega, ?_, inR_len hk ln, k + 1, by omega, by omega, by omega, ?_, ?_⟩
      · rw [List.length_append, e1, e2, List.length_singleton]; omega
      · rw [List.length_append, e3, e4, List.length_singleton]; omega
      · rw [hs1, hp']; rfl
      · rw [hs1, hp']; rfl
    refine ite_intro (fun a => ?_) (fun a => ?_)
    · replace a := of_decide_eq_true a
      have hj : j < (insN s k).fst.length := by omega
      rw [drop_getD (insN s k).fst j (dfl .str) hj] at j2
      simp only [placeOf] at j2
      refine ⟨by omega, by omega, ite_intro (fun b => ?_) (fun b => ?_)⟩
      · rw [if_pos b] at j2
        exact ⟨inR_i64 (by omega) (by omega), j + 1, ⟨by omega, by omega⟩, by omega, by omega⟩
      · rw [if_neg b] at j2
        exact out (by omega)
    · replace a : ¬ ((j : Int) < ((insN s k).fst.length : Int)) := fun e => a (decide_eq_true e)
      have e : j = (insN s k).fst.length := by omega
      have e0 : (insN s k).fst.drop j = [] := by rw [e]; exact List.drop_length
      rw [e0] at j2
      simp only [placeOf] at j2
      exact out (by omega)
  · replace h : ¬ ((k : Int) < (s.parts.length : Int)) := fun e => h (decide_eq_true e)
    have e : k = s.parts.length := by omega
    subst e
    obtain ⟨d1, d2⟩ := insN_done s hl.1 hl.2 h0
    refine ⟨?_, ?_, ?_, d1, d2⟩ <;> (obtain ⟨k, p, m, ns, ps⟩ := s; rfl)
theorem vc_rSame (a b : Shape)  :
    if decide (checkS a = (0 : Int)) = true then
      if decide (checkS b = (0 : Int)) = true then
        (sz a ≤ (400 : Nat) ∧ allS orderly a = true) ∧
          (sz b ≤ (400 : Nat) ∧ allS orderly b = true) ∧
            sz (sortedS a) ≤ (400 : Nat) ∧ True ∧ eqS (sortedS a) (sortedS b) = sameS a b ∧ True
      else True ∧ false = sameS a b ∧ True
    else True ∧ false = sameS a b ∧ True := by
  unfold sameS
  by_cases h : checkS a = 0
  · by_cases h' : checkS b = 0
    · rw [if_pos (by simp [h]), if_pos (by simp [h'])]
      refine ⟨⟨(checkS_zero h).1, checkS_orderly h⟩, ⟨(checkS_zero h').1, checkS_orderly h'⟩, by rw [sz_sorted]; exact (checkS_zero h).1, trivial, by simp [h, h'], trivial⟩
    · rw [if_pos (by simp [h]), if_neg (by simp [h'])]; exact ⟨trivial, by simp [h'], trivial⟩
  · rw [if_neg (by simp [h])]; exact ⟨trivial, by simp [h], trivial⟩
theorem vc_Under (n : Nat) (a b : Shape) (ha : Wf (.st .shape) a) (hb : Wf (.st .shape) b) (ho : (allS fitsF a = true ∧ allS fitsF b = true ∧ sz a + sz b ≤ n + 1)) :
    if (!decide (a.kind = b.kind)) = true then True ∧ false = under (n + (1 : Nat)) a b ∧ True
    else
      if (!decide (a.pkg = b.pkg)) = true then True ∧ false = under (n + (1 : Nat)) a b ∧ True
      else
        if (!decide (a.name = b.name)) = true then True ∧ false = under (n + (1 : Nat)) a b ∧ True
        else
          if decide (a.kind = (6 : Int)) = true then
            (∃ (x : Nat),
                (x ≤ List.length b.names ∧
                    under (n + (1 : Nat)) a b =
                      withinL (fun (p x : Shape) ↦ under n x p) a (List.drop x b.names) (List.drop x b.parts)) ∧
                  (0 : Int) = (↑x : Int) ∧ a = a ∧ b = b ∧ false = false ∧ true = true ∧ a = a ∧ b = b ∧ True) ∧
              ∀ (x : Nat),
                x ≤ List.length b.names ∧
                    under (n + (1 : Nat)) a b =
                      withinL (fun (p x : Shape) ↦ under n x p) a (List.drop x b.names) (List.drop x b.parts) →
                  if decide ((↑x : Int) < (↑(List.length b.names) : Int)) = true then
                    ((0 : Int) ≤ (↑x : Int) ∧ (↑x : Int) < (↑(List.length b.names) : Int)) ∧
                      List.length a.names = List.length a.parts ∧
                        if (!Option.isSome (partOf a (List.getD b.names (Int.toNat (↑x : Int)) (dfl Ty.str)))) = true then
                          True ∧ false = under (n + (1 : Nat)) a b ∧ True
                        else
                          ((0 : Int) ≤ (↑x : Int) ∧ (↑x : Int) < (↑(List.length b.parts) : Int)) ∧
                            (allS fitsF
                                    (Option.getD (partOf a (List.getD b.names (Int.toNat (↑x : Int)) (dfl Ty.str))) dflS) =
                                  true ∧
                                allS fitsF (List.getD b.parts (Int.toNat (↑x : Int)) (dfl (Ty.st SN.shape))) = true ∧
                                  sz (Option.getD (partOf a (List.getD b.names (Int.toNat (↑x : Int)) (dfl Ty.str))) dflS) +
                                      sz (List.getD b.parts (Int.toNat (↑x : Int)) (dfl (Ty.st SN.shape))) ≤
                                    n) ∧
                              if
                                  (!under n
                                        (Option.getD (partOf a (List.getD b.names (Int.toNat (↑x : Int)) (dfl Ty.str)))
                                          dflS)
                                        (List.getD b.parts (Int.toNat (↑x : Int)) (dfl (Ty.st SN.shape)))) =
                                    true then
                                True ∧ false = under (n + (1 : Nat)) a b ∧ True
                              else
                                inR IntKind.i64 ((↑x : Int) + (1 : Int)) ∧
                                  ∃ (y : Nat),
                                    (y ≤ List.length b.names ∧
                                        under (n + (1 : Nat)) a b =
                                          withinL (fun (p x : Shape) ↦ under n x p) a (List.drop y b.names)
                                            (List.drop y b.parts)) ∧
                                      List.length b.names - y < List.length b.names - x ∧
                                        (↑x : Int) + (1 : Int) = (↑y : Int) ∧
                                          a = a ∧ b = b ∧ false = false ∧ true = true ∧ a = a ∧ b = b ∧ True
                  else True ∧ true = under (n + (1 : Nat)) a b ∧ True
          else
            if decide (a.kind = (7 : Int)) = true then
              (∃ (x : Nat),
                  (x ≤ List.length a.names ∧
                      under (n + (1 : Nat)) a b = withinL (under n) b (List.drop x a.names) (List.drop x a.parts)) ∧
                    (0 : Int) = (↑x : Int) ∧
                      a = a ∧ b = b ∧ false = false ∧ false = false ∧ true = true ∧ a = a ∧ b = b ∧ True) ∧
                ∀ (x : Nat),
                  x ≤ List.length a.names ∧
                      under (n + (1 : Nat)) a b = withinL (under n) b (List.drop x a.names) (List.drop x a.parts) →
                    if decide ((↑x : Int) < (↑(List.length a.names) : Int)) = true then
                      ((0 : Int) ≤ (↑x : Int) ∧ (↑x : Int) < (↑(List.length a.names) : Int)) ∧
                        List.length b.names = List.length b.parts ∧
                          if (!Option.isSome (partOf b (List.getD a.names (Int.toNat (↑x : Int)) (dfl Ty.str)))) = true then
                            True ∧ false = under (n + (1 : Nat)) a b ∧ True
                          else
                            ((0 : Int) ≤ (↑x : Int) ∧ (↑x : Int) < (↑(List.length a.parts) : Int)) ∧
                              (allS fitsF (List.getD a.parts (Int.toNat (↑x : Int)) (dfl (Ty.st SN.shape))) = true ∧
                                  allS fitsF
                                        (Option.getD (partOf b (List.getD a.names (Int.toNat (↑x : Int)) (dfl Ty.str)))
                                          dflS) =
                                      true ∧
                                    sz (List.getD a.parts (Int.toNat (↑x : Int)) (dfl (Ty.st SN.shape))) +
                                        sz
                                          (Option.getD (partOf b (List.getD a.names (Int.toNat (↑x : Int)) (dfl Ty.str)))
                                            dflS) ≤
                                      n) ∧
                                if
                                    (!under n (List.getD a.parts (Int.toNat (↑x : Int)) (dfl (Ty.st SN.shape)))
                                          (Option.getD (partOf b (List.getD a.names (Int.toNat (↑x : Int)) (dfl Ty.str)))
                                            dflS)) =
                                      true then
                                  True ∧ false = under (n + (1 : Nat)) a b ∧ True
                                else
                                  inR IntKind.i64 ((↑x : Int) + (1 : Int)) ∧
                                    ∃ (y : Nat),
                                      (y ≤ List.length a.names ∧
                                          under (n + (1 : Nat)) a b =
                                            withinL (under n) b (List.drop y a.names) (List.drop y a.parts)) ∧
                                        List.length a.names - y < List.length a.names - x ∧
                                          (↑x : Int) + (1 : Int) = (↑y : Int) ∧
                                            a = a ∧
                                              b = b ∧ false = false ∧ false = false ∧ true = true ∧ a = a ∧ b = b ∧ True
                    else True ∧ true = under (n + (1 : Nat)) a b ∧ True
            else
              if (!decide ((↑(List.length a.parts) : Int) = (↑(List.length b.parts) : Int))) = true then
                True ∧ false = under (n + (1 : Nat)) a b ∧ True
              else
                (∃ (x : Nat),
                    (x ≤ List.length a.parts ∧
                        List.length a.parts = List.length b.parts ∧
                          under (n + (1 : Nat)) a b = funL (under n) (List.drop x a.parts) (List.drop x b.parts)) ∧
                      (0 : Int) = (↑x : Int) ∧
                        a = a ∧
                          b = b ∧ false = false ∧ false = false ∧ false = false ∧ false = false ∧ a = a ∧ b = b ∧ True) ∧
                  ∀ (x : Nat),
                    x ≤ List.length a.parts ∧
                        List.length a.parts = List.length b.parts ∧
                          under (n + (1 : Nat)) a b = funL (under n) (List.drop x a.parts) (List.drop x b.parts) →
                      if decide ((↑x : Int) < (↑(List.length a.parts) : Int)) = true then
                        inR IntKind.i64 ((↑(List.length a.parts) : Int) - (1 : Int)) ∧
                          if decide ((↑x : Int) = (↑(List.length a.parts) : Int) - (1 : Int)) = true then
                            ((0 : Int) ≤ (↑x : Int) ∧ (↑x : Int) < (↑(List.length a.parts) : Int)) ∧
                              ((0 : Int) ≤ (↑x : Int) ∧ (↑x : Int) < (↑(List.length b.parts) : Int)) ∧
                                (allS fitsF (List.getD a.parts (Int.toNat (↑x : Int)) (dfl (Ty.st SN.shape))) = true ∧
                                    allS fitsF (List.getD b.parts (Int.toNat (↑x : Int)) (dfl (Ty.st SN.shape))) = true ∧
                                      sz (List.getD a.parts (Int.toNat (↑x : Int)) (dfl (Ty.st SN.shape))) +
                                          sz (List.getD b.parts (Int.toNat (↑x : Int)) (dfl (Ty.st SN.shape))) ≤
                                        n) ∧
                                  if
                                      (!under n (List.getD a.parts (Int.toNat (↑x : Int)) (dfl (Ty.st SN.shape)))
                                            (List.getD b.parts (Int.toNat (↑x : Int)) (dfl (Ty.st SN.shape)))) =
                                        true then
                                    True ∧ false = under (n + (1 : Nat)) a b ∧ True
                                  else
                                    inR IntKind.i64 ((↑(List.length a.parts) : Int) - (1 : Int)) ∧
                                      if decide ((↑x : Int) < (↑(List.length a.parts) : Int) - (1 : Int)) = true then
                                        ((0 : Int) ≤ (↑x : Int) ∧ (↑x : Int) < (↑(List.length b.parts) : Int)) ∧
                                          ((0 : Int) ≤ (↑x : Int) ∧ (↑x : Int) < (↑(List.length a.parts) : Int)) ∧
                                            (allS fitsF (List.getD b.parts (Int.toNat (↑x : Int)) (dfl (Ty.st SN.shape))) =
                                                  true ∧
                                                allS fitsF
                                                      (List.getD a.parts (Int.toNat (↑x : Int)) (dfl (Ty.st SN.shape))) =
                                                    true ∧
                                                  sz (List.getD b.parts (Int.toNat (↑x : Int)) (dfl (Ty.st SN.shape))) +
                                                      sz (List.getD a.parts (Int.toNat (↑x : Int)) (dfl (Ty.st SN.shape))) ≤
                                                    n) ∧
                                              if
                                                  (!under n
                                                        (List.getD b.parts (Int.toNat (↑x : Int)) (dfl (Ty.st SN.shape)))
                                                        (List.getD a.parts (Int.toNat (↑x : Int)) (dfl (Ty.st SN.shape)))) =
                                                    true then
                                                True ∧ false = under (n + (1 : Nat)) a b ∧ True
                                              else
                                                inR IntKind.i64 ((↑x : Int) + (1 : Int)) ∧
                                                  ∃ (y : Nat),
                                                    (y ≤ List.length a.parts ∧
                                                        List.length a.parts = List.length b.parts ∧
                                                          under (n + (1 : Nat)) a b =
                                                            funL (under n) (List.drop y a.parts) (List.drop y b.parts)) ∧
                                                      List.length a.parts - y < List.length a.parts - x ∧
                                                        (↑x : Int) + (1 : Int) = (↑y : Int) ∧
                                                          a = a ∧
                                                            b = b ∧
                                                              false = false ∧
                                                                false = false ∧
                                                                  false = false ∧ false = false ∧ a = a ∧ b = b ∧ True
                                      else
                                        inR IntKind.i64 ((↑x : Int) + (1 : Int)) ∧
                                          ∃ (y : Nat),
                                            (y ≤ List.length a.parts ∧
                                                List.length a.parts = List.length b.parts ∧
                                                  under (n + (1 : Nat)) a b =
                                                    funL (under n) (List.drop y a.parts) (List.drop y b.parts)) ∧
                                              List.length a.parts - y < List.length a.parts - x ∧
                                                (↑x : Int) + (1 : Int) = (↑y : Int) ∧
                                                  a = a ∧
                                                    b = b ∧
                                                      false = false ∧
                                                        false = false ∧ false = false ∧ false = false ∧ a = a ∧ b = b ∧ True
                          else
                            inR IntKind.i64 ((↑(List.length a.parts) : Int) - (1 : Int)) ∧
                              if decide ((↑x : Int) < (↑(List.length a.parts) : Int) - (1 : Int)) = true then
                                ((0 : Int) ≤ (↑x : Int) ∧ (↑x : Int) < (↑(List.length b.parts) : Int)) ∧
                                  ((0 : Int) ≤ (↑x : Int) ∧ (↑x : Int) < (↑(List.length a.parts) : Int)) ∧
                                    (allS fitsF (List.getD b.parts (Int.toNat (↑x : Int)) (dfl (Ty.st SN.shape))) = true ∧
                                        allS fitsF (List.getD a.parts (Int.toNat (↑x : Int)) (dfl (Ty.st SN.shape))) =
                                            true ∧
                                          sz (List.getD b.parts (Int.toNat (↑x : Int)) (dfl (Ty.st SN.shape))) +
                                              sz (List.getD a.parts (Int.toNat (↑x : Int)) (dfl (Ty.st SN.shape))) ≤
                                            n) ∧
                                      if
                                          (!under n (List.getD b.parts (Int.toNat (↑x : Int)) (dfl (Ty.st SN.shape)))
                                                (List.getD a.parts (Int.toNat (↑x : Int)) (dfl (Ty.st SN.shape)))) =
                                            true then
                                        True ∧ false = under (n + (1 : Nat)) a b ∧ True
                                      else
                                        inR IntKind.i64 ((↑x : Int) + (1 : Int)) ∧
                                          ∃ (y : Nat),
                                            (y ≤ List.length a.parts ∧
                                                List.length a.parts = List.length b.parts ∧
                                                  under (n + (1 : Nat)) a b =
                                                    funL (under n) (List.drop y a.parts) (List.drop y b.parts)) ∧
                                              List.length a.parts - y < List.length a.parts - x ∧
                                                (↑x : Int) + (1 : Int) = (↑y : Int) ∧
                                                  a = a ∧
                                                    b = b ∧
                                                      false = false ∧
                                                        false = false ∧ false = false ∧ false = false ∧ a = a ∧ b = b ∧ True
                              else
                                inR IntKind.i64 ((↑x : Int) + (1 : Int)) ∧
                                  ∃ (y : Nat),
                                    (y ≤ List.length a.parts ∧
                                        List.length a.parts = List.length b.parts ∧
                                          under (n + (1 : Nat)) a b =
                                            funL (under n) (List.drop y a.parts) (List.drop y b.parts)) ∧
                                      List.length a.parts - y < List.length a.parts - x ∧
                                        (↑x : Int) + (1 : Int) = (↑y : Int) ∧
                                          a = a ∧
                                            b = b ∧
                                              false = false ∧
                                                false = false ∧ false = false ∧ false = false ∧ a = a ∧ b = b ∧ True
                      else True ∧ true = under (n + (1 : Nat)) a b ∧ True := by
  obtain ⟨oa, ob, oz⟩ := ho
  obtain ⟨fa, la⟩ := allS_at oa
  obtain ⟨fb, lb⟩ := allS_at ob
  have za := sz_eq a
  have zb := sz_eq b
  have lna := ha.names.len
  have lnb := hb.names.len
  have lpa := ha.parts.len
  simp only [Int.toNat_natCast, eq_self, true_and, and_true]
  refine ite_intro (fun h => ?_) (fun h1 => ite_intro (fun h => ?_) (fun h2 => ite_intro (fun h => ?_) (fun h3 => ?_)))
  · simp only [Bool.not_eq_true'] at h; simp only [under, h, Bool.false_and]
  · simp only [Bool.not_eq_true'] at h; simp only [under, h, Bool.and_false, Bool.false_and]
  · simp only [Bool.not_eq_true'] at h; simp only [under, h, Bool.and_false, Bool.false_and]
  have hU : under (n + 1) a b = (if a.kind = 6 then withinL (fun p x => under n x p) a b.names b.parts
      else if a.kind = 7 then withinL (under n) b a.names a.parts else funL (under n) a.parts b.parts) := by
    simp only [Bool.not_eq_true, Bool.not_eq_false'] at h1 h2 h3
    simp only [under, h1, h2, h3, Bool.true_and]
  have hkk : a.kind = b.kind := by simpa using h1
  refine ite_intro (fun h6 => ?_) (fun h6 => ite_intro (fun h7 => ?_) (fun h7 => ?_))
  · replace h6 := of_decide_eq_true h6
    obtain ⟨na, _⟩ := fits_named fa (Or.inl h6)
    obtain ⟨nb, _⟩ := fits_named fb (Or.inl (hkk ▸ h6))
    have hw : under (n + 1) a b = withinL (fun p x => under n x p) a b.names b.parts := by rw [hU]; simp only [h6, if_true]
    refine ⟨⟨0, ⟨Nat.zero_le _, by simpa using hw⟩, rfl⟩, ?_⟩
    rintro k ⟨k1, k2⟩
    refine ite_intro (fun h => ?_) (fun h => ?_)
    · replace h := of_decide_eq_true h
      have hk : k < b.names.length := by omega
      have hk' : k < b.parts.length := by omega
      rw [drop_getD b.names k (dfl .str) hk, drop_getD b.parts k (dfl (.st .shape)) hk'] at k2
      simp only [withinL] at k2
      refine ⟨by omega, by omega, ?_⟩
      cases hp : partOf a (b.names.getD k (dfl .str)) with
      | none =>
        rw [hp] at k2
        simp only [Option.isSome_none, Bool.not_false, if_true]
        rw [k2]; rfl
      | some x =>
        rw [hp] at k2
        simp only at k2
        simp only [Option.isSome_some, Bool.not_true, Bool.false_eq_true, if_false, Option.getD_some]
        have m1 := (partOf_mem hp).2
        have m2 := getD_mem b.parts k (dfl (.st .shape)) hk'
        have z1 := sz_mem m1
        have z2 := sz_mem m2
        refine ⟨by omega, ⟨allL_mem la m1, allL_mem lb m2, by omega⟩, ?_⟩
        refine ite_intro (fun c => ?_) (fun c => ?_)
        · rw [Bool.not_eq_true'] at c
          rw [k2, c]; rfl
        · rw [Bool.not_eq_true', Bool.not_eq_false] at c
          rw [c, Bool.true_and] at k2
          exact ⟨inR_len hk lnb, k + 1, ⟨by omega, k2⟩, by omega, by omega⟩
    · replace h : ¬ ((k : Int) < (b.names.length : Int)) := fun e => h (decide_eq_true e)
      have e : k = b.names.length := by omega
      subst e
      rw [k2, List.drop_length]; simp [withinL]
  · replace h6 : ¬ a.kind = 6 := fun e => h6 (decide_eq_true e)
    replace h7 := of_decide_eq_true h7
    obtain ⟨na, _⟩ := fits_named fa (Or.inr h7)
    obtain ⟨nb, _⟩ := fits_named fb (Or.inr (hkk ▸ h7))
    have hw : under (n + 1) a b = withinL (under n) b a.names a.parts := by rw [hU]; rw [if_neg h6, if_pos h7]
    refine ⟨⟨0, ⟨Nat.zero_le _, by simpa using hw⟩, rfl⟩, ?_⟩
    rintro k ⟨k1, k2⟩
    refine ite_intro (fun h => ?_) (fun h => ?_)
    · replace h := of_decide_eq_true h
      have hk : k < a.names.length := by omega
      have hk' : k < a.parts.length := by omega
      rw [drop_getD a.names k (dfl .str) hk, drop_getD a.parts k (dfl (.st .shape)) hk'] at k2
      simp only [withinL] at k2
      refine ⟨by omega, by omega, ?_⟩
      cases hp : partOf b (a.names.getD k (dfl .str)) with
      | none =>
        rw [hp] at k2
        simp only [Option.isSome_none, Bool.not_false, if_true]
        rw [k2]; rfl
      | some x =>
        rw [hp] at k2
        simp only at k2
        simp only [Option.isSome_some, Bool.not_true, Bool.false_eq_true, if_false, Option.getD_some]
        have m1 := (partOf_mem hp).2
        have m2 := getD_mem a.parts k (dfl (.st .shape)) hk'
        have z1 := sz_mem m1
        have z2 := sz_mem m2
        refine ⟨by omega, ⟨allL_mem la m2, allL_mem lb m1, by omega⟩, ?_⟩
        refine ite_intro (fun c => ?_) (fun c => ?_)
        · rw [Bool.not_eq_true'] at c
          rw [k2, c]; rfl
        · rw [Bool.not_eq_true', Bool.not_eq_false] at c
          rw [c, Bool.true_and] at k2
          exact ⟨inR_len hk lna, k + 1, ⟨by omega, k2⟩, by omega, by omega⟩
    · replace h : ¬ ((k : Int) < (a.names.length : Int)) := fun e => h (decide_eq_true e)
      have e : k = a.names.length := by omega
      subst e
      rw [k2, List.drop_length]; simp [withinL]
  · replace h6 : ¬ a.kind = 6 := fun e => h6 (decide_eq_true e)
    replace h7 : ¬ a.kind = 7 := fun e => h7 (decide_eq_true e)
    have hw : under (n + 1) a b = funL (under n) a.parts b.parts := by rw [hU, if_neg h6, if_neg h7]
    refine ite_intro (fun h => ?_) (fun h => ?_)
    · have : a.parts.length ≠ b.parts.length := by intro e; rw [e] at h; simp at h
      rw [hw, funL_len this]
    · have hl : a.parts.length = b.parts.length := by simp at h; omega
      refine ⟨⟨0, ⟨Nat.zero_le _, hl, by simpa using hw⟩, rfl⟩, ?_⟩
      rintro k ⟨k1, _, k3⟩
      refine ite_intro (fun h => ?_) (fun h => ?_)
      · replace h := of_decide_eq_true h
        have hk : k < a.parts.length := by omega
        have hk' : k < b.parts.length := by omega
        have m1 := getD_mem a.parts k (dfl (.st .shape)) hk
        have m2 := getD_mem b.parts k (dfl (.st .shape)) hk'
        have z1 := sz_mem m1
        have z2 := sz_mem m2
        have f1 := allL_mem la m1
        have f2 := allL_mem lb m2
        rw [drop_getD a.parts k (dfl (.st .shape)) hk, drop_getD b.parts k (dfl (.st .shape)) hk'] at k3
        have hi : inR IntKind.i64 ((a.parts.length : Int) - 1) := inR_i64 (by omega) (by omega)
        refine ⟨hi, ite_intro (fun c => ?_) (fun c => ?_)⟩
        · replace c := of_decide_eq_true c
          have ea : a.parts.drop (k + 1) = [] := List.drop_eq_nil_of_le (by omega)
          have eb : b.parts.drop (k + 1) = [] := List.drop_eq_nil_of_le (by omega)
          rw [ea, eb] at k3
          simp only [funL] at k3
          refine ⟨by omega, by omega, ⟨f1, f2, by omega⟩, ite_intro (fun d => ?_) (fun d => ?_)⟩
          · rw [Bool.not_eq_true'] at d
            rw [k3, d]
          · rw [Bool.not_eq_true', Bool.not_eq_false] at d
            rw [if_neg (fun e => by have := of_decide_eq_true e; omega)]
            exact ⟨hi, inR_len hk lpa, k + 1, ⟨by omega, hl, by rw [k3, d, ea, eb]; rfl⟩, by omega, by omega⟩
        · replace c : ¬ (k : Int) = (a.parts.length : Int) - 1 := fun e => c (decide_eq_true e)
          have hr : 0 < (a.parts.drop (k + 1)).length := by rw [List.length_drop]; omega
          have hrl : (a.parts.drop (k + 1)).length = (b.parts.drop (k + 1)).length := by rw [List.length_drop, List.length_drop]; omega
          rw [funL_cons hr hrl] at k3
          rw [if_pos (decide_eq_true (show (k : Int) < (a.parts.length : Int) - 1 by omega))]
          refine ⟨hi, by omega, by omega, ⟨f2, f1, by omega⟩, ite_intro (fun d => ?_) (fun d => ?_)⟩
          · rw [Bool.not_eq_true'] at d
            rw [k3, d]; rfl
          · rw [Bool.not_eq_true', Bool.not_eq_false] at d
            rw [d, Bool.true_and] at k3
            exact ⟨inR_len hk lpa, k + 1, ⟨by omega, hl, k3⟩, by omega, by omega⟩
      · replace h : ¬ ((k : Int) < (a.parts.length : Int)) := fun e => h (decide_eq_true e)
        have e : k = a.parts.length := by omega
        subst e
        rw [k3, List.drop_length, hl, List.drop_length]; rfl
theorem vc_rBelow (a b : Shape)  :
    if decide (checkS a = (0 : Int)) = true then
      if decide (checkS b = (0 : Int)) = true then
        (allS fitsF a = true ∧ allS fitsF b = true ∧ sz a + sz b ≤ (800 : Nat)) ∧
          True ∧ under (800 : Nat) a b = belowS a b ∧ True
      else True ∧ false = belowS a b ∧ True
    else True ∧ false = belowS a b ∧ True := by
  unfold belowS
  by_cases h : checkS a = 0
  · by_cases h' : checkS b = 0
    · rw [if_pos (by simp [h]), if_pos (by simp [h'])]
      obtain ⟨a1, _, a3⟩ := checkS_zero h
      obtain ⟨b1, _, b3⟩ := checkS_zero h'
      exact ⟨⟨a3, b3, by omega⟩, trivial, by simp [h, h'], trivial⟩
    · rw [if_pos (by simp [h]), if_neg (by simp [h'])]; exact ⟨trivial, by simp [h'], trivial⟩
  · rw [if_neg (by simp [h])]; exact ⟨trivial, by simp [h], trivial⟩
theorem vc_change (old now : List AL.Item) (n : Str)  :
    if (!Option.isSome (itemOf old n)) = true then True ∧ (1 : Int) = changeR old now n ∧ True
    else
      if (!Option.isSome (itemOf now n)) = true then True ∧ (2 : Int) = changeR old now n ∧ True
      else
        if (!decide ((Option.getD (itemOf old n) dflI).kind = (Option.getD (itemOf now n) dflI).kind)) = true then
          True ∧ (3 : Int) = changeR old now n ∧ True
        else
          if (!decide ((Option.getD (itemOf old n) dflI).kind = (1 : Int))) = true then
            if (!decide ((Option.getD (itemOf old n) dflI).kind = (3 : Int))) = true then
              True ∧ (0 : Int) = changeR old now n ∧ True
            else
              if sameS (Option.getD (itemOf old n) dflI).shape (Option.getD (itemOf now n) dflI).shape = true then
                True ∧ (0 : Int) = changeR old now n ∧ True
              else
                if decide ((Option.getD (itemOf old n) dflI).kind = (3 : Int)) = true then
                  if belowS (Option.getD (itemOf now n) dflI).shape (Option.getD (itemOf old n) dflI).shape = true then
                    True ∧ (5 : Int) = changeR old now n ∧ True
                  else True ∧ (4 : Int) = changeR old now n ∧ True
                else True ∧ (4 : Int) = changeR old now n ∧ True
          else
            if sameS (Option.getD (itemOf old n) dflI).shape (Option.getD (itemOf now n) dflI).shape = true then
              True ∧ (0 : Int) = changeR old now n ∧ True
            else
              if decide ((Option.getD (itemOf old n) dflI).kind = (3 : Int)) = true then
                if belowS (Option.getD (itemOf now n) dflI).shape (Option.getD (itemOf old n) dflI).shape = true then
                  True ∧ (5 : Int) = changeR old now n ∧ True
                else True ∧ (4 : Int) = changeR old now n ∧ True
              else True ∧ (4 : Int) = changeR old now n ∧ True := by
  simp only [eq_self, true_and, and_true]
  unfold changeR
  cases ho : itemOf old n with
  | none => simp
  | some x =>
    cases hn : itemOf now n with
    | none => simp
    | some y =>
      simp only [Option.isSome_some, Bool.not_true, Bool.false_eq_true, if_false, Option.getD_some]
      by_cases e1 : x.kind = y.kind <;> by_cases e2 : x.kind = 1 <;> by_cases e3 : x.kind = 3 <;> cases e4 : sameS x.shape y.shape <;> cases e5 : belowS y.shape x.shape
      all_goals
        first | (exfalso; omega) | skip
      all_goals
        first | have q1 := eq_false e1 | have q1 := eq_true e1
        first | have q2 := eq_false e2 | have q2 := eq_true e2
        first | have q3 := eq_false e3 | have q3 := eq_true e3
        clear e1 e2 e3
        simp only [kindF, ne_eq, q1, q2, q3, e4, e5, decide_true, decide_false, Bool.not_true, Bool.not_false, if_true, if_false, Bool.false_eq_true, not_true_eq_false, not_false_eq_true, and_self, or_self, and_true, true_and, and_false, false_and, or_true, true_or, or_false, false_or]
theorem vc_cDiff (old now : List AL.Item) (ho : Wf (.lst (.st .item)) old) (hn : Wf (.lst (.st .item)) now) (hb : old.length + now.length ≤ 1000000) :
    (List.length ([] : List AL.Item) = List.length ([] : List AL.Item) ∧ (List.length ([] : List AL.Item) + List.length old) * (112 : Nat) ≤ (140737488355328 : Nat)) ∧
      (List.length ([] ++ old) = List.length ([] ++ old) ∧
          (List.length ([] ++ old) + List.length now) * (112 : Nat) ≤ (140737488355328 : Nat)) ∧
        List.length ([] ++ old ++ now) ≤ (1000000 : Nat) ∧
          (∃ (x : Nat),
              x ≤ List.length (namesU old now) ∧
                diffGo old now (List.take x (namesU old now)) = [] ∧
                  (0 : Int) = (↑x : Int) ∧
                    old = old ∧
                      now = now ∧
                        ((List.mergeSort (uniq (List.map (fun (x : den (Ty.st SN.item)) ↦ x.name) ([] ++ old ++ now)))
                              fun (x y : Str) ↦ decide (x ≤ y)) =
                            List.mergeSort (uniq (List.map (fun (x : den (Ty.st SN.item)) ↦ x.name) ([] ++ old ++ now)))
                              fun (x y : Str) ↦ decide (x ≤ y)) ∧
                          List.length (diffGo old now (List.take x (namesU old now))) = (0 : Nat) ∧
                            List.length ([] ++ old ++ now) = List.length ([] ++ old ++ now) ∧ True) ∧
            ∀ (x : Nat),
              x ≤ List.length (namesU old now) →
                if
                    decide
                        ((↑x : Int) <
                          (↑(List.length
                                (List.mergeSort
                                  (uniq (List.map (fun (x : den (Ty.st SN.item)) ↦ x.name) ([] ++ old ++ now)))
                                  fun (x y : Str) ↦ decide (x ≤ y))) :
                            Int)) =
                      true then
                  ((0 : Int) ≤ (↑x : Int) ∧
                      (↑x : Int) <
                        (↑(List.length
                              (List.mergeSort (uniq (List.map (fun (x : den (Ty.st SN.item)) ↦ x.name) ([] ++ old ++ now)))
                                fun (x y : Str) ↦ decide (x ≤ y))) :
                          Int)) ∧
                    if
                        (!decide
                              (changeR old now
                                  (List.getD
                                    (List.mergeSort
                                      (uniq (List.map (fun (x : den (Ty.st SN.item)) ↦ x.name) ([] ++ old ++ now)))
                                      fun (x y : Str) ↦ decide (x ≤ y))
                                    (Int.toNat (↑x : Int)) (dfl Ty.str)) =
                                (0 : Int))) =
                          true then
                      ((0 : Int) ≤ (↑x : Int) ∧
                          (↑x : Int) <
                            (↑(List.length
                                  (List.mergeSort
                                    (uniq (List.map (fun (x : den (Ty.st SN.item)) ↦ x.name) ([] ++ old ++ now)))
                                    fun (x y : Str) ↦ decide (x ≤ y))) :
                              Int)) ∧
                        (List.length (diffGo old now (List.take x (namesU old now))) =
                              List.length (diffGo old now (List.take x (namesU old now))) ∧
                            (List.length (diffGo old now (List.take x (namesU old now))) +
                                  List.length
                                    [{
                                        kind :=
                                          changeR old now
                                            (List.getD
                                              (List.mergeSort
                                                (uniq
                                                  (List.map (fun (x : den (Ty.st SN.item)) ↦ x.name) ([] ++ old ++ now)))
                                                fun (x y : Str) ↦ decide (x ≤ y))
                                              (Int.toNat (↑x : Int)) (dfl Ty.str)),
                                        name :=
                                          List.getD
                                            (List.mergeSort
                                              (uniq (List.map (fun (x : den (Ty.st SN.item)) ↦ x.name) ([] ++ old ++ now)))
                                              fun (x y : Str) ↦ decide (x ≤ y))
                                            (Int.toNat (↑x : Int)) (dfl Ty.str) :
                                        Change }]) *
                                (24 : Nat) ≤
                              (140737488355328 : Nat)) ∧
                          inR IntKind.i64 ((↑x : Int) + (1 : Int)) ∧
                            ∃ (y : Nat),
                              y ≤ List.length (namesU old now) ∧
                                List.length (namesU old now) - y < List.length (namesU old now) - x ∧
                                  diffGo old now (List.take x (namesU old now)) ++
                                        [{
                                            kind :=
                                              changeR old now
                                                (List.getD
                                                  (List.mergeSort
                                                    (uniq
                                                      (List.map (fun (x : den (Ty.st SN.item)) ↦ x.name)
                                                        ([] ++ old ++ now)))
                                                    fun (x y : Str) ↦ decide (x ≤ y))
                                                  (Int.toNat (↑x : Int)) (dfl Ty.str)),
                                            name :=
                                              List.getD
                                                (List.mergeSort
                                                  (uniq
                                                    (List.map (fun (x : den (Ty.st SN.item)) ↦ x.name) ([] ++ old ++ now)))
                                                  fun (x y : Str) ↦ decide (x ≤ y))
                                                (Int.toNat (↑x : Int)) (dfl Ty.str) :
                                            Change }] =
                                      diffGo old now (List.take y (namesU old now)) ∧
                                    (↑x : Int) + (1 : Int) = (↑y : Int) ∧
                                      old = old ∧
                                        now = now ∧
                                          ((List.mergeSort
                                                (uniq
                                                  (List.map (fun (x : den (Ty.st SN.item)) ↦ x.name) ([] ++ old ++ now)))
                                                fun (x y : Str) ↦ decide (x ≤ y)) =
                                              List.mergeSort
                                                (uniq
                                                  (List.map (fun (x : den (Ty.st SN.item)) ↦ x.name) ([] ++ old ++ now)))
                                                fun (x y : Str) ↦ decide (x ≤ y)) ∧
                                            List.length
                                                  (diffGo old now (List.take x (namesU old now)) ++
                                                    [{
                                                        kind :=
                                                          changeR old now
                                                            (List.getD
                                                              (List.mergeSort
                                                                (uniq
                                                                  (List.map (fun (x : den (Ty.st SN.item)) ↦ x.name)
                                                                    ([] ++ old ++ now)))
                                                                fun (x y : Str) ↦ decide (x ≤ y))
                                                              (Int.toNat (↑x : Int)) (dfl Ty.str)),
                                                        name :=
                                                          List.getD
                                                            (List.mergeSort
                                                              (uniq
                                                                (List.map (fun (x : den (Ty.st SN.item)) ↦ x.name)
                                                                  ([] ++ old ++ now)))
                                                              fun (x y : Str) ↦ decide (x ≤ y))
                                                            (Int.toNat (↑x : Int)) (dfl Ty.str) :
                                                        Change }]) =
                                                List.length (diffGo old now (List.take y (namesU old now))) ∧
                                              List.length ([] ++ old ++ now) = List.length ([] ++ old ++ now) ∧ True
                    else
                      inR IntKind.i64 ((↑x : Int) + (1 : Int)) ∧
                        ∃ (y : Nat),
                          y ≤ List.length (namesU old now) ∧
                            List.length (namesU old now) - y < List.length (namesU old now) - x ∧
                              diffGo old now (List.take x (namesU old now)) =
                                  diffGo old now (List.take y (namesU old now)) ∧
                                (↑x : Int) + (1 : Int) = (↑y : Int) ∧
                                  old = old ∧
                                    now = now ∧
                                      ((List.mergeSort
                                            (uniq (List.map (fun (x : den (Ty.st SN.item)) ↦ x.name) ([] ++ old ++ now)))
                                            fun (x y : Str) ↦ decide (x ≤ y)) =
                                          List.mergeSort
                                            (uniq (List.map (fun (x : den (Ty.st SN.item)) ↦ x.name) ([] ++ old ++ now)))
                                            fun (x y : Str) ↦ decide (x ≤ y)) ∧
                                        List.length (diffGo old now (List.take x (namesU old now))) =
                                            List.length (diffGo old now (List.take y (namesU old now))) ∧
                                          List.length ([] ++ old ++ now) = List.length ([] ++ old ++ now) ∧ True
                else True ∧ diffGo old now (List.take x (namesU old now)) = diffF old now ∧ True := by
  have hN : (List.mergeSort (uniq (List.map (fun (x : den (Ty.st SN.item)) => x.name) ([] ++ old ++ now))) fun (x y : Str) => decide (x ≤ y)) = namesU old now := rfl
  have hlen := namesU_len old now
  simp only [hN]
  simp only [Int.toNat_natCast, eq_self, true_and, and_true, List.length_nil]
  have hdf : diffF old now = diffGo old now (namesU old now) := rfl
  refine ⟨by omega, by rw [List.length_append, List.length_nil]; omega, by rw [List.length_append, List.length_append, List.length_nil]; omega, ⟨0, Nat.zero_le _, rfl, rfl, rfl⟩, ?_⟩
  rintro k hk
  refine ite_intro (fun h => ?_) (fun h => ?_)
  · replace h := of_decide_eq_true h
    have hk3 : k < (namesU old now).length := by omega
    have hmem := getD_mem (namesU old now) k (dfl .str) hk3
    have ht := take_getD (namesU old now) k (dfl .str) hk3
    have hgl := diffGo_len old now ((namesU old now).take k)
    have htl : ((namesU old now).take k).length = k := by rw [List.length_take]; omega
    have hx : diffGo old now ((namesU old now).take (k + 1)) = diffGo old now ((namesU old now).take k) ++ diffGo old now [(namesU old now).getD k (dfl .str)] := by rw [ht, diffGo_append]
    simp only [changeR_F hmem]
    refine ⟨by omega, ite_intro (fun a => ?_) (fun a => ?_)⟩
    · have a' : changeF old now ((namesU old now).getD k (dfl .str)) ≠ 0 := by simpa using a
      have e : diffGo old now ((namesU old now).take (k + 1)) = diffGo old now ((namesU old now).take k) ++ [⟨changeF old now ((namesU old now).getD k (dfl .str)), (namesU old now).getD k (dfl .str)⟩] := by
        rw [hx]; simp only [diffGo, if_pos a']
      refine ⟨by omega, by simp only [List.length_singleton]; omega, inR_i64 (by omega) (by omega), k + 1, by omega, by omega, e.symm, rfl, by rw [e]⟩
    · have a' : changeF old now ((namesU old now).getD k (dfl .str)) = 0 := by simpa using a
      have e : diffGo old now ((namesU old now).take (k + 1)) = diffGo old now ((namesU old now).take k) := by
        rw [hx]
        have : diffGo old now [(namesU old now).getD k (dfl .str)] = [] := by simp only [diffGo]; rw [if_neg (by rw [a']; simp)]
        rw [this, List.append_nil]
      exact ⟨inR_i64 (by omega) (by omega), k + 1, by omega, by omega, e.symm, rfl, by rw [e]⟩
  · replace h : ¬ ((k : Int) < ((namesU old now).length : Int)) := fun e => h (decide_eq_true e)
    have e : k = (namesU old now).length := by omega
    subst e
    rw [List.take_length]
    rfl
theorem vc_DifferDiffs (a b : List AL.Item) (ha : Wf (.lst (.st .item)) a) (hb : Wf (.lst (.st .item)) b) :
    if (!smallF a) = true then True ∧ true = true ∧ True
    else
      if (!smallF b) = true then True ∧ true = true ∧ True
      else
        List.length a + List.length b ≤ (1000000 : Nat) ∧
          List.length a + List.length b ≤ (1000000 : Nat) ∧
            if eqC (diffF a b) (diffF a b) = true then True ∧ true = true ∧ True else True ∧ false = true ∧ True := by
  refine ite_intro (fun _ => ⟨trivial, rfl, trivial⟩) (fun h3 => ite_intro (fun _ => ⟨trivial, rfl, trivial⟩) (fun h4 => ?_))
  have l3 := smallF_len (l := a) (by simpa using h3)
  have l4 := smallF_len (l := b) (by simpa using h4)
  refine ⟨by omega, by omega, ?_⟩
  rw [if_pos (eqC_refl _)]
  exact ⟨trivial, rfl, trivial⟩
end Go.AL.Seat
