/-
  The library's functions at this seat. No condition.
-/
import Derived.Test.YtjemjblnddfdbaaGreatAlU
import Derived.RangeFuncBox
import Derived.RangeFuncLeaves
import Derived.WalkKit
import Derived.OwnWalkIn
import Derived.TacticsInMore
import Derived.LoopNIn
import Derived.LoopIn
import Derived.Test.YtjemjblnddfdbaaGreatProg
set_option linter.unusedVariables false
set_option linter.unusedSimpArgs false
set_option linter.unnecessarySimpa false
set_option linter.deprecated false
namespace Go.Proofs
open Go.RowKit Go.Shelf Go.AL
attribute [local go_sem] Oper.semAt_some
set_option maxRecDepth 100000 in
set_option maxHeartbeats 2000000 in
theorem Tryz.values1 (F : Fence) (n : Nat) (h7 : F.fn 102) (hro : F.round = none) (hn : 1 ≤ n) (l Bs Bo b off len cap : Nat) (zs : List Str) (hreach : len ≤ maxLen) (J : List Str → World → Prop) (hBl : ∀ pre W, J pre W → W.cell? ⟨Bs, Bo, none⟩ = some (.slice (some ⟨b, off, none⟩) len cap) ∧ ∀ j, j < len → W.cell? ⟨b, off + j, none⟩ = some (encStr (zs[j]?.getD [])))
    (hY : ∀ pre x W, J pre W → pre.length < len → YieldAt F (n - 1) Tryz.prog l #[encStr x] W fun e W' => e = .returned (.bool true) ∧ J (pre ++ [x]) W')
    (W : World) (h0 : J [] W) :
    CallsIn F n Tryz.prog 102 #[.func (.yield l) #[] #[], .pointer (some ⟨Bs, Bo, none⟩)] W fun e W' => (∃ v, e = .returned v) ∧ ∃ ys, ys = upto (fun j => zs[j]?.getD []) len ∧ J ys W' := by
  obtain ⟨hBs, hc⟩ := hBl _ _ h0
  refine callsIn_of_wp Tryz.func102 rfl h7 ?_ hro
  simp only [Tryz.ntmps102, List.size_toArray, List.length_cons, List.length_nil, Nat.reduceAdd, Nat.reduceSub, Array.replicate_succ, Array.replicate_zero, List.push_toArray, List.append_toArray, List.nil_append, List.cons_append]
  gi_wp2
  gi_loopw [7] (fun i wr => ∃ k : Nat, k ≤ len ∧ i = .int .i64 k ∧ J (upto (fun j => zs[j]?.getD []) k) wr)
    (fun i _ => len - (intOf i).toNat)
  case atStart => exact ⟨0, Nat.zero_le _, rfl, h0⟩
  case round =>
    obtain ⟨k, hk, rfl, hJs⟩ := hrel
    have hcx : k < len → wr.cell? ⟨b, off + k, none⟩ = some (encStr (zs[k]?.getD [])) := fun h => (hBl _ _ hJs).2 k h
    by_cases hlt : k < len
    · obtain ⟨fn, tmps, assign, body, hy, hR⟩ := hY _ (zs[k]?.getD []) wr hJs (by rw [upto_length]; exact hlt)
      have hcx' := hcx hlt
      have hsmall : (k : Int) + 1 ≤ 9223372036854775807 := by unfold maxLen at hreach; omega
      gi_wp2
      refine hR.mono ?_
      rintro e W3 ⟨rfl, hJ3⟩
      gi_wp2
      go_roundw
      case rel => exact ⟨k + 1, by omega, by simp, by rw [upto_succ]; exact hJ3⟩
      case measure => simp [intOf]; omega
    · obtain rfl : k = len := by omega
      gi_wp2
      go_end0
      exact ⟨⟨_, rfl⟩, _, rfl, hJs⟩

set_option maxRecDepth 100000 in
set_option maxHeartbeats 1000000 in
theorem Tryz.values1_nil (F : Fence) (n : Nat) (h7 : F.fn 102) (hro : F.round = none) (l Bs Bo cap : Nat) (a : Option Addr) (J : List Str → World → Prop) (W : World) (hBs : W.cell? ⟨Bs, Bo, none⟩ = some (.slice a 0 cap)) (h0 : J [] W) :
    CallsIn F n Tryz.prog 102 #[.func (.yield l) #[] #[], .pointer (some ⟨Bs, Bo, none⟩)] W fun e W' => (∃ v, e = .returned v) ∧ J [] W' := by
  refine callsIn_of_wp Tryz.func102 rfl h7 ?_ hro
  simp only [Tryz.ntmps102, List.size_toArray, List.length_cons, List.length_nil, Nat.reduceAdd, Nat.reduceSub, Array.replicate_succ, Array.replicate_zero, List.push_toArray, List.append_toArray, List.nil_append, List.cons_append]
  gi_wp2
  gi_loopw [7] (fun i wr => i = .int .i64 0 ∧ J [] wr) (fun _ _ => 0)
  case atStart => exact ⟨rfl, h0⟩
  case round =>
    obtain ⟨rfl, hJs⟩ := hrel
    gi_wp2
    go_end0
    exact ⟨⟨_, rfl⟩, hJs⟩

theorem Tryz.valuesL : ValuesL Tryz.prog 102 := by
  intro w b o sv zs hz hc hs l J W a1 a2 a3 a4 a5
  have hb := size_of_cell hc
  rcases hs with ⟨⟨a, cap, rfl⟩, rfl⟩ | ⟨g, off, cap, rfl, hg, hcs⟩
  · refine (Tryz.values1_nil Fence.wide 2 trivial rfl l b o cap a J W ((a1.cell (p := ⟨b, o, none⟩) hb).trans hc) a5).mono ?_
    rintro e W' ⟨h1, h2⟩
    exact ⟨h1, [], rfl, h2⟩
  · refine (Tryz.values1 Fence.wide 2 trivial rfl (by omega) l b o g off zs.length cap zs hz J (fun pre W1 hJ => ⟨((a3 _ _ hJ).cell (p := ⟨b, o, none⟩) hb).trans hc, fun j hj => ((a3 _ _ hJ).cell (p := ⟨g, off + j, none⟩) hg).trans (hcs j hj)⟩)
      (fun pre x W1 h1 h2 => (a4 pre x W1 h1 h2).mono fun e W' h => ⟨h.1, h.2.1⟩) W a5).mono ?_
    rintro e W' ⟨h1, ys, h2, h3⟩
    exact ⟨h1, ys, by rw [h2, upto_all], h3⟩
end Go.Proofs
