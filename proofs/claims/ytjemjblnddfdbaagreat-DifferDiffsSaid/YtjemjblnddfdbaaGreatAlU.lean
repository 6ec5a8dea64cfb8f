/-
  The library's sorting of what an iterator gives, where the iterator reads memory that lay there before: slices.Sorted(slices.Values(..)); and of a map's keys. No condition.
-/
import Derived.Test.YtjemjblnddfdbaaGreatAlS
import Derived.Shelf.SlIter.Sorted
import Derived.Shelf.Slices.In.SortNone
import Derived.Shelf.Sort.Plain
import Derived.Shelf.Slices.CompactS
set_option linter.unusedVariables false
set_option linter.unusedSimpArgs false
set_option linter.unnecessarySimpa false
set_option linter.deprecated false
namespace Go.AL
open Go.Proofs Go.RowKit Go.Maps Go.Sort Go.Shelf
variable {P : Program} {ρ : Ren}

/-- As the library's word 'SeqGives', for a caller who leaves what lay there before as it was. -/
def SeqGivesB {α : Type} (F : Fence) (n : Nat) (P : Program) (g : Nat) (lb : Array Value) (enc : α → Value) (S : List α → Prop) (N : Nat) (w : World) : Prop :=
  ∀ (l : Nat) (J : List α → World → Prop) (W : World), Below w.heap.size w W → AbidesFrom W.heap.size J → (∀ pre W1, J pre W1 → Below w.heap.size w W1) →
    (∀ pre x W1, J pre W1 → pre.length < N → YieldAt F (n - 1) P l #[enc x] W1 fun e W' => e = .returned (.bool true) ∧ J (pre ++ [x]) W' ∧ KeepsWalks W1 W') →
    J [] W →
    CallsIn F n P g (#[.func (.yield l) #[] #[]] ++ lb) W fun e W' => (∃ v, e = .returned v) ∧ ∃ xs, S xs ∧ J xs W'

theorem SeqGivesB.of {α : Type} {F : Fence} {n : Nat} {g : Nat} {lb : Array Value} {enc : α → Value} {S : List α → Prop} {N : Nat} {w : World} (h : SeqGives F n P g lb enc S N w) : SeqGivesB F n P g lb enc S N w :=
  fun l J W hW hJ _ hY h0 => h l J W hW hJ hY h0

theorem SeqGivesB.bounded {α : Type} {F : Fence} {n : Nat} {g : Nat} {lb : Array Value} {enc : α → Value} {S : List α → Prop} {N : Nat} {w : World}
    (h : SeqGivesB F n P g lb enc S N w) : SeqGivesB F n P g lb enc (fun xs => S xs ∧ xs.length ≤ N) N w := fun l J W hW hJ hB hY h0 => by
  refine (h l (fun xs W' => J xs W' ∧ xs.length ≤ N) W hW (fun s A B row hs hg hr => ⟨hJ s A B row hs.1 hg hr, hs.2⟩) (fun pre W1 h => hB pre W1 h.1)
    (fun pre x W1 hj hl => (hY pre x W1 hj.1 hl).mono (fun e w' hr => ⟨hr.1, ⟨hr.2.1, by simp; omega⟩, hr.2.2⟩)) ⟨h0, Nat.zero_le _⟩).mono ?_
  rintro e W' ⟨hv, xs, hS, hJ', hlen⟩
  exact ⟨hv, xs, ⟨hS, hlen⟩, hJ'⟩

set_option maxRecDepth 100000 in
set_option maxHeartbeats 2000000 in
theorem appendSeqB (L : SlLaysZ.n11 P ρ) (F : Fence) (n : Nat) (h11 : F.fn (ρ.f 11)) (hro : F.round = none) (hn : 2 ≤ n) (g : Nat) (lb : Array Value) (hFg : F.fn g) (eg : ∀ args w, (callFunc g args).run P w = .ok (.enter g args) w)
    (S : List (List UInt8) → Prop) (N : Nat) (hN : N ≤ maxLen) (hNb : N * 16 ≤ 140737488355328) (w : World) (hseq : SeqGivesB F (n - 1) P g lb encStr S N w) :
    CallsIn F n P (ρ.f 11) #[.slice none 0 0, .func (.func g) #[] lb] w fun e w' => ∃ (v : Value) (ss : List (List UInt8)), e = .returned v ∧ S ss ∧ w'.ownsRow w.heap.size (ρ.t 26) 1 v ss.length (ss.map encStr) ∧ (v = .slice none 0 0 ↔ ss = []) ∧ Below w.heap.size w w' := by
  have h1 : 1 ≤ n := by omega
  have mixed := L.mixed; have t0 := L.t0; have a0 := L.a0; have z0 := L.z0; have v0 := L.v0; have t24 := L.t24; have a24 := L.a24; have z24 := L.z24; have v24 := L.v24; have t26 := L.t26; have a26 := L.a26; have z26 := L.z26; have v26 := L.v26; have t28 := L.t28; have a28 := L.a28; have z28 := L.z28; have v28 := L.v28
  have hne : ρ.t 24 ≠ ρ.t 26 := fun e => by have h := L.t24; rw [e, L.t26] at h; cases h
  have u0 := run_underlying L.t0; have u24 := run_underlying L.t24; have u26 := run_underlying L.t26; have u28 := run_underlying L.t28
  obtain ⟨_, _, FG⟩ := L.f11
  refine callsIn_of_wp_marks FG rfl h11 ?_ hro
  simp only [SlBodyZ.n11_ntmps ρ, List.size_toArray, List.length_cons, List.length_nil, Nat.reduceAdd, Nat.reduceSub, Array.replicate_succ, Array.replicate_zero, List.push_toArray, List.append_toArray, List.nil_append, List.cons_append]
  gi_wp2
  refine wpIn_rangeFunc ?_
  intro fn hfn
  rw [hro]
  obtain ⟨W0, hW0⟩ : ∃ W0, w.alloc (.cells #[.slice none 0 0] (ρ.t 24)) = W0 := ⟨_, rfl⟩
  have hs0 : W0.heap.size = w.heap.size + 1 := by rw [← hW0]; simp
  have hv0 : W0.heap[w.heap.size]? = some (.cells #[.slice none 0 0] (ρ.t 24) (0, 0)) := by rw [← hW0]; exact World.alloc_heap_new w _
  have hb0 : Below w.heap.size w W0 := by rw [← hW0]; exact (Below.refl _ w).alloc (Nat.le_refl _) _
  rw [hW0]
  obtain ⟨W1, hW1⟩ : ∃ W1, (W0.alloc (.deferred (some []))).alloc (.loop (AnyZ.apRec ρ fn (.func (.func g) #[] lb) w.heap.size W0.heap.size .ready none)) = W1 := ⟨_, rfl⟩
  have hold : ∀ k, k < W0.heap.size → W1.heap[k]? = W0.heap[k]? := fun k hk => by
    rw [← hW1]; exact (Below.heap_alloc _ _ k (by simp; omega)).trans (Below.heap_alloc _ _ k hk)
  have hb1 : Below w.heap.size w W1 := by rw [← hW1]; exact (hb0.alloc hb0.size _).alloc (by have := hb0.size; simp; omega) _
  have hs1 : W1.heap.size = W0.heap.size + 2 := by rw [← hW1]; simp
  have hM : AnyZ.ApAt ρ w fn (.func (.func g) #[] lb) w.heap.size (W0.heap.size + 1) W0.heap.size [] W1 :=
    ⟨⟨_, (hold w.heap.size (by omega)).trans hv0, ⟨rfl, .inl ⟨rfl, rfl⟩⟩, by simp⟩,
     by rw [← hW1]; have := World.alloc_heap_new (W0.alloc (.deferred (some []))) (.loop (AnyZ.apRec ρ fn (.func (.func g) #[] lb) w.heap.size W0.heap.size .ready none)); rwa [World.size_alloc] at this,
     by rw [← hW1]; exact (Below.heap_alloc _ _ _ (by simp)).trans (World.alloc_heap_new W0 _), hb1⟩
  refine ⟨W0.heap.size + 1, [{ target := .collected W0.heap.size, args := #[] }], W1, { target := .fn (.func g) lb, args := #[.func (.yield (W0.heap.size + 1)) #[] #[]] }, W1, g,
    #[.func (.yield (W0.heap.size + 1)) #[] #[]] ++ lb, W1, ?_, ?_, ?_, ?_, fun _ => h1, ?_⟩
  · rw [← hW1]; exact run_enterLoop_outer _ _ _ _ _
  · simp [resolve, go_sem]
  · intro f' hf'; simp [Target.leads] at hf'; subst hf'; exact hFg
  · simp [invoke, go_sem, eg]
  · refine (hseq (W0.heap.size + 1) (AnyZ.ApAt ρ w fn (.func (.func g) #[] lb) w.heap.size (W0.heap.size + 1) W0.heap.size) W1 hb1 (AnyZ.ap_abides ρ _ _ _ _ _ _ _ hb1.size) (fun _ _ h => h.below)
      (fun pre x W hJ hl => AnyZ.apYield { L with } F (n - 1 - 1) w fn hfn _ w.heap.size (W0.heap.size + 1) W0.heap.size (by omega) (by omega) (by omega) (Nat.le_refl _) (by omega) N hN hNb pre x W hJ hl) hM).mono ?_
    rintro e W2 ⟨⟨v0, rfl⟩, ss, hS, h2⟩
    obtain ⟨v, hv, hrow, hnil⟩ := h2.box
    have hend := run_endLoop (P := P) h2.L (by simp [AnyZ.apRec])
    obtain ⟨W3, hW3⟩ : ∃ W3, W2.putObj (W0.heap.size + 1) (.loop { AnyZ.apRec ρ fn (.func (.func g) #[] lb) w.heap.size W0.heap.size .ready none with state := .exhausted }) = W3 := ⟨_, rfl⟩
    rw [hW3] at hend
    have hg3 : W2.grownBy W3 (some (W0.heap.size + 1)) := by rw [← hW3]; exact grownBy_putObj_a _ _ _
    have hv3 : W3.heap[w.heap.size]? = some (.cells #[v] (ρ.t 24) (0, 0)) := by rw [← hW3]; exact (World.putObj_heap_other (by omega)).trans hv
    have hK3 : W3.heap[W0.heap.size]? = some (.deferred (some [])) := by rw [← hW3]; exact (World.putObj_heap_other (by omega)).trans h2.K
    have hrow3 := hrow.kept hg3 (ownsRow_ne_a hrow h2.L (fun cur e => by first | cases e | exact hne (Obj.cells.inj e).2.1))
    have hb3 : Below w.heap.size w W3 := h2.below.grown hg3 h2.below.size (fun k e => by cases e; omega)
    obtain ⟨hc3, hf3⟩ := cell_of_box_a hv3
    clear hW3
    refine ⟨none, W3, hend, ?_⟩
    gi_wp2
    rw [← hs0]
    refine ⟨by simp, .inl ⟨_, _, rfl, run_takeDeferred hK3, ?_⟩⟩
    exact ⟨_, results_tmp rfl _ _ _, v, ss, rfl, hS, hrow3.kept (grownBy_putObj_a _ _ _) (ownsRow_ne_a hrow3 hK3 (fun cur e => by first | cases e | exact hne (Obj.cells.inj e).2.1)), hnil, hb3.grown (grownBy_putObj_a _ _ _) hb3.size (fun k e => by cases e; omega)⟩

set_option maxRecDepth 100000 in
set_option maxHeartbeats 2000000 in
theorem collectB (L : SlLaysZ.n8 P ρ) (F : Fence) (n : Nat) (h8 : F.fn (ρ.f 8)) (h11 : F.fn (ρ.f 11)) (hro : F.round = none) (hn : 3 ≤ n) (g : Nat) (lb : Array Value) (hFg : F.fn g) (eg : ∀ args w, (callFunc g args).run P w = .ok (.enter g args) w)
    (S : List (List UInt8) → Prop) (N : Nat) (hN : N ≤ maxLen) (hNb : N * 16 ≤ 140737488355328) (w : World) (hseq : SeqGivesB F (n - 1 - 1) P g lb encStr S N w) :
    CallsIn F n P (ρ.f 8) #[.func (.func g) #[] lb] w fun e w' => ∃ (v : Value) (ss : List (List UInt8)), e = .returned v ∧ S ss ∧ w'.ownsRow w.heap.size (ρ.t 26) 1 v ss.length (ss.map encStr) ∧ (v = .slice none 0 0 ↔ ss = []) ∧ Below w.heap.size w w' := by
  have h1 : 1 ≤ n := by omega
  have e11 : ∀ args w, (callFunc (ρ.f 11) args).run P w = .ok (.enter (ρ.f 11) args) w := L.f11.enters rfl
  have mixed := L.mixed; have t0 := L.t0; have a0 := L.a0; have z0 := L.z0; have v0 := L.v0; have t24 := L.t24; have a24 := L.a24; have z24 := L.z24; have v24 := L.v24; have t26 := L.t26; have a26 := L.a26; have z26 := L.z26; have v26 := L.v26; have t28 := L.t28; have a28 := L.a28; have z28 := L.z28; have v28 := L.v28
  have u0 := run_underlying L.t0; have u24 := run_underlying L.t24; have u26 := run_underlying L.t26; have u28 := run_underlying L.t28
  obtain ⟨_, _, FG⟩ := L.f8
  refine callsIn_of_wp FG rfl h8 ?_ hro
  simp only [SlBodyZ.n8_ntmps ρ, List.size_toArray, List.length_cons, List.length_nil, Nat.reduceAdd, Nat.reduceSub, Array.replicate_succ, Array.replicate_zero, List.push_toArray, List.append_toArray, List.nil_append, List.cons_append]
  gi_wp2_with (gi_at_fn (ρ.f 11); refine (appendSeqB { L with } F (n - 1) h11 hro (by omega) g lb hFg eg S N hN hNb _ hseq).mono ?_; rintro e w' ⟨v, ss, rfl, hS, hrow, hnil, hb⟩)
  go_ret
  exact ⟨v, ss, rfl, hS, hrow, hnil, hb⟩

set_option maxRecDepth 100000 in
set_option maxHeartbeats 2000000 in
theorem sortedB (L : SlLaysZ.n6 P ρ) (F : Fence) (n : Nat) (h6 : F.fn (ρ.f 6)) (h8 : F.fn (ρ.f 8)) (h9 : F.fn (ρ.f 9)) (h11 : F.fn (ρ.f 11)) (hro : F.round = none) (hn : 4 ≤ n) (hsort : AnyZ.SortsIn P ρ F (n - 1)) (e9 : ∀ args w, (callFunc (ρ.f 9) args).run P w = .ok (.enter (ρ.f 9) args) w) (g : Nat) (lb : Array Value) (hFg : F.fn g) (eg : ∀ args w, (callFunc g args).run P w = .ok (.enter g args) w)
    (S : List (List UInt8) → Prop) (N : Nat) (hN : N ≤ maxLen) (hNb : N * 16 ≤ 140737488355328) (w : World) (hseq : SeqGivesB F (n - 1 - 1 - 1) P g lb encStr S N w) :
    CallsIn F n P (ρ.f 6) #[.func (.func g) #[] lb] w fun e w' => ∃ (v : Value) (ss : List (List UInt8)), e = .returned v ∧ S ss ∧
      w'.ownsRow w.heap.size (ρ.t 26) 1 v ss.length ((ss.mergeSort (fun x y => decide (x ≤ y))).map encStr) ∧ (v = .slice none 0 0 ↔ ss = []) ∧ Below w.heap.size w w' := by
  have h1 : 1 ≤ n := by omega
  have e8 : ∀ args w, (callFunc (ρ.f 8) args).run P w = .ok (.enter (ρ.f 8) args) w := L.f8.enters rfl
  have mixed := L.mixed; have t0 := L.t0; have a0 := L.a0; have z0 := L.z0; have v0 := L.v0; have t24 := L.t24; have a24 := L.a24; have z24 := L.z24; have v24 := L.v24; have t26 := L.t26; have a26 := L.a26; have z26 := L.z26; have v26 := L.v26; have t28 := L.t28; have a28 := L.a28; have z28 := L.z28; have v28 := L.v28
  have u0 := run_underlying L.t0; have u24 := run_underlying L.t24; have u26 := run_underlying L.t26; have u28 := run_underlying L.t28
  obtain ⟨_, _, FG⟩ := L.f6
  refine callsIn_of_wp FG rfl h6 ?_ hro
  simp only [SlBodyZ.n6_ntmps ρ, List.size_toArray, List.length_cons, List.length_nil, Nat.reduceAdd, Nat.reduceSub, Array.replicate_succ, Array.replicate_zero, List.push_toArray, List.append_toArray, List.nil_append, List.cons_append]
  gi_wp2_with (gi_at_fn (ρ.f 8); refine (collectB { L with } F (n - 1) h8 h11 hro (by omega) g lb hFg eg _ N hN hNb _ (SeqGivesB.bounded hseq)).mono ?_; rintro e W ⟨v, ss, rfl, ⟨hS, hlen⟩, hrow, hnil, hb⟩)
  rcases hrow.2 with ⟨rfl, hz⟩ | ⟨gb, cap, cur, rfl, hbase, hgb, r1, r2, r3, r4⟩
  · -- nothing came: the nil slice is sorted and handed back
    have hss : ss = [] := List.eq_nil_of_length_eq_zero hz
    subst hss
    gi_wp2_with (gi_at_fn (ρ.f 9); refine (hsort.2 none 0 W).mono ?_; rintro e w' ⟨rfl, rfl⟩)
    go_ret
    exact ⟨.slice none 0 0, [], rfl, hS, by simpa using hrow, by simp, hb⟩
  · have hH : Go.Sort.Holds encStr W gb 0 ss.toArray := holds_of_block hgb (by simpa using r4)
    have hgl : gb < W.heap.size := (Array.getElem?_eq_some_iff.1 hgb).1
    have hsz : ss.length < 4611686018427387904 := by omega
    have cS := hsort.1 gb 0 cap ss W hH hgl hsz
    gi_wp2_with (gi_at_fn (ρ.f 9); refine cS.mono ?_; rintro e w' ⟨rfl, nn, os, rfl⟩)
    go_ret
    exact ⟨_, ss, rfl, hS, ownsRow_sorted (by simp) hbase hgb r1 r2 r3, hnil, hb.grown (grownBy_sorted _) hb.size (fun j hj => by cases hj; exact hbase)⟩

set_option maxRecDepth 100000 in
set_option maxHeartbeats 2000000 in
theorem keys1B (L : SlLaysZ.n10 P ρ) {H : Type} (F : Fence) (n : Nat) (h10 : F.fn (ρ.f 10)) (hro : F.round = none) (hn : 1 ≤ n) (l Bm off b nn : Nat) (D0 : DataW H) {R : Value → Option (DataW H × List MemPlace)} (J : List (List UInt8) → World → Prop)
    (hY : ∀ pre x W, J pre W → pre.length < Maps.size D0 → YieldAt F (n - 1) P l #[encStr x] W fun e W' => e = .returned (.bool true) ∧ J (pre ++ [x]) W' ∧ KeepsWalks W W')
    (W : World) (hJ : AbidesFrom W.heap.size J) (hm : W.cell? ⟨Bm, off, none⟩ = some (.map (some b))) (hown : W.ownsMap P (ρ.t 26) R b nn D0) (h0 : J [] W) :
    CallsIn F n P (ρ.f 10) #[.func (.yield l) #[] #[], .pointer (some ⟨Bm, off, none⟩)] W fun e W' => (∃ v, e = .returned v) ∧ ∃ ss : List (List UInt8), ss.Perm (strKeys D0) ∧ J ss W' := by
  have mixed := L.mixed; have t0 := L.t0; have a0 := L.a0; have z0 := L.z0; have v0 := L.v0; have t4 := L.t4; have a4 := L.a4; have z4 := L.z4; have v4 := L.v4; have t23 := L.t23; have a23 := L.a23; have z23 := L.z23; have v23 := L.v23; have t26 := L.t26; have a26 := L.a26; have z26 := L.z26; have v26 := L.v26; have t33 := L.t33; have a33 := L.a33; have z33 := L.z33; have v33 := L.v33
  have u0 := run_underlying L.t0; have u4 := run_underlying L.t4; have u23 := run_underlying L.t23; have u26 := run_underlying L.t26; have u33 := run_underlying L.t33
  obtain ⟨_, _, FG⟩ := L.f10
  refine callsIn_of_wp FG rfl h10 ?_ hro
  simp only [SlBodyZ.n10_ntmps ρ, List.size_toArray, List.length_cons, List.length_nil, Nat.reduceAdd, Nat.reduceSub, Array.replicate_succ, Array.replicate_zero, List.push_toArray, List.append_toArray, List.nil_append, List.cons_append]
  gi_wp2_with (first
    | (gi_at_range; refine wpListIn_range_own _ rfl _ (ρ.t 23) rfl (ρ.t 26) (ρ.t 3) (string_keyed L.t26) L.t23 _ b nn _ rfl hown ?_; intro w0 hrg0 hg0 hs0)
    | gi_in)
  go_frame
  gi_loopw [3] (fun _ wr => ∃ (left : Lit → Bool) (cnt : Nat) (ss : List (List UInt8)), wr.ranges P (ρ.t 26) R b W.heap.size nn D0 left cnt ∧ ss.length + cnt ≤ Maps.size D0 ∧ Collected D0 left ss ∧ J ss wr)
    (fun _ wr => wr.rangeLeft b W.heap.size)
  case atStart =>
    exact ⟨_, _, [], hrg0, by simp, Collected.start D0, hJ [] W w0 none h0 hg0 (fun r e => by cases e)⟩
  case round =>
    obtain ⟨left, cnt, ss, hrg, hcs, hC, hJs⟩ := hrel
    gi_wp2_with (first
      | (gi_at_next; refine wpListIn_next_ranges _ rfl _ rfl (ρ.t 26) (string_keyed L.t26) R encStr id (fun key kl hk => by obtain ⟨x, hx, _⟩ := Maps.keyOf_str L.t26 hk; exact ⟨x, hx⟩) (fun v _ _ => ⟨v, rfl⟩) b W.heap.size nn _ _ _ rfl hrg ?_ ?_)
      | gi_in)
    · -- NOTHING IS LEFT
      intro hc0 hl0
      gi_wp2
      go_end0
      exact ⟨⟨_, rfl⟩, ss, hC.perm hown (string_keyed L.t26) L.t26 hl0, hJs⟩
    · -- AN ENTRY HAS COME: yield(k)
      intro x c kl yd yp w2 cnt2 hkey hlk hv hat hrg2 hlt hg2 hs2 hen
      obtain ⟨x', ex, rfl, _⟩ := Maps.keyOf_str L.t26 hkey
      obtain rfl : x = x' := encStr_inj ex
      have hJ2 : J ss w2 := hJ ss wr w2 (some W.heap.size) hJs hg2 (fun r e => by cases e; exact ⟨Nat.le_refl _, hrg.iter_walk⟩)
      obtain ⟨fn, tmps, assign, body, hy, hR⟩ := hY ss x w2 hJ2 (by omega)
      clear hs2
      gi_wp2
      refine hR.mono ?_
      rintro e W3 ⟨rfl, hJ3, hk3⟩
      gi_wp2
      have hrg3 := hrg2.of_walks hk3
      go_roundw
      case rel => exact ⟨_, cnt2, ss ++ [x], hrg3, by simp; omega, hC.step hlk hat, hJ3⟩
      case measure => rw [hrg3.left_eq, hrg.left_eq]; exact hlt

theorem keysB (L : SlLaysZ.n10 P ρ) {H : Type} (F : Fence) (n : Nat) (h10 : F.fn (ρ.f 10)) (hro : F.round = none) (hn : 1 ≤ n) (Bm off b nn : Nat) (D0 : DataW H) {R : Value → Option (DataW H × List MemPlace)} (w : World) (hBm : Bm < w.heap.size)
    (hm : w.cell? ⟨Bm, off, none⟩ = some (.map (some b))) (hown : w.ownsMap P (ρ.t 26) R b nn D0) :
    SeqGives F n P (ρ.f 10) #[.pointer (some ⟨Bm, off, none⟩)] encStr (fun ss => ss.Perm (strKeys D0)) (Maps.size D0) w := fun l J W hW hJ hY h0 => by
  have hown' : W.ownsMap P (ρ.t 26) R b nn D0 := by
    have hbl := hown.lt
    obtain ⟨es, clock, hb, Ft, hs, hD⟩ := hown
    exact ⟨es, clock, (hW.block b hbl).trans hb, Ft, hs, hD⟩
  exact keys1B { L with } F n h10 hro hn l Bm off b nn D0 J hY W hJ ((hW.cell (p := ⟨Bm, off, none⟩) hBm).trans hm) hown' h0

/-! ### As contracts -/
theorem encStr_eq (s : Str) : encStr s = .string ⟨s.toArray⟩ := rfl

theorem meets_row {f : Nat} {args : List AV} {S : List (Nat × SObj)} {ob : Option Prop} {T : TypeId} {ss : List Str} (hk : bget S 0 = none)
    (hC : ∀ w pub e vs, PubOK w pub → VL ⟨e, w, pub⟩ args vs → (∀ id o, bget S id = some o → SlotOK ⟨e, w, pub⟩ (fun _ _ => True) id o) →
      (∀ s ∈ ss, s.length ≤ maxN) ∧ Calls P f vs.toArray w fun en w' => ∃ v, en = .returned v ∧ w'.ownsRow w.heap.size T 1 v ss.length (ss.map encStr) ∧ Below w.heap.size w w') :
    Meets P f args S ⟨ob, none, .arr 0 ss.length 1, [(0, .box (.row .str ss))]⟩ := by
  intro w pub e vs hp hv hs hd hi
  obtain ⟨hlen, hC⟩ := hC w pub e vs hp hv hs
  refine hC.mono ?_
  rintro en w' ⟨v, rfl, ⟨hl, hrow⟩, hb⟩
  have hpl : (parts' (.row .str ss)).length = ss.length := by
    have := flat_length .str ss
    rw [show width .str = 1 from rfl, Nat.mul_one] at this
    exact this
  rcases hrow with ⟨rfl, hz⟩ | ⟨g, cap, cur, rfl, hbase, hg, h1, h2, h3, h4⟩
  · have hss : ss = [] := List.eq_nil_of_length_eq_zero hz
    subst hss
    refine ⟨_, _, fun _ _ _ h => (by cases h), ?_, After.fresh1 (c := .box w.heap.size 0 0) hp hs hd hi hb hk (fun b o ho => by obtain ⟨_, _, h⟩ := ho; omega) ⟨w.heap.size, 0, by simp; rfl, fun j c' hc => ?_⟩⟩
    · exact .arr 0 0 1 w.heap.size 0 0 none (by simp) (by omega) (by omega) (by unfold maxN; omega) (.inr ⟨rfl, rfl, rfl⟩)
    · simp [parts', flat] at hc
  · refine ⟨_, _, fun _ _ _ h => (by cases h), ?_, After.fresh1 (c := .box g 0 (parts' (.row .str ss)).length) hp hs hd hi hb hk (fun b o ho => by obtain ⟨rfl, _, _⟩ := ho; exact hbase) ⟨g, 0, by simp, fun j c' hc => ?_⟩⟩
    · exact .arr 0 ss.length 1 g (parts' (.row .str ss)).length cap (some ⟨g, 0, none⟩) (by simp) (by omega) h1 (by unfold maxLen at h2; unfold maxN; omega) (.inl rfl)
    · have hj : j < ss.length := by
        rw [← hpl]
        rcases Nat.lt_or_ge j (parts' (.row .str ss)).length with k | k
        · exact k
        · rw [List.getElem?_eq_none k] at hc; cases hc
      have hcx := flat_get .str ss j ss[j] 0 (.str ss[j]) (by simp [hj]) rfl
      have hc0 : (parts' (.row .str ss))[j]? = some (.str ss[j]) := by rw [show j * width .str + 0 = j by rw [show width .str = 1 from rfl]; omega] at hcx; exact hcx
      rw [hc0] at hc
      cases hc
      have hcur : cur[j]? = some (encStr ss[j]) := by
        have : (cur.toList.take (ss.length * 1))[j]? = some (encStr ss[j]) := by rw [h4]; simp [hj]
        rw [List.getElem?_take] at this
        split at this
        · simpa using this
        · cases this
      refine ⟨.inl hbase, fun h => ?_, frozen_of_cells hg _, encStr ss[j], by rw [Nat.zero_add, cell_of_cells hg]; exact hcur, .str _ (hlen _ (List.getElem_mem hj))⟩
      rcases h with h | h
      · obtain ⟨v, hv⟩ := hp _ _ h
        have := size_of_cell hv
        omega
      · exact h

/-- Texts in order. -/
def sortS (l : List Str) : List Str := l.mergeSort fun x y => decide (x ≤ y)
theorem sortS_length (l : List Str) : (sortS l).length = l.length := List.length_mergeSort _
theorem mem_sortS {l : List Str} {s : Str} : s ∈ sortS l ↔ s ∈ l := List.mem_mergeSort

/-- What is needed to sort what an iterator gives. -/
structure SortL (P : Program) (ρ : Ren) : Prop where
  lay : SlLaysZ.n6 P ρ
  sorts : AnyZ.SortsIn P ρ Fence.wide 4
  e9 : ∀ args w, (callFunc (ρ.f 9) args).run P w = .ok (.enter (ρ.f 9) args) w

theorem sorted_calls (L : SortL P ρ) {g : Nat} {lb : Array Value} (eg : ∀ args w, (callFunc g args).run P w = .ok (.enter g args) w) {ks : List Str} (hN : ks.length * 16 ≤ 140737488355328) {w : World}
    (hseq : SeqGivesB Fence.wide 2 P g lb encStr (fun ss => ss.Perm ks) ks.length w) :
    Calls P (ρ.f 6) #[.func (.func g) #[] lb] w fun en w' => ∃ v, en = .returned v ∧ w'.ownsRow w.heap.size (ρ.t 26) 1 v (sortS ks).length ((sortS ks).map encStr) ∧ Below w.heap.size w w' := by
  refine callsIn_wide.1 ((sortedB L.lay Fence.wide 5 trivial trivial trivial trivial rfl (by omega) L.sorts L.e9 g lb trivial eg _ ks.length (by unfold maxLen; omega) hN w hseq).mono ?_)
  rintro en w' ⟨v, ss, rfl, hS, hrow, _, hb⟩
  have e : ss.mergeSort (fun x y => decide (x ≤ y)) = sortS ks := mergeSort_of_perm hS
  have hl : ss.length = (sortS ks).length := by rw [sortS_length]; exact hS.length_eq
  rw [e, hl] at hrow
  exact ⟨v, rfl, hrow, hb⟩

theorem MapOK.own {Ω : Om} {k : TypeId} {τ : Ty} {m : List (Str × den τ)} {es : Array MapEntry} {clock r : Nat} (hk : P.underlying k = some .string) (h : MapOK Ω .str τ m es clock) (hr : Ω.w.heap[r]? = some (.map es clock)) (hm : m.length ≤ maxN) :
    ∃ D0 : DataW Unit, Ω.w.ownsMap P k (fun _ => some (.lit (.bool false), [])) r m.length D0 ∧ (strKeys D0).Perm (m.map (·.1)) ∧ Maps.size D0 = m.length := by
  have hsz := h.size
  have key : ∀ (i : Nat) (hi : i < es.size) (hj : i < m.length), es[i].key = encStr m[i].1 ∧ m[i].1.length ≤ maxN := by
    intro i hi hj
    have := (h.ent i es[i] m[i] (by simp [hi]) (by simp [hj])).1
    obtain ⟨h1, h2⟩ := V.str_inv this
    exact ⟨h1, h2⟩
  have hrd : ∀ (i : Nat) (hi : i < es.size) (hj : i < m.length), Go.WideElems.rd P k (fun _ => some (DataW.lit (.bool false), [])) es[i] = some (.string m[i].1, (DataW.lit (.bool false) : DataW Unit)) := by
    intro i hi hj
    obtain ⟨h1, h2⟩ := key i hi hj
    have : keyOf P k es[i].key = some (.string m[i].1) := by
      rw [h1]
      have e : (⟨m[i].1.toArray⟩ : ByteArray).size = m[i].1.length := by simp [ByteArray.size]
      exact Go.WideMaps.keyOf_string_mk hk (Nat.le_trans (Nat.le_of_eq e) h2)
    simp [Go.WideElems.rd, this]
  have hmap : es.toList.map (Go.WideElems.rg P k fun _ => some (DataW.lit (.bool false), [])) = m.map fun x => (Lit.string x.1, (DataW.lit (.bool false) : DataW Unit)) := by
    apply List.ext_getElem
    · simp [hsz]
    · intro i h1 h2
      have hi : i < es.size := by simpa using h1
      have hj : i < m.length := by simpa using h2
      simp [Go.WideElems.rg, hrd i hi hj]
  refine ⟨_, ⟨es, clock, hr, ⟨by rw [hsz]; exact hm, ⟨?_, ?_, ?_⟩, ?_⟩, by omega, rfl⟩, ?_, ?_⟩
  · intro x hx
    obtain ⟨i, hi, rfl⟩ := List.getElem_of_mem hx
    exact h.born i _ (by simpa using hi)
  · rw [List.nodup_iff_pairwise_ne, List.pairwise_map, List.pairwise_iff_getElem]
    intro i j hi hj hij e
    have := h.rise i j es[i] es[j] (by simp) (by simp) hij
    simp at e
    omega
  · rw [List.nodup_iff_pairwise_ne, List.pairwise_map, List.pairwise_iff_getElem]
    intro i j hi hj hij e
    have hi' : i < es.size := by simpa using hi
    have hj' : j < es.size := by simpa using hj
    have h1 := (key i hi' (by omega)).1
    have h2 := (key j hj' (by omega)).1
    simp only [Array.getElem_toList] at e
    rw [h1, h2] at e
    have := encStr_inj e
    have hnd := h.keys
    rw [List.nodup_iff_pairwise_ne, List.pairwise_map, List.pairwise_iff_getElem] at hnd
    exact hnd i j (by omega) (by omega) hij this
  · intro x hx
    obtain ⟨i, hi, rfl⟩ := List.getElem_of_mem hx
    have hi' : i < es.size := by simpa using hi
    exact ⟨_, by simpa using hrd i hi' (by omega)⟩
  · rw [hmap]
    show ((List.foldr DataW.insert [] _).map fun p => strOf p.1).Perm _
    refine ((Go.WideShapes.sorted_perm _).map _).trans ?_
    rw [List.map_map]
    exact .of_eq (List.map_congr_left fun x _ => rfl)
  · rw [hmap]
    show (List.foldr DataW.insert [] _).length = _
    rw [(Go.WideShapes.sorted_perm _).length_eq]
    simp

theorem V.fn_inv {Ω : Om} {f : Nat} {cs : List AV} {v : Value} (h : V Ω (.fn f cs) v) : ∃ vs, v = .func (.func f) #[] vs.toArray ∧ VL Ω cs vs := by
  cases h with
  | fn _ _ vs h1 h2 => exact ⟨vs, rfl, h1, h2⟩

/-- slices.Sorted(maps.Keys(m)): g is the keys' iterator. -/
theorem meets_sortedKeys (L : SortL P ρ) {ρ' : Ren} (K : SlLaysZ.n10 P ρ') {g : Nat} (hg : ρ'.f 10 = g) {τ : Ty} (m : List (Str × den τ)) (hN : m.length * 16 ≤ 140737488355328) :
    Meets P (ρ.f 6) [.fn g [.ptr 900 0]] [(900, .box (.map 901)), (901, .map .str τ m)] ⟨some (m.length * 16 ≤ 140737488355328), none, .arr 0 (sortS (m.map (·.1))).length 1, [(0, .box (.row .str (sortS (m.map (·.1)))))]⟩ := by
  refine meets_row (T := ρ.t 26) rfl fun w pub e vs hp hv hs => ?_
  · subst hg
    obtain ⟨v1, rfl, h1⟩ := VL.one_inv hv
    obtain ⟨us, rfl, hus⟩ := h1.fn_inv
    obtain ⟨u, rfl, hu⟩ := VL.one_inv hus
    obtain ⟨b, o, len, rfl, he⟩ := hu.ptr_inv
    obtain ⟨b', o', he', hbox⟩ := hs 900 _ rfl
    rw [he] at he'
    cases he'
    obtain ⟨_, _, _, v, hcell, hvm⟩ := hbox 0 (.map 901) rfl
    cases hvm with
    | map _ r her =>
      obtain ⟨r', her', _, es, clock, hr, hmok⟩ := hs 901 _ rfl
      rw [her] at her'
      cases her'
      obtain ⟨D0, hown, hperm, hsize⟩ := hmok.own (P := P) (k := ρ'.t 26) K.t26 hr (by unfold maxN; omega)
      have hsq := keysB K Fence.wide 2 trivial rfl (by omega) b (o + 0) r m.length D0 w (size_of_cell hcell) hcell hown
      have hsq2 : SeqGivesB Fence.wide 2 P (ρ'.f 10) #[.pointer (some ⟨b, o + 0, none⟩)] encStr (fun ss => ss.Perm (m.map (·.1))) (m.map (·.1)).length w := by
        intro l J W a1 a2 a3 a4 a5
        refine (SeqGivesB.of hsq l J W a1 a2 a3 (fun pre x W1 q1 q2 => a4 pre x W1 q1 (by rw [hsize] at q2; simpa using q2)) a5).mono ?_
        rintro e W' ⟨h1, xs, h2, h3⟩
        exact ⟨h1, xs, h2.trans hperm, h3⟩
      refine ⟨fun s hs => ?_, sorted_calls L (K.f10.enters rfl) (by simpa using hN) hsq2⟩
      obtain ⟨x, hx, rfl⟩ := List.mem_map.1 (mem_sortS.1 hs)
      obtain ⟨i, hi, rfl⟩ := List.getElem_of_mem hx
      have hi' : i < es.size := by rw [hmok.size]; exact hi
      exact (V.str_inv (hmok.ent i es[i] m[i] (by simp [hi']) (by simp [hi])).1).2

/-- A slice value that holds these texts, in a block below n₀. -/
def Strs (n₀ : Nat) (W : World) (sv : Value) (zs : List Str) : Prop :=
  ((∃ a cap, sv = .slice a 0 cap) ∧ zs = []) ∨ ∃ b off cap, sv = .slice (some ⟨b, off, none⟩) zs.length cap ∧ b < n₀ ∧ ∀ j, j < zs.length → W.cell? ⟨b, off + j, none⟩ = some (encStr (zs[j]?.getD []))
theorem Strs.below {n₀ : Nat} {A B : World} (h : Below n₀ A B) {sv : Value} {zs : List Str} : Strs n₀ A sv zs → Strs n₀ B sv zs
  | .inl e => .inl e
  | .inr ⟨b, off, cap, e, hb, hc⟩ => .inr ⟨b, off, cap, e, hb, fun j hj => (h.cell (p := ⟨b, off + j, none⟩) hb).trans (hc j hj)⟩

/-- What has come when k rounds are over. -/
def upto {α : Type} (f : Nat → α) (k : Nat) : List α := (List.range k).map f
theorem upto_succ {α : Type} (f : Nat → α) (k : Nat) : upto f (k + 1) = upto f k ++ [f k] := by simp [upto, List.range_succ]
theorem upto_length {α : Type} (f : Nat → α) (k : Nat) : (upto f k).length = k := by simp [upto]
theorem upto_all (zs : List Str) : upto (fun j => zs[j]?.getD []) zs.length = zs := by
  apply List.ext_getElem
  · simp [upto]
  · intro i h1 h2
    simp [upto, h2]

/-- The iterator over a slice of texts. -/
def ValuesL (P : Program) (g : Nat) : Prop :=
  ∀ (w : World) (b o : Nat) (sv : Value) (zs : List Str), zs.length ≤ maxLen → w.cell? ⟨b, o, none⟩ = some sv → Strs w.heap.size w sv zs →
    SeqGivesB Fence.wide 2 P g #[.pointer (some ⟨b, o, none⟩)] encStr (fun ss => ss = zs) zs.length w

theorem V.dropTok {Ω : Om} {τ : Ty} {xs : List (den τ)} {o : Option Nat} {v : Value} (h : V Ω (.lst τ xs o) v) : V Ω (.lst τ xs none) v := by
  cases h with
  | lstNil => exact .lstNil τ none (fun _ h => by cases h)
  | lstVoid _ a => exact .lstVoid τ a
  | lst _ _ _ b off cap vals h1 h2 h3 h4 h5 => exact .lst τ xs none b off cap vals h1 h2 (fun _ h => by cases h) h4 h5

/-- slices.Sorted(slices.Values(l)): g is the values' iterator. -/
theorem meets_sortedValues (L : SortL P ρ) {g : Nat} (eg : ∀ args w, (callFunc g args).run P w = .ok (.enter g args) w) (K : ValuesL P g) (zs : List Str) (hN : zs.length * 16 ≤ 140737488355328) (tok : Option Nat) :
    Meets P (ρ.f 6) [.fn g [.ptr 900 0]] [(900, .box (.lst .str zs tok))] ⟨some (zs.length * 16 ≤ 140737488355328), none, .arr 0 (sortS zs).length 1, [(0, .box (.row .str (sortS zs)))]⟩ := by
  refine meets_row (T := ρ.t 26) rfl fun w pub e vs hp hv hs => ?_
  obtain ⟨v1, rfl, h1⟩ := VL.one_inv hv
  obtain ⟨us, rfl, hus⟩ := h1.fn_inv
  obtain ⟨u, rfl, hu⟩ := VL.one_inv hus
  obtain ⟨b, o, len, rfl, he⟩ := hu.ptr_inv
  obtain ⟨b', o', he', hbox⟩ := hs 900 _ rfl
  rw [he] at he'
  cases he'
  obtain ⟨_, _, _, v, hcell, hvm⟩ := hbox 0 (.lst .str zs tok) rfl
  have hst : Strs w.heap.size w v zs := by
    cases hvm with
    | lstNil => exact .inl ⟨⟨_, _, rfl⟩, rfl⟩
    | lstVoid => exact .inl ⟨⟨_, _, rfl⟩, rfl⟩
    | lst _ _ _ g0 off cap vals h1 h2 h3 h4 h5 =>
      rcases Nat.eq_zero_or_pos zs.length with hz | hz
      · have := List.eq_nil_of_length_eq_zero hz
        subst this
        exact .inl ⟨⟨_, _, rfl⟩, rfl⟩
      · have at_ : ∀ j (hj : j < zs.length), w.cell? ⟨g0, off + j, none⟩ = some (encStr zs[j]) := by
          intro j hj
          have q := h4 j zs[j] (by simp [hj]) 0 (.str zs[j]) rfl
          have r := h5 j zs[j] (by simp [hj]) 0 (.str zs[j]) rfl
          obtain ⟨r1, _⟩ := r.str_inv
          have := q.2
          rw [r1] at this
          simpa [width] using this
        exact .inr ⟨g0, off, cap, rfl, size_of_cell (at_ 0 hz), fun j hj => by rw [at_ j hj]; simp [hj]⟩
  refine ⟨fun s hs => ?_, ?_⟩
  · have hw : Wf (.lst .str) zs := ⟨_, _, V.dropTok hvm⟩
    exact (hw.mem (mem_sortS.1 hs)).str
  have hsq := K w b (o + 0) v zs (by unfold maxLen; omega) hcell hst
  refine sorted_calls L eg hN (w := w) ?_
  intro l J W a1 a2 a3 a4 a5
  refine (hsq l J W a1 a2 a3 a4 a5).mono ?_
  rintro e W' ⟨h1, xs, rfl, h3⟩
  exact ⟨h1, xs, .refl _, h3⟩

end Go.AL
