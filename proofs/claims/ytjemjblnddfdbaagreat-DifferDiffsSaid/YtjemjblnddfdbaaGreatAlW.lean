/-
  The library's sorting by a comparison: what it leaves. No condition.
-/
import Derived.Test.YtjemjblnddfdbaaGreatAlV
import Derived.Shelf.SlSortCmp.Whole1
import Derived.Shelf.Small.Strs
set_option linter.unusedVariables false
set_option linter.unusedSimpArgs false
set_option linter.unnecessarySimpa false
set_option linter.deprecated false
namespace Go.AL
open Go.Proofs Go.RowKit Go.Maps Go.Sort Go.Shelf Go.Lib
variable {P : Program} {ρ : Ren}

theorem compareBytes_lt : ∀ a b : List UInt8, decide (compareBytes a b < 0) = decide (a < b)
  | [], [] => by simp [compareBytes]
  | [], _ :: _ => by simp [compareBytes]
  | _ :: _, [] => by simp [compareBytes]
  | a :: r, b :: s => by
    simp only [compareBytes]
    by_cases h1 : a < b
    · simp [h1, List.cons_lt_cons_iff]
    · by_cases h2 : b < a
      · have : a ≠ b := fun e => by subst e; exact h1 h2
        simp [h1, h2, List.cons_lt_cons_iff, this]
      · have : a = b := UInt8.le_antisymm (UInt8.not_lt.1 h2) (UInt8.not_lt.1 h1)
        subst this
        simp only [h1, if_false, compareBytes_lt r s]
        simp [List.cons_lt_cons_iff, UInt8.lt_irrefl]

/-- The comparison of two places by their names. -/
def CmpC (P : Program) (g : Nat) : Prop :=
  ∀ (W : World) (b o g0 off cap len i j : Nat) (si sj : Str), W.cell? ⟨b, o + 3, none⟩ = some (.slice (some ⟨g0, off, none⟩) len cap) → i < len → j < len →
    W.cell? ⟨g0, off + i, none⟩ = some (encStr si) → W.cell? ⟨g0, off + j, none⟩ = some (encStr sj) →
    Calls P g #[.int .i64 i, .int .i64 j, .pointer (some ⟨b, o, none⟩)] W fun e w' => e = .returned (.int .i64 (compareBytes si sj)) ∧ ∃ q, w' = W.drewN q

/-- Places, by their names. -/
def nameAt (names : List Str) (i : Int) : Str := names.getD i.toNat []
def sortIdx (names : List Str) (xs : List Int) : List Int := xs.mergeSort fun i j => decide (nameAt names i ≤ nameAt names j)

theorem toFin {m : Nat} : ∀ (xs : List Int), (∀ x ∈ xs, 0 ≤ x ∧ x < m) → ∃ ps : List (Fin m), xs = ps.map fun i => (i.val : Int)
  | [], _ => ⟨[], rfl⟩
  | x :: r, h => by
    obtain ⟨ps, hp⟩ := toFin r fun y hy => h y (by simp [hy])
    obtain ⟨h1, h2⟩ := h x (by simp)
    exact ⟨⟨x.toNat, by omega⟩ :: ps, by simp [← hp]; omega⟩

/-- What is sorted, and holds the same, is the same. -/
theorem sortIdx_eq {names : List Str} (hnd : names.Nodup) {xs ys : List Int} (hx : ∀ x ∈ xs, 0 ≤ x ∧ x < names.length) (hp : ys.Perm xs) (hs : ys.Pairwise fun i j => nameAt names i ≤ nameAt names j) : ys = sortIdx names xs := by
  have tr : ∀ a b c : Int, decide (nameAt names a ≤ nameAt names b) = true → decide (nameAt names b ≤ nameAt names c) = true → decide (nameAt names a ≤ nameAt names c) = true := fun a b c h1 h2 => by
    simp only [decide_eq_true_eq] at *; exact List.le_trans h1 h2
  have to : ∀ a b : Int, (decide (nameAt names a ≤ nameAt names b) || decide (nameAt names b ≤ nameAt names a)) = true := fun a b => by
    simp only [Bool.or_eq_true, decide_eq_true_eq]; exact List.le_total _ _
  refine List.Perm.eq_of_pairwise (le := fun a b => nameAt names a ≤ nameAt names b) (fun a b ha hb h1 h2 => ?_) hs ?_ (hp.trans (List.mergeSort_perm xs _).symm)
  · have e := List.le_antisymm h1 h2
    obtain ⟨a1, a2⟩ := hx a (hp.mem_iff.1 ha)
    obtain ⟨b1, b2⟩ := hx b (by
      have : b ∈ sortIdx names xs := hb
      exact List.mem_mergeSort.1 this)
    have ha' : a.toNat < names.length := by omega
    have hb' : b.toNat < names.length := by omega
    unfold nameAt at e
    rw [List.getD_eq_getElem?_getD, List.getD_eq_getElem?_getD, List.getElem?_eq_getElem ha', List.getElem?_eq_getElem hb'] at e
    simp only [Option.getD_some] at e
    rcases Nat.lt_trichotomy a.toNat b.toNat with q | q | q
    · rw [List.nodup_iff_pairwise_ne, List.pairwise_iff_getElem] at hnd
      exact absurd e (hnd _ _ ha' hb' q)
    · omega
    · rw [List.nodup_iff_pairwise_ne, List.pairwise_iff_getElem] at hnd
      exact absurd e.symm (hnd _ _ hb' ha' q)
  · have := List.pairwise_mergeSort tr to xs
    exact this.imp fun h => by simpa using h

theorem After.rowG {α : Type} [Inhabited α] (enc : α → Value) {w : World} {pub : Nat → Nat → Prop} {e : Nat → Option CObj} {S : List (Nat × SObj)} {τ : Ty} (hw : width τ = 1)
    (hp : PubOK w pub) (hs : ∀ id o, bget S id = some o → SlotOK ⟨e, w, pub⟩ (fun _ _ => True) id o) (hd : ∀ id, bget S id = none → e id = none) (hi : Inj e)
    {k b q : Nat} {xs ys : List (den τ)} {d0 d : Array α} {gs : Array Obj} (hk : bget S k = some (.box (.row τ xs))) (he : e k = some (.box b 0 xs.length)) (hl : ys.length = xs.length) (hb : b < w.heap.size)
    (hH : Go.Sort.Holds enc w b 0 d0) (h0 : d0.size = xs.length) (h1 : d.size = xs.length) (hv : ∀ (j : Nat) (y : den τ) (c : AV), ys[j]? = some y → (cells τ y)[0]? = some c → ∀ Ω, V Ω c (enc d[j]!)) (hc1 : ∀ y : den τ, ∃ c, (cells τ y)[0]? = some c) :
    After w pub e (bget (putB S [(k, .box (.row τ ys))])) (grow (putRow enc (Sort.ahead w q) b 0 d) gs) (fun b o => pub b o ∨ False) (fun i => if k = i then some (.box b 0 (parts' (.row τ xs)).length) else e i) := by
  have hsz : (putRow enc (Sort.ahead w q) b 0 d).heap.size = w.heap.size := by simp
  have old : ∀ j, j < w.heap.size → (grow (putRow enc (Sort.ahead w q) b 0 d) gs).heap[j]? = (putRow enc (Sort.ahead w q) b 0 d).heap[j]? := by
    intro j hj
    unfold grow
    simp only
    rw [Array.getElem?_append_left (by rw [hsz]; exact hj)]
  have hpl := parts_row1 hw xs
  refine After.row hp hs hd hi hk (by rw [he, hpl]) (by rw [parts_row1 hw, parts_row1 hw, hl]) rfl rfl rfl (by simp [grow]) (fun b' k1 k2 => ?_) (fun j hj => ?_) ⟨?_, fun o => ?_⟩ (fun j c0 hc => ?_)
  · rw [old b' k1, heap_putRow enc (Sort.ahead w q) b d b' (by rw [hpl] at k2; rcases k2 with k2 | k2; exact .inl k2; exact .inr (by omega))]
    rfl
  · rw [cell_of_block (old b hb) j, cell?_putRow_other enc (Sort.ahead w q) b 0 d ⟨b, j, none⟩ (.inr (.inr (by rw [hpl] at hj; show 0 + d.size ≤ j; omega)))]
    rfl
  · rw [shape_of_block (old b hb), shape_putRow]
    rfl
  · rw [frozen_of_block (old b hb) o, frozen?_putRow]
    rfl
  · have hj : j < ys.length := by
      rw [← parts_row1 hw ys]
      rcases Nat.lt_or_ge j (parts' (.row τ ys)).length with q | q
      · exact q
      · rw [List.getElem?_eq_none q] at hc; cases hc
    obtain ⟨c1, hc1⟩ := hc1 ys[j]
    rw [parts_row1_get hw ys j ys[j] c1 (by simp [hj]) hc1] at hc
    cases hc
    refine ⟨enc d[j]!, ?_, hv j ys[j] _ (by simp [hj]) hc1⟩
    rw [cell_of_block (old b hb) j]
    have := cell?_putRow enc (Sort.ahead w q) b 0 d0 d hH (by omega) j (by omega)
    rw [Nat.zero_add] at this
    exact this

theorem sortWorld_cell {α : Type} [Inhabited α] (enc : α → Value) {w : World} {b m b2 o2 : Nat} {d : Array α} {os : Array Obj} {v : Value} (h : w.cell? ⟨b2, o2, none⟩ = some v) (hn : b2 ≠ b ∨ d.size ≤ o2) :
    (sortWorld enc w b 0 m d os).cell? ⟨b2, o2, none⟩ = some v := by
  have hb := size_of_cell h
  have old : (sortWorld enc w b 0 m d os).heap[b2]? = (putRow enc (Sort.ahead w m) b 0 d).heap[b2]? := by
    unfold sortWorld grow
    simp only
    rw [Array.getElem?_append_left (by simp; exact hb)]
  rw [cell_of_block old o2, cell?_putRow_other enc (Sort.ahead w m) b 0 d ⟨b2, o2, none⟩ (by
    rcases hn with hn | hn
    · exact .inl hn
    · exact .inr (.inr (by show 0 + d.size ≤ o2; omega)))]
  exact h

set_option maxHeartbeats 1000000 in
theorem meets_sortFunc (L : SlLaysF.n6 P ρ) {g : Nat} (eg : ∀ args w, (callFunc g args).run P w = .ok (.enter g args) w) (C : CmpC P g) (s : Shape) (n : Nat) (xs : List Int) (hn : n = xs.length) (h0 : xs ≠ [])
    (hx : ∀ x ∈ xs, 0 ≤ x ∧ x < s.names.length) (hnd : s.names.Nodup) (hbig : xs.length < 4611686018427387904) (ob : Option Prop) :
    Meets P (ρ.f 6) [.arr 900 n 1, .fn g [.ptr 901 0]] [(900, .box (.row (.int .i64) xs)), (901, .box (.st .shape s))] ⟨ob, none, .tup [], [(900, .box (.row (.int .i64) (sortIdx s.names xs)))]⟩ := by
  subst hn
  intro w pub e vs hp hv hs hd hi
  obtain ⟨v1, v2, rfl, h1, h2⟩ := VL.two_inv hv
  obtain ⟨us, rfl, hus⟩ := h2.fn_inv
  obtain ⟨u, rfl, hu⟩ := VL.one_inv hus
  obtain ⟨b, o, len', rfl, he1⟩ := hu.ptr_inv
  have he1 : e 901 = some (.box b o len') := he1
  have hpos : 0 < xs.length := List.length_pos_iff.2 h0
  have hm : 0 < s.names.length := by
    obtain ⟨x, hx'⟩ := List.exists_mem_of_ne_nil xs h0
    have := hx x hx'
    omega
  cases h1 with
  | arr _ _ _ blk len cap a he q2 q3 q4 q5 =>
    have he : e 900 = some (.box blk 0 len) := he
    obtain rfl : a = some ⟨blk, 0, none⟩ := by
      rcases q5 with h | ⟨_, h, _⟩
      · exact h
      · omega
    obtain ⟨blk', off', he', hrow⟩ := hs 900 _ rfl
    have he' : e 900 = some (.box blk' off' (parts' (.row (.int .i64) xs)).length) := he'
    rw [he] at he'
    simp only [Option.some.injEq, CObj.box.injEq] at he'
    obtain ⟨rfl, rfl, hlen⟩ := he'
    rw [parts_row1 (τ := .int .i64) rfl xs] at hlen
    subst hlen
    obtain ⟨b', o', he2, hbox⟩ := hs 901 _ rfl
    have he2 : e 901 = some (.box b' o' (parts' (.st .shape s)).length) := he2
    rw [he1] at he2
    simp only [Option.some.injEq, CObj.box.injEq] at he2
    obtain ⟨rfl, rfl, rfl⟩ := he2
    obtain ⟨_, _, _, vv, hcell, hvv⟩ := hbox 3 (.lst .str s.names none) rfl
    have q901 : ∀ o2, o ≤ o2 → o2 < o + 5 → b ≠ blk ∨ xs.length ≤ o2 := by
      intro o2 k1 k2
      rcases Nat.lt_or_ge o2 xs.length with h | h
      · refine .inl fun e => ?_
        subst e
        have := hi 900 901 _ _ b o2 he he1 ⟨rfl, by omega, by omega⟩ ⟨rfl, k1, k2⟩
        omega
      · exact .inr h
    have qpub : ∀ b2 o2, pub b2 o2 → b2 ≠ blk ∨ xs.length ≤ o2 := by
      intro b2 o2 hp2
      rcases Nat.lt_or_ge o2 xs.length with h | h
      · refine .inl fun e => ?_
        subst e
        have hj : o2 < (parts' (.row (.int .i64) xs)).length := by rw [parts_row1 (τ := .int .i64) rfl xs]; exact h
        have := (hrow o2 _ (List.getElem?_eq_getElem hj)).2.1
        rw [Nat.zero_add] at this
        exact this hp2
      · exact .inr h
    clear hbox
    generalize s.names = nm at hx hnd hm hvv ⊢
    obtain ⟨ps, hps⟩ := toFin xs hx
    haveI : Inhabited (Fin nm.length) := ⟨⟨0, hm⟩⟩
    have hpsl : ps.length = xs.length := by rw [hps]; simp
    cases hvv with
    | lstNil => exact absurd hm (by simp)
    | lstVoid => exact absurd hm (by simp)
    | lst _ _ _ g0 off cap0 vals r1 r2 r3 r4 r5 =>
      have at_ : ∀ j (hj : j < nm.length), pub g0 (off + j) ∧ w.cell? ⟨g0, off + j, none⟩ = some (encStr nm[j]) := by
        intro j hj
        have q := r4 j nm[j] (by simp [hj]) 0 (.str nm[j]) rfl
        have r := r5 j nm[j] (by simp [hj]) 0 (.str nm[j]) rfl
        obtain ⟨r1, _⟩ := r.str_inv
        rw [r1] at q
        simpa [width] using q
      have hH : Go.Sort.Holds (fun i : Fin nm.length => Value.int .i64 (i.val : Int)) w blk 0 ps.toArray := by
        intro j hj
        have hj' : j < ps.length := by simpa using hj
        have hjx : j < xs.length := by omega
        obtain ⟨_, _, k3, v, k4, k5⟩ := hrow j _ (parts_row1_get (τ := .int .i64) rfl xs j xs[j] (.int .i64 xs[j]) (by simp [hjx]) rfl)
        obtain ⟨rfl, _⟩ := k5.int_inv
        have k4 : w.cell? ⟨blk, 0 + j, none⟩ = some (.int .i64 xs[j]) := k4
        refine ⟨?_, k3⟩
        rw [k4]
        simp [hps, hj']
      have hcmp : CmpLays1 P g #[.pointer (some ⟨b, o + 0, none⟩)] (fun i : Fin nm.length => Value.int .i64 (i.val : Int)) (fun i j => compareBytes nm[i] nm[j]) blk 0 ps.toArray.size w := by
        refine CmpReads.lays fun m os dk hsz x y => ?_
        have hds : dk.size = xs.length := by rw [hsz]; simp [hpsl]
        have c0 := sortWorld_cell (fun i : Fin nm.length => Value.int .i64 (i.val : Int)) (b := blk) (m := m) (d := dk) (os := os) hcell (by rw [hds]; exact q901 (o + 3) (by omega) (by omega))
        have cx := sortWorld_cell (fun i : Fin nm.length => Value.int .i64 (i.val : Int)) (b := blk) (m := m) (d := dk) (os := os) (at_ x.val x.isLt).2 (by rw [hds]; exact qpub _ _ (at_ x.val x.isLt).1)
        have cy := sortWorld_cell (fun i : Fin nm.length => Value.int .i64 (i.val : Int)) (b := blk) (m := m) (d := dk) (os := os) (at_ y.val y.isLt).2 (by rw [hds]; exact qpub _ _ (at_ y.val y.isLt).1)
        exact C _ b (o + 0) g0 off cap0 nm.length x.val y.val nm[x] nm[y] c0 x.isLt y.isLt cx cy
      have hO : SWO (ltOf fun i j : Fin nm.length => compareBytes nm[i] nm[j]) := by
        have e : ∀ i j : Fin nm.length, ltOf (fun i j : Fin nm.length => compareBytes nm[i] nm[j]) i j = ltStr nm[i] nm[j] := fun i j => compareBytes_lt _ _
        exact ⟨fun i => by rw [e]; exact swo_ltStr.irrefl _, fun i j k h1 h2 => by rw [e] at *; exact swo_ltStr.trans _ _ _ h1 h2, fun i j k h1 h2 => by rw [e] at *; exact swo_ltStr.ntrans _ _ _ h1 h2⟩
      have hblk : blk < w.heap.size := size_of_cell (hH 0 (by simp; omega)).1
      have hcall := Any.slices_SortFunc L (fun i : Fin nm.length => Value.int .i64 (i.val : Int)) (fun _ => rfl) (fun i j => compareBytes nm[i] nm[j]) hO g _ blk 0 cap ps.toArray w eg hcmp hH hblk (by simp; omega)
      rw [show ps.toArray.size = xs.length by simp [hpsl]] at hcall
      refine hcall.mono ?_
      rintro en w' ⟨rfl, d', n, os, ⟨hds, _, hperm⟩, hsort, rfl⟩
      have hd' : d'.size = xs.length := by rw [hds]; simp [hpsl]
      have hys : d'.toList.map (fun i => (i.val : Int)) = sortIdx nm xs := by
        refine sortIdx_eq hnd hx ?_ ?_
        · rw [hps]
          refine List.Perm.map _ ?_
          have e1 : d'.extract 0 xs.length = d' := by rw [← hd']; simp
          have e2 : ps.toArray.extract 0 xs.length = ps.toArray := by rw [← hpsl]; simp
          rw [e1, e2] at hperm
          simpa using hperm
        · rw [List.pairwise_map, List.pairwise_iff_getElem]
          intro i j hi hj hij
          have hi' : i < d'.size := by simpa using hi
          have hj' : j < d'.size := by simpa using hj
          have := hsort i j (Nat.zero_le _) hij (by omega)
          have e := compareBytes_lt nm[d'[j]!] nm[d'[i]!]
          unfold ltOf at this
          rw [e] at this
          have h3 : ¬ (nm[d'[j]!] < nm[d'[i]!]) := by simpa using this
          have := List.not_lt.1 h3
          simp only [getElem!_pos d' j hj', getElem!_pos d' i hi'] at this
          simpa [nameAt] using this
      have hA := After.rowG (q := n) (gs := os) (τ := .int .i64) (xs := xs) (ys := sortIdx nm xs) (fun i : Fin nm.length => Value.int .i64 (i.val : Int)) (d0 := ps.toArray) (d := d') rfl hp hs hd hi rfl he (by simp [sortIdx]) hblk hH (by simp [hpsl]) hd' (fun j y c hy hc Ω => ?_) (fun y => ⟨_, rfl⟩)
      · exact ⟨_, _, fun _ _ _ h => (by cases h), .tup [] [] rfl (fun j c v hc => by simp at hc), hA⟩
      · cases hc
        rw [← hys] at hy
        have hj : j < d'.size := by
          have := (List.getElem?_eq_some_iff.1 hy).1
          simpa using this
        have : y = (d'[j]!.val : Int) := by
          rw [List.getElem?_map] at hy
          simp [hj] at hy
          rw [getElem!_pos d' j hj]
          exact hy.symm
        subst this
        obtain ⟨b1, b2⟩ := i64_len (n := d'[j]!.val) (by have := d'[j]!.isLt; omega)
        exact .int .i64 _ b1 b2

end Go.AL
