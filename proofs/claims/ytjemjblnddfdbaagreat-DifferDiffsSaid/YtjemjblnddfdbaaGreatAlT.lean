/-
  Texts that are written piece by piece: what the library's two functions leave. No condition.
-/
import Derived.Test.YtjemjblnddfdbaaGreatAlS
import Derived.Shelf.Strings.BuilderF
set_option linter.unusedVariables false
set_option linter.unusedSimpArgs false
set_option linter.unnecessarySimpa false
set_option linter.deprecated false
namespace Go.AL
open Go.Proofs Go.Shelf Go.RowKit
variable {P : Program} {ρ : Ren}

/-- All but one block (and, maybe, a second one) stands as it stood. -/
structure But (w w' : World) (b : Nat) (g : Option Nat) : Prop where
  os : w'.os = w.os
  tape : w'.tape = w.tape
  output : w'.output = w.output
  size : w.heap.size ≤ w'.heap.size
  block : ∀ k, k < w.heap.size → k ≠ b → g ≠ some k → w'.heap[k]? = w.heap[k]?

theorem But.refl (w : World) (b : Nat) (g : Option Nat) : But w w b g := ⟨rfl, rfl, rfl, Nat.le_refl _, fun _ _ _ _ => rfl⟩
theorem But.drew {w w' : World} {b : Nat} {g : Option Nat} (h : But w w' b g) : But w w'.drew b g := ⟨h.os, h.tape, h.output, h.size, h.block⟩
theorem But.set {w w' : World} {b : Nat} {g : Option Nat} (h : But w w' b g) (o : Nat) (v : Value) : But w (w'.setCell ⟨b, o, none⟩ v) b g :=
  ⟨h.os, h.tape, h.output, by simpa using h.size, fun k h1 h2 h3 => (Below.heap_setCell w' ⟨b, o, none⟩ v k h2).trans (h.block k h1 h2 h3)⟩
theorem But.grown {w w' w2 : World} {b : Nat} {g : Option Nat} (h : But w w' b g) (k : w'.grownBy w2 g) : But w w2 b g :=
  ⟨k.os.trans h.os, k.tape.trans h.tape, k.output.trans h.output, Nat.le_trans h.size k.size, fun j h1 h2 h3 => (k.block j (Nat.lt_of_lt_of_le h1 h.size) fun e => h3 e.symm).trans (h.block j h1 h2 h3)⟩
theorem But.freeze {w w' : World} {b g : Nat} (h : But w w' b (some g)) (n : Nat) : But w (w'.freeze ⟨g, 0, none⟩ n) b (some g) := by
  unfold World.freeze
  split
  · exact h
  · refine ⟨h.os, h.tape, h.output, by simpa using h.size, fun k h1 h2 h3 => ?_⟩
    simp only [Array.getElem?_modify]
    rw [if_neg (fun e => h3 (by rw [e]))]
    exact h.block k h1 h2 h3

theorem byteCells_str (s : Str) : Lib.strCells ⟨s.toArray⟩ = Lib.byteCells s := by
  simp [Lib.strCells, Lib.byteCells]

/-- What the library's check for copies does. -/
structure CC (P : Program) (ρ : Ren) : Prop where
  enters : ∀ args w, (callFunc (ρ.f 240) args).run P w = .ok (.enter (ρ.f 240) args) w
  used : ∀ (b : Nat) (w : World), w.cell? ⟨b, 0, none⟩ = some (.pointer (some ⟨b, 0, none⟩)) → Calls P (ρ.f 240) #[.pointer (some ⟨b, 0, none⟩)] w fun e w' => e = .returned (.tuple #[]) ∧ w' = w
  fresh : ∀ (b : Nat) (w : World), w.cell? ⟨b, 0, none⟩ = some (.pointer none) → w.shape? b = some ((ρ.t 72), 2) → w.frozen? ⟨b, 0, none⟩ = false →
    Calls P (ρ.f 240) #[.pointer (some ⟨b, 0, none⟩)] w fun e w' => e = .returned (.tuple #[]) ∧ w' = w.setCell ⟨b, 0, none⟩ (.pointer (some ⟨b, 0, none⟩))

/-- The types and the body that writing goes by. -/
structure WL (P : Program) (ρ : Ren) : Prop where
  mixed : P.follows .mixedOrders = true
  f166 : P.funcs[ρ.f 166]? = some (Body.n166 ρ)
  t3 : P.underlying (ρ.t 3) = some (TypeDesc.int IntKind.i64)
  a3 : ∀ w, (isAgg (ρ.t 3)).run P w = .ok false w
  z3 : ∀ w, (Go.sizeOf (ρ.t 3)).run P w = .ok 1 w
  v3 : ∀ w, (zeroValue (ρ.t 3)).run P w = .ok (Value.int IntKind.i64 0) w
  t9 : P.underlying (ρ.t 9) = some (TypeDesc.string)
  a9 : ∀ w, (isAgg (ρ.t 9)).run P w = .ok false w
  z9 : ∀ w, (Go.sizeOf (ρ.t 9)).run P w = .ok 1 w
  v9 : ∀ w, (zeroValue (ρ.t 9)).run P w = .ok (Value.string { data := #[] }) w
  t37 : P.underlying (ρ.t 37) = some (TypeDesc.slice (ρ.t 5))
  a37 : ∀ w, (isAgg (ρ.t 37)).run P w = .ok false w
  z37 : ∀ w, (Go.sizeOf (ρ.t 37)).run P w = .ok 1 w
  v37 : ∀ w, (zeroValue (ρ.t 37)).run P w = .ok (Value.slice none 0 0) w
  t70 : P.underlying (ρ.t 70) = some (TypeDesc.pointer (ρ.t 72))
  a70 : ∀ w, (isAgg (ρ.t 70)).run P w = .ok false w
  z70 : ∀ w, (Go.sizeOf (ρ.t 70)).run P w = .ok 1 w
  v70 : ∀ w, (zeroValue (ρ.t 70)).run P w = .ok (Value.pointer none) w
  t72 : P.underlying (ρ.t 72) = some (TypeDesc.struct #[{ name := "addr", type := ρ.t 70, offset := 0, embedded := false, tag := "", pkgPath := "strings", byteOffset := 0 }, { name := "buf", type := ρ.t 37, offset := 1, embedded := false, tag := "", pkgPath := "strings", byteOffset := 8 }])
  a72 : ∀ w, (isAgg (ρ.t 72)).run P w = .ok true w
  z72 : ∀ w, (Go.sizeOf (ρ.t 72)).run P w = .ok 2 w
  v72 : ∀ w, (zeroValue (ρ.t 72)).run P w = .ok (Value.agg #[Value.pointer none, Value.slice none 0 0]) w

set_option maxHeartbeats 2000000 in
set_option maxRecDepth 100000 in
theorem copyCheck_but (C : CC P ρ) (b : Nat) (g : Option Nat) (l : Str) (w : World) (h : BldOK w (ρ.t 72) (ρ.t 5) b g l) :
    Calls P (ρ.f 240) #[.pointer (some ⟨b, 0, none⟩)] w fun e w' => e = .returned (.tuple #[]) ∧ But w w' b g ∧
      ∃ v, v.ownBlock = g ∧ w'.heap[b]? = some (.cells #[.pointer (some ⟨b, 0, none⟩), v] (ρ.t 72) (0, 0)) ∧ w'.ownsRowF 0 (ρ.t 5) 1 v l.length (Lib.byteCells l) ∧ g ≠ some b ∧ (l = [] → v = .slice none 0 0) := by
  obtain ⟨p, v, h1, h2, h3, h4, h5, h6⟩ := h
  rcases h2 with rfl | rfl
  · refine (C.fresh b w (by rw [Lib.cell_of_heap h1]; rfl) (by simp [World.shape?, h1]) (Lib.frozen_of_heap h1 0)).mono ?_
    rintro e w' ⟨rfl, rfl⟩
    have hA : Lib.BuilderAtF (ρ.t 72) (ρ.t 5) 0 b (.pointer none) (Lib.byteCells l) w := ⟨Nat.zero_le _, v, h1, by rwa [Lib.byteCells_length], by rw [h3]; exact h4⟩
    obtain ⟨_, v', k1, k2, k3⟩ := hA.used (.pointer (some ⟨b, 0, none⟩))
    have hv : v' = v := by
      have e1 : (w.setCell ⟨b, 0, none⟩ (.pointer (some ⟨b, 0, none⟩))).cell? ⟨b, 1, none⟩ = some v' := by rw [Lib.cell_of_heap k1]; rfl
      have e2 : w.cell? ⟨b, 1, none⟩ = some v := by rw [Lib.cell_of_heap h1]; rfl
      have e3 : (w.setCell ⟨b, 0, none⟩ (.pointer (some ⟨b, 0, none⟩))).cell? ⟨b, 1, none⟩ = w.cell? ⟨b, 1, none⟩ := by
        simp [World.cell?, World.setCell, h1, Array.getElem?_modify]
      rw [e3, e2] at e1
      exact (Option.some.inj e1).symm
    subst hv
    exact ⟨rfl, (But.refl w b g).set 0 _, v', h3, k1, by rwa [Lib.byteCells_length] at k2, h4, h6⟩
  · refine (C.used b w (by rw [Lib.cell_of_heap h1]; rfl)).mono ?_
    rintro e w' ⟨rfl, rfl⟩
    exact ⟨rfl, But.refl _ _ _, v, h3, h1, h5, h4, h6⟩

/-- Where a text that is written behind a row lies then: where the row lay, or in a new block. -/
theorem append_where {w : World} (t u ty e : TypeId) (i : TypeInfo) (ht : P.underlying t = some (.slice e)) (hu : P.underlying u = some .string) (hi : P.info? e = some i) (hz : i.zero = some (.int .u8 0))
    (hsize : i.size = 1) (hby : i.bytes = 1) (v : Value) (n : Nat) (xs : List Value) (hown : w.ownsRowF 0 e 1 v n xs) (s : ByteArray)
    (h63 : n + s.size ≤ maxLen) (hbytes : n + s.size ≤ 140737488355328) {v' : Value} {w' : World} (hr : (Builtin.append_ #[t, u] ty #[v, .string s]).run P w = .ok v' w') :
    ∀ k, v'.ownBlock = some k → v.ownBlock = some k ∨ w.heap.size ≤ k := by
  intro k hk
  rcases hown.2 with ⟨rfl, rfl⟩ | ⟨g, cap, cur, fz, rfl, hbg, hg, hfz, hnc, hcm, hcs, htake⟩
  · obtain ⟨v2, w2, h1, h2, _, _⟩ := Lib.run_append_own_string (P := P) w w.heap.size t u ty e i ht hu hi hz hsize hby (.slice none 0 0) 0 xs ⟨hown.1, .inl ⟨rfl, rfl⟩⟩ s h63 hbytes (Nat.le_refl _)
    rw [hr] at h1
    cases h1
    exact .inr (h2.lt k hk).1
  · have hsmall : n + s.size ≤ 9223372036854775807 := by simp only [maxLen] at h63; omega
    by_cases hroom : n + s.size ≤ cap
    · have hcs' : cur.size = cap := by simpa using hcs
      have h1 := Lib.run_append_room_stringF (P := P) w t u ty e i ht hu hi hsize g n cap cur fz hg (by simpa using hfz) s hroom (by omega)
      rw [hr] at h1
      cases h1
      exact .inl hk
    · have hxl : xs.length = n := by simpa using hown.1
      have holds : ∀ j u, xs[j]? = some u → w.cell? ((⟨g, 0, none⟩ : Addr).add j) = some u := hown.cells (g := g) rfl
      have h1 := Lib.run_append_grow_string (P := P) w t u ty e i (.int .u8 0) ht hu hi hz ⟨g, 0, none⟩ n cap xs (by rw [hsize]; simpa using hxl) holds s (by omega) (by omega) (by rw [hby]; exact growslice_fits (by omega) (by omega))
      rw [hr] at h1
      cases h1
      cases hk
      exact .inr (Nat.le_refl _)

theorem wpList_append_str {ops : Array Oper} {rest : List Oper} {o : Oper} {a : Act} {w : World} {Q : Exit → Act → World → Prop} (hgd : o.guard = none) (sl x : Operand) (t u : TypeId)
    (ho : o.op = .call { callee := .builtin .append, args := #[sl, x], argTypes := #[t, u] })
    (e : TypeId) (i : TypeInfo) (ht : P.underlying t = some (.slice e)) (hu : P.underlying u = some .string) (hi : P.info? e = some i) (hz : i.zero = some (.int .u8 0))
    (hsize : i.size = 1) (hby : i.bytes = 1)
    (v : Value) (n : Nat) (xs : List Value) (hs : a.eval sl = v) (hown : w.ownsRowF 0 e 1 v n xs) (s : ByteArray) (hx : a.eval x = .string s)
    (h63 : n + s.size ≤ maxLen) (hbytes : n + s.size ≤ 140737488355328)
    (h : ∀ v' w', w'.ownsRowF 0 e 1 v' (n + s.size) (xs ++ Lib.strCells s) → w.grownBy w' v.ownBlock → (v' = .slice none 0 0 ↔ v = .slice none 0 0 ∧ s.size = 0) → (∀ k, v'.ownBlock = some k → v.ownBlock = some k ∨ w.heap.size ≤ k) → wpList P ops Q rest (a.put o.dst v') w') : wpList P ops Q (o :: rest) a w := by
  refine wpList_plain hgd fun K hK => ?_
  obtain ⟨v', w', hr, h2, h3, h4⟩ := Lib.run_append_own_stringF (P := P) w 0 t u o.type e i ht hu hi hz hsize hby v n xs hown s h63 hbytes (Nat.zero_le _)
  have hw := append_where t u o.type e i ht hu hi hz hsize hby v n xs hown s h63 hbytes hr
  unfold Oper.wp execOp
  simp only [ho, resolve, invoke, builtin, Sem.run_bind, Sem.run_pure, Result.andThen_ok, List.map_toArray, List.map_cons, List.map_nil, hs, hx, hr]
  exact hK _ _ (h v' w' h2 h3 h4 hw)

set_option maxHeartbeats 2000000 in
set_option maxRecDepth 100000 in
theorem writeString_but (L : WL P ρ) (C : CC P ρ) (X : Builder.Extra P ρ) (b : Nat) (g : Option Nat) (l s : Str) (w : World) (h : BldOK w (ρ.t 72) (ρ.t 5) b g l) (hlen : l.length + s.length ≤ 140737488355328) :
    Calls P (ρ.f 166) #[.pointer (some ⟨b, 0, none⟩), .string ⟨s.toArray⟩] w fun e w' => e = .returned (.tuple #[.int .i64 s.length, .nilIface]) ∧ But w w' b g ∧
      ∃ g', BldOK w' (ρ.t 72) (ρ.t 5) b g' (l ++ s) ∧ ∀ k, g' = some k → g = some k ∨ w.heap.size ≤ k := by
  obtain ⟨i0, hi, hz0, hz1, hz2⟩ := info_parts X.infoByte
  have mixed := L.mixed
  have t72 := L.t72; have a72 := L.a72; have z72 := L.z72; have v72 := L.v72; have u72 := run_underlying L.t72
  have t70 := L.t70; have a70 := L.a70; have z70 := L.z70; have v70 := L.v70; have u70 := run_underlying L.t70
  have t37 := L.t37; have a37 := L.a37; have z37 := L.z37; have v37 := L.v37; have u37 := run_underlying L.t37
  have t3 := L.t3; have a3 := L.a3; have z3 := L.z3; have v3 := L.v3; have u3 := run_underlying L.t3
  have t9 := L.t9; have a9 := L.a9; have z9 := L.z9; have v9 := L.v9; have u9 := run_underlying L.t9
  have t5 := X.t5; have a5 := X.a5; have z5 := X.z5; have v5 := X.v5; have u5 := run_underlying X.t5
  have e240 := C.enters
  have hss : (⟨s.toArray⟩ : ByteArray).size = s.length := by simp [ByteArray.size]
  rw [← hss]
  rw [← hss] at hlen
  go_enter L.f166, Body.n166_ntmps ρ
  go_wp2_with (go_at_fn (ρ.f 240); refine (copyCheck_but C b g l _ h).mono ?_)
  rintro e w1 ⟨rfl, hb1, v, hvg, hbk, hown, hne, hem⟩
  have c0 : w1.cell? ⟨b, 0, none⟩ = some (.pointer (some ⟨b, 0, none⟩)) := by rw [Lib.cell_of_heap hbk]; rfl
  have c1 : w1.cell? ⟨b, 1, none⟩ = some v := by rw [Lib.cell_of_heap hbk]; rfl
  go_wp2_with (at_builtin; refine wpList_append_str rfl _ _ (ρ.t 37) (ρ.t 9) rfl (ρ.t 5) i0 L.t37 L.t9 hi hz0 hz1 hz2 _ _ _ rfl hown ⟨s.toArray⟩ rfl ?c3 ?c4 ?_)
  case c3 => unfold maxLen; omega
  case c4 => omega
  intro v' w2 hown' hgrow hnil hwh
  have hlt : b < w1.heap.size := (Array.getElem?_eq_some_iff.1 hbk).1
  have hb2 : w2.heap[b]? = some (.cells #[.pointer (some ⟨b, 0, none⟩), v] (ρ.t 72) (0, 0)) := by
    rw [hgrow.block b hlt (fun e => hne (hvg ▸ e.symm))]
    exact hbk
  have d0 : w2.cell? ⟨b, 0, none⟩ = some (.pointer (some ⟨b, 0, none⟩)) := by rw [Lib.cell_of_heap hb2]; rfl
  have d1 : w2.cell? ⟨b, 1, none⟩ = some v := by rw [Lib.cell_of_heap hb2]; rfl
  have f1 : w2.frozen? ⟨b, 1, none⟩ = false := Lib.frozen_of_heap hb2 1
  obtain ⟨ao, n', cap, rfl⟩ : ∃ ao n' cap, v' = .slice ao n' cap := by
    rcases hown'.2 with ⟨hv, _⟩ | ⟨g, cap, cur, fz, hv, _⟩
    · exact ⟨_, _, _, hv⟩
    · exact ⟨_, _, _, hv⟩
  go_wp2
  go_ret2
  have hcat : Lib.byteCells l ++ Lib.strCells ⟨s.toArray⟩ = Lib.byteCells (l ++ s) := by rw [byteCells_str]; simp [Lib.byteCells]
  have hA : Lib.BuilderAtF (ρ.t 72) (ρ.t 5) 0 b (.pointer (some ⟨b, 0, none⟩)) (Lib.byteCells (l ++ s)) (w2.setCell ⟨b, 1, none⟩ (.slice ao n' cap)) :=
    Lib.BuilderAtF.put (T := (ρ.t 72)) (e := (ρ.t 5)) (Nat.zero_le _) hb2 (bs' := Lib.byteCells (l ++ s)) (by rw [← hcat, List.length_append, Lib.byteCells_length, Lib.strCells_length]; exact hown') X.neB5
  refine ⟨rfl, (hb1.grown (hvg ▸ hgrow)).set 1 _, ?_⟩
  obtain ⟨_, v2, k1, k2, k3⟩ := hA
  have hv2 : v2 = .slice ao n' cap := by
    have e1 : (w2.setCell ⟨b, 1, none⟩ (.slice ao n' cap)).cell? ⟨b, 1, none⟩ = some v2 := by rw [Lib.cell_of_heap k1]; rfl
    have e3 : (w2.setCell ⟨b, 1, none⟩ (.slice ao n' cap)).cell? ⟨b, 1, none⟩ = some (.slice ao n' cap) := by
      simp [World.cell?, World.setCell, hb2, Array.getElem?_modify]
    rw [e3] at e1
    exact (Option.some.inj e1).symm
  subst hv2
  refine ⟨_, ⟨_, _, k1, .inr rfl, rfl, k3, by rwa [Lib.byteCells_length] at k2, fun e => hnil.2 ⟨hem (List.append_eq_nil_iff.1 e).1, by rw [(List.append_eq_nil_iff.1 e).2]⟩⟩, fun k hk => ?_⟩
  rcases hwh k hk with h' | h'
  · exact .inl (hvg ▸ h')
  · exact .inr (Nat.le_trans hb1.size h')

set_option maxHeartbeats 2000000 in
set_option maxRecDepth 100000 in
theorem string_but (L : Lays.n169 P ρ) (X : Builder.Extra P ρ) (b : Nat) (g : Option Nat) (l : Str) (w : World) (h : BldOK w (ρ.t 72) (ρ.t 5) b g l) :
    Calls P (ρ.f 169) #[.pointer (some ⟨b, 0, none⟩)] w fun e w' => e = .returned (.string ⟨l.toArray⟩) ∧ But w w' b g ∧ BldOK w' (ρ.t 72) (ρ.t 5) b g l := by
  obtain ⟨p, v, hbk, hp, hvg, hne, hown, hem⟩ := h
  by_cases h0 : l = []
  · obtain rfl := hem h0
    subst h0
    refine (Any.Builder_String_nil L X w.heap.size b p w hbk).mono ?_
    rintro e w' ⟨rfl, hb⟩
    have hlt : b < w.heap.size := (Array.getElem?_eq_some_iff.1 hbk).1
    exact ⟨rfl, ⟨hb.os, hb.tape, hb.output, hb.size, fun k hk _ _ => hb.block k hk⟩, p, _, (hb.block b hlt).trans hbk, hp, hvg, hne, World.ownsRowF_nil _ _ _ _, fun _ => rfl⟩
  have hl0 : l.length ≠ 0 := by simpa using h0
  obtain ⟨g', cap, cur, fz, rfl, hbg, hg, hfz, hnc, hcm, hcs, htake⟩ : ∃ g cap cur fz, v = .slice (some ⟨g, 0, none⟩) l.length cap ∧ 0 ≤ g ∧ w.heap[g]? = some (.cells cur (ρ.t 5) fz) ∧ fz.2 ≤ l.length * 1 ∧ l.length ≤ cap ∧ cap ≤ maxLen ∧ cur.size = cap * 1 ∧ cur.toList.take (l.length * 1) = Lib.byteCells l := by
    rcases hown.2 with ⟨_, hz⟩ | ⟨g, cap, cur, fz, hv, r⟩
    · exact absurd hz hl0
    · exact ⟨g, cap, cur, fz, hv, r⟩
  obtain rfl : some g' = g := hvg
  have c1 : w.drew.cell? ⟨b, 1, none⟩ = some (.slice (some ⟨g', 0, none⟩) l.length cap) := by
    have : w.drew.heap[b]? = some (.cells #[p, .slice (some ⟨g', 0, none⟩) l.length cap] (ρ.t 72) (0, 0)) := hbk
    rw [Lib.cell_of_heap this]; rfl
  have hSD : (Builtin.unsafeSliceData_ #[(ρ.t 37)] (ρ.t 127) #[.slice (some ⟨g', 0, none⟩) l.length cap]).run P w.drew = .ok (.pointer (some ⟨g', 0, none⟩)) w.drew :=
    Lib.run_unsafeSliceData_row _ _ _ _ _ _ (by omega)
  have hUS : (Builtin.unsafeString_ #[(ρ.t 127), (ρ.t 3)] (ρ.t 9) #[.pointer (some ⟨g', 0, none⟩), .int .i64 l.length]).run P w.drew = .ok (.string ⟨l.toArray⟩) (w.drew.freeze ⟨g', 0, none⟩ l.length) := by
    refine Lib.run_unsafeString_row w.drew (ρ.t 127) (ρ.t 3) (ρ.t 9) (ρ.t 5) L.t127 X.cellsByte g' cur.size (by have hg' : w.drew.heap[g']? = some (.cells cur (ρ.t 5) fz) := hg; simp [World.shape?, hg']) l h0 (by omega) (by unfold maxLen at hcm; omega) ?_
    intro j x hx
    have := hown.cells (g := g') rfl j (.int .u8 x.toNat) (by simp [Lib.byteCells, hx])
    exact this
  have hA : Lib.BuilderAtF (ρ.t 72) (ρ.t 5) 0 b p (Lib.byteCells l) w.drew := ⟨Nat.zero_le _, _, hbk, by rw [Lib.byteCells_length]; exact hown, hne⟩
  have hF := hA.froze (g := g') (cap := cap) (by rw [Lib.byteCells_length]; exact c1)
  rw [Lib.byteCells_length] at hF
  have hbut : But w (w.drew.freeze ⟨g', 0, none⟩ l.length) b (some g') := (But.refl w b (some g')).drew.freeze _
  have hkeep : BldOK (w.drew.freeze ⟨g', 0, none⟩ l.length) (ρ.t 72) (ρ.t 5) b (some g') l := by
    obtain ⟨_, v2, k1, k2, k3⟩ := hF
    have hbg' : b ≠ g' := fun e => hne (by rw [e])
    have hv2 : v2 = .slice (some ⟨g', 0, none⟩) l.length cap := by
      have e1 : (w.drew.freeze ⟨g', 0, none⟩ l.length).cell? ⟨b, 1, none⟩ = some v2 := by rw [Lib.cell_of_heap k1]; rfl
      have e2 : (w.drew.freeze ⟨g', 0, none⟩ l.length).heap[b]? = w.drew.heap[b]? := by
        unfold World.freeze
        split
        · rfl
        · simp only [Array.getElem?_modify]
          rw [if_neg (fun e => hbg' e.symm)]
      rw [cell_of_block e2, c1] at e1
      exact (Option.some.inj e1).symm
    subst hv2
    exact ⟨p, _, k1, hp, rfl, hne, by rwa [Lib.byteCells_length] at k2, fun e => absurd e h0⟩
  have mixed := L.mixed
  have t72 := L.t72; have a72 := L.a72; have z72 := L.z72; have v72 := L.v72; have u72 := run_underlying L.t72
  have t70 := L.t70; have a70 := L.a70; have z70 := L.z70; have v70 := L.v70; have u70 := run_underlying L.t70
  have t37 := L.t37; have a37 := L.a37; have z37 := L.z37; have v37 := L.v37; have u37 := run_underlying L.t37
  have t127 := L.t127; have a127 := L.a127; have z127 := L.z127; have v127 := L.v127; have u127 := run_underlying L.t127
  have t3 := L.t3; have a3 := L.a3; have z3 := L.z3; have v3 := L.v3; have u3 := run_underlying L.t3
  have t9 := L.t9; have a9 := L.a9; have z9 := L.z9; have v9 := L.v9; have u9 := run_underlying L.t9
  have t5 := X.t5; have a5 := X.a5; have z5 := X.z5; have v5 := X.v5; have u5 := run_underlying X.t5
  go_enter L.f169, Body.n169_ntmps ρ
  go_wp2
  go_region_o
  all_goals (go_wp2; go_ret; exact ⟨rfl, hbut, hkeep⟩)

theorem After.bld {w w' : World} {pub : Nat → Nat → Prop} {e : Nat → Option CObj} {S : List (Nat × SObj)}
    (hp : PubOK w pub) (hs : ∀ id o, bget S id = some o → SlotOK ⟨e, w, pub⟩ (fun _ _ => True) id o) (hd : ∀ id, bget S id = none → e id = none) (hi : Inj e)
    {k b : Nat} {g g' : Option Nat} {t u t' u' : Nat} {l l' : Str} (hk : bget S k = some (.bld t u l)) (he : e k = some (.bld b g)) (hb : But w w' b g) (hB : BldOK w' t' u' b g' l') (hg : ∀ x, g' = some x → g = some x ∨ w.heap.size ≤ x) :
    After w pub e (bget (putB S [(k, .bld t' u' l')])) w' (fun b o => pub b o ∨ False) (fun i => if k = i then some (.bld b g') else e i) := by
  obtain ⟨b0, g0, he0, hown, _⟩ := hs k _ hk
  have he0 : e k = some (.bld b0 g0) := he0
  rw [he] at he0
  cases he0
  have off : ∀ {b' o}, ¬ occE e k b' o → b' ≠ b ∧ g ≠ some b' := fun h => ⟨fun hb => h ⟨_, he, .inl hb⟩, fun hg => h ⟨_, he, .inr hg⟩⟩
  have hnew : ∀ b' o, occ (.bld b g') b' o → w.heap.size ≤ b' ∨ occE e k b' o := by
    intro b' o ho
    rcases ho with ho | ho
    · exact .inr ⟨_, he, .inl ho⟩
    · rcases hg b' ho with h | h
      · exact .inr ⟨_, he, .inr h⟩
      · exact .inl h
  refine After.slot hp hs hd hi (Q := fun _ _ => False) hb.os hb.tape hb.output hb.size (fun b' h1 h2 => hb.block b' h1 (off (h2 0)).1 (off (h2 0)).2)
    (fun b' o h1 h2 => cell_of_block (hb.block b' h1 (off h2).1 (off h2).2) o) (fun b' h1 h2 => ?_) (fun b' o h => ?_) (fun _ _ h => h.elim) (fun c0 h => ?_) hnew (fun _ => ?_)
  · obtain ⟨o, ho⟩ := Classical.not_forall.1 h2
    have := hb.block b' h1 (off ho).1 (off ho).2
    exact ⟨shape_of_block this, fun o => frozen_of_block this o⟩
  · obtain ⟨v, hv⟩ := hp b' o h
    refine cell_of_block (hb.block b' (size_of_cell hv) (fun e => ?_) (fun e => ?_)) o
    · exact (hown b' (.inl e) o).2 h
    · exact (hown b' (.inr e) o).2 h
  · rw [he] at h
    cases h
    exact rfl
  · refine ⟨b, g', by simp, fun b' hb' o => ⟨?_, fun h => ?_⟩, hB⟩
    · rcases hnew b' o hb' with h | ⟨c, h1, h2⟩
      · exact .inl h
      · exact .inr ⟨k, c, h1, h2⟩
    · rcases h with h | h
      · have h : pub b' o := h
        rcases hnew b' o hb' with h2 | ⟨c, h1, h2⟩
        · obtain ⟨v, hv⟩ := hp b' o h
          have := size_of_cell hv
          omega
        · rw [he] at h1
          cases h1
          exact (hown b' h2 o).2 h
      · exact h

theorem V.bptr_inv {Ω : Om} {id : Nat} {v : Value} (h : V Ω (.bptr id) v) : ∃ b g, Ω.e id = some (.bld b g) ∧ v = .pointer (some ⟨b, 0, none⟩) := by
  cases h with
  | bptr _ b g he => exact ⟨b, g, he, rfl⟩

theorem meets_writeString (L : WL P ρ) (C : CC P ρ) (X : Builder.Extra P ρ) (l s : Str) (hlen : l.length + s.length ≤ 140737488355328) :
    Meets P (ρ.f 166) [.bptr 900, .str s] [(900, .bld (ρ.t 72) (ρ.t 5) l)] ⟨some (l.length + s.length ≤ 140737488355328), none, .tup [.int .i64 s.length, .nilif], [(900, .bld (ρ.t 72) (ρ.t 5) (l ++ s))]⟩ := by
  intro w pub e vs hp hv hs hd hi
  obtain ⟨v1, v2, rfl, h1, h2⟩ := VL.two_inv hv
  obtain ⟨b, g, he, rfl⟩ := h1.bptr_inv
  have he : e 900 = some (.bld b g) := he
  obtain ⟨rfl, hsl⟩ : v2 = .string ⟨s.toArray⟩ ∧ s.length ≤ maxN := by cases h2 with | str _ h => exact ⟨rfl, h⟩
  obtain ⟨b0, g0, he0, hown, hB⟩ := hs 900 _ rfl
  have he0 : e 900 = some (.bld b0 g0) := he0
  rw [he] at he0
  cases he0
  refine (writeString_but L C X b g l s w hB hlen).mono ?_
  rintro en w' ⟨rfl, hb, g', hB', hg'⟩
  refine ⟨_, _, fun _ _ _ h => (by cases h), ?_, After.bld hp hs hd hi rfl he hb hB' hg'⟩
  refine .tup _ [_, _] rfl fun j c v hc hv => ?_
  match j, hc, hv with
  | 0, hc, hv => simp at hc hv; subst hc hv; obtain ⟨b1, b2⟩ := i64_len (n := s.length) hsl; exact .int .i64 _ b1 b2
  | 1, hc, hv => simp at hc hv; subst hc hv; exact .nilif
  | j + 2, hc, hv => simp at hc

theorem meets_string (L : Lays.n169 P ρ) (X : Builder.Extra P ρ) (l : Str) (hl : l.length ≤ maxN) :
    Meets P (ρ.f 169) [.bptr 900] [(900, .bld (ρ.t 72) (ρ.t 5) l)] ⟨some (l.length ≤ maxN), none, .str l, [(900, .bld (ρ.t 72) (ρ.t 5) l)]⟩ := by
  intro w pub e vs hp hv hs hd hi
  obtain ⟨v1, rfl, h1⟩ := VL.one_inv hv
  obtain ⟨b, g, he, rfl⟩ := h1.bptr_inv
  have he : e 900 = some (.bld b g) := he
  obtain ⟨b0, g0, he0, hown, hB⟩ := hs 900 _ rfl
  have he0 : e 900 = some (.bld b0 g0) := he0
  rw [he] at he0
  cases he0
  refine (string_but L X b g l w hB).mono ?_
  rintro en w' ⟨rfl, hb, hB'⟩
  exact ⟨_, _, fun _ _ _ h => (by cases h), .str l hl, After.bld hp hs hd hi rfl he hb hB' (fun x h => .inl h)⟩

/-- The two as entries. -/
def patWrite (t u : Nat) : Pat := fun args S =>
  match args, S with
  | [.bptr 900, .str s], [(900, .bld t' u' l)] => if t' = t ∧ u' = u then some ⟨some (l.length + s.length ≤ 140737488355328), none, .tup [.int .i64 s.length, .nilif], [(900, .bld t u (l ++ s))]⟩ else none
  | _, _ => none
def patString (t u : Nat) : Pat := fun args S =>
  match args, S with
  | [.bptr 900], [(900, .bld t' u' l)] => if t' = t ∧ u' = u then some ⟨some (l.length ≤ maxN), none, .str l, [(900, .bld t u l)]⟩ else none
  | _, _ => none
theorem patWrite_ok {f t u : Nat} (L : WL P ρ) (C : CC P ρ) (X : Builder.Extra P ρ) (hf : ρ.f 166 = f) (ht : ρ.t 72 = t) (hu : ρ.t 5 = u) (he : Enters P f) : PatOK P f (patWrite t u) := by
  subst hf ht hu
  intro args S A h hob hkeys
  unfold patWrite at h
  split at h
  · split at h
    · rename_i e
      obtain ⟨rfl, rfl⟩ := e
      cases h
      exact ⟨he, meets_writeString L C X _ _ (hob _ rfl)⟩
    · cases h
  · cases h
theorem patString_ok {f t u : Nat} (L : Lays.n169 P ρ) (X : Builder.Extra P ρ) (hf : ρ.f 169 = f) (ht : ρ.t 72 = t) (hu : ρ.t 5 = u) (he : Enters P f) : PatOK P f (patString t u) := by
  subst hf ht hu
  intro args S A h hob hkeys
  unfold patString at h
  split at h
  · split at h
    · rename_i e
      obtain ⟨rfl, rfl⟩ := e
      cases h
      exact ⟨he, meets_string L X _ (hob _ rfl)⟩
    · cases h
  · cases h

end Go.AL
