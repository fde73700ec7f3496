/- slots.Table[int] in memory; at. -/
import Derived.Test.YtijlnlcjlkanaaaRwo
import Derived.Test.YtijlnlcjlkanaaaSta
import Derived.IntWalk
import Derived.Deep.RegionLaw
import Derived.Deep.RegionHeld3
import Derived.Deep.RegionWith
import Derived.RegionTactic
import Derived.Outline
set_option linter.unusedVariables false
namespace Go.Proofs.Ytijlnlcjlkanaaa.Vta
open Sta (Hd hdE Step below_drewN below_drewN_up blk_cells)
open Go.RowKit Rwo

/-- A thing: a text and a list. -/
structure Th where
  a : ByteArray
  p : Option Addr
  n : Nat
  c : Nat
abbrev Th.av (x : Th) : Value := .string x.a
abbrev Th.bv (x : Th) : Value := .slice x.p x.n x.c
abbrev Th.val (x : Th) : Value := .agg #[.string x.a, .slice x.p x.n x.c]
abbrev th0 : Th := ⟨.empty, none, 0, 0⟩
/-- A slot: its generation, its thing's serial (0: it is empty), its thing. -/
structure Sl where
  gen : Nat
  ser : Nat
  thing : Th
def slE : Enc Sl where
  z := 4
  f s := [.int .u32 s.gen, .int .i64 s.ser, .string s.thing.a, .slice s.thing.p s.thing.n s.thing.c]
  d := ⟨0, 0, th0⟩
  len _ := rfl
  one s u hu := by
    simp only [List.mem_cons, List.not_mem_nil, or_false] at hu
    rcases hu with rfl | rfl | rfl | rfl <;> rfl
  pos := by omega
structure Tab where
  sl : List Sl
  most : Nat
  count : Nat
  born : Nat
  ord : List Hd
/-- A table in memory. -/
structure TabAt (g : Nat) (vs vo : Value) (t : Tab) (w : World) : Prop where
  blk : w.heap[g]? = some (.cells #[vs, .int .i64 t.most, .int .i64 t.count, .int .i64 t.born, vo] 87 (0, 0))
  sl : Own slE 90 (g + 1) vs t.sl w
  ord : Own hdE 33 (g + 1) vo t.ord w
  lt : g < w.heap.size
theorem TabAt.cells {g : Nat} {vs vo : Value} {t : Tab} {w : World} (h : TabAt g vs vo t w) :
    (w.cell? ⟨g, 0, none⟩ = some vs ∧ w.cell? ⟨g, 1, none⟩ = some (.int .i64 t.most) ∧ w.cell? ⟨g, 2, none⟩ = some (.int .i64 t.count) ∧ w.cell? ⟨g, 3, none⟩ = some (.int .i64 t.born) ∧ w.cell? ⟨g, 4, none⟩ = some vo) ∧
    w.frozen? ⟨g, 0, none⟩ = false ∧ w.frozen? ⟨g, 1, none⟩ = false ∧ w.frozen? ⟨g, 2, none⟩ = false ∧ w.frozen? ⟨g, 3, none⟩ = false ∧ w.frozen? ⟨g, 4, none⟩ = false := blk_cells h.blk
theorem TabAt.below {g : Nat} {vs vo : Value} {t : Tab} {w w' : World} (h : TabAt g vs vo t w) (hb : Below w.heap.size w w') : TabAt g vs vo t w' :=
  ⟨(hb.block g h.lt).trans h.blk, h.sl.below hb (Nat.le_refl _), h.ord.below hb (Nat.le_refl _), Nat.lt_of_lt_of_le h.lt hb.size⟩
/-- The cells of a slot. -/
theorem slot_cells {g b c n : Nat} {l : List Sl} {w : World} (h : Own slE 90 g (.slice (some ⟨b, 0, none⟩) n c) l w) (j : Nat) (hj : j < l.length) {s : Sl} (hs : l.getD j ⟨0, 0, th0⟩ = s) :
    w.cell? ⟨b, j * 4, none⟩ = some (.int .u32 s.gen) ∧ w.cell? ⟨b, j * 4 + 1, none⟩ = some (.int .i64 s.ser) ∧ w.cell? ⟨b, j * 4 + 2, none⟩ = some (.string s.thing.a) ∧ w.cell? ⟨b, j * 4 + 3, none⟩ = some (.slice s.thing.p s.thing.n s.thing.c) := by
  subst hs
  exact ⟨h.cell j 0 hj (by show 0 < 4; omega), h.cell j 1 hj (by show 1 < 4; omega), h.cell j 2 hj (by show 2 < 4; omega), h.cell j 3 hj (by show 3 < 4; omega)⟩
/-- Does a handle live? -/
def lives (t : Tab) (h : Hd) : Bool := decide (1 ≤ h.slot) && decide (h.slot ≤ t.sl.length) && decide ((t.sl.getD (h.slot - 1) ⟨0, 0, th0⟩).ser ≠ 0) && decide ((t.sl.getD (h.slot - 1) ⟨0, 0, th0⟩).gen = h.gen)
/-- What is known of a table's numbers. -/
structure Small (t : Tab) : Prop where
  len : t.sl.length ≤ t.most
  most : t.most ≤ 1000000
  count : t.count ≤ 1000000
  born : t.born ≤ 1000000
  ord : t.ord.length ≤ 1000000
  gen : ∀ s ∈ t.sl, s.gen ≤ 1000000 ∧ s.ser ≤ 1000000
set_option maxHeartbeats 2000000 in
set_option maxRecDepth 100000 in
theorem at_low (g : Nat) (vs vo : Value) (t : Tab) (b : Nat) (w : World) (h : Hid (TabAt g vs vo t w)) :
    Calls Try.prog 38 #[.pointer (some ⟨g, 0, none⟩), .agg #[.int .u32 0, .int .u32 b]] w fun e w' => e = .returned (.tuple #[.pointer none, .int .i64 102]) ∧ Below w.heap.size w w' := by
  go_enter Try.func38, Try.ntmps38
  go_wp2_with fail
  go_quiet (fail)
  go_wp2
  go_ret2
  exact ⟨rfl, by first | exact below_drewN_up ((Below.refl _ w).alloc (Nat.le_refl _) _) _ | exact (Below.refl _ w).alloc (Nat.le_refl _) _⟩
set_option maxHeartbeats 2000000 in
set_option maxRecDepth 100000 in
theorem at_high (g : Nat) (vs vo : Value) (t : Tab) (a b : Nat) (w : World) (h : Hid (TabAt g vs vo t w)) (hs : Hid (Small t)) (ha : t.sl.length < a) (ha2 : a < 4294967296) :
    Calls Try.prog 38 #[.pointer (some ⟨g, 0, none⟩), .agg #[.int .u32 a, .int .u32 b]] w fun e w' => e = .returned (.tuple #[.pointer none, .int .i64 102]) ∧ Below w.heap.size w w' := by
  obtain ⟨⟨c0, c1, c2, c3, c4⟩, f0, f1, f2, f3, f4⟩ := h.out.cells
  obtain ⟨A1, cp1, rfl⟩ := Own.shape h.out.sl
  have hlt := h.out.lt
  have a1 : decide ((a : Int) < 1) = false := decide_eq_false (by omega)
  have a2 : decide ((t.sl.length : Int) < (a : Int)) = true := decide_eq_true (by omega)
  go_enter Try.func38, Try.ntmps38
  go_wp2_with fail
  go_quiet (fail)
  go_wp2
  go_ret2
  exact ⟨rfl, by first | exact below_drewN_up ((Below.refl _ w).alloc (Nat.le_refl _) _) _ | exact (Below.refl _ w).alloc (Nat.le_refl _) _⟩
set_option maxHeartbeats 2000000 in
set_option maxRecDepth 100000 in
theorem at_empty (g : Nat) (vs vo : Value) (t : Tab) (a b : Nat) (w : World) (h : Hid (TabAt g vs vo t w)) (hs : Hid (Small t)) (ha : 1 ≤ a) (hal : a ≤ t.sl.length) (hlive : (t.sl.getD (a - 1) ⟨0, 0, th0⟩).ser = 0) :
    Calls Try.prog 38 #[.pointer (some ⟨g, 0, none⟩), .agg #[.int .u32 a, .int .u32 b]] w fun e w' => e = .returned (.tuple #[.pointer none, .int .i64 102]) ∧ Below w.heap.size w w' := by
  obtain ⟨⟨c0, c1, c2, c3, c4⟩, f0, f1, f2, f3, f4⟩ := h.out.cells
  obtain ⟨b1, cp1, cur, rfl, hb0, _, hb1, _⟩ := Own.some h.out.sl (by intro e; rw [e, List.length_nil] at hal; omega)
  have hlt := h.out.lt
  obtain ⟨j, rfl⟩ : ∃ j, a = j + 1 := ⟨a - 1, by omega⟩
  obtain ⟨s, hsl⟩ : ∃ s, t.sl.getD j ⟨0, 0, th0⟩ = s := ⟨_, rfl⟩
  have hj : j + 1 - 1 = j := by omega
  rw [hj, hsl] at hlive
  obtain ⟨d0, d1, d2, d3⟩ := slot_cells h.out.sl j (by omega) hsl
  have hsm : s.gen ≤ 1000000 ∧ s.ser ≤ 1000000 := hs.out.gen s (by
    rw [← hsl, List.getD_eq_getElem?_getD, List.getElem?_eq_getElem (by omega)]; exact List.getElem_mem _)
  obtain ⟨g1, g2⟩ := hsm
  clear hsl hj
  have hlen := hs.out.len
  have hmost := hs.out.most
  have a1 : decide ((j : Int) + 1 < 1) = false := decide_eq_false (by omega)
  have a2 : decide ((t.sl.length : Int) < (j : Int) + 1) = false := decide_eq_false (by omega)
  have a3 : (0 : Int) ≤ (j : Int) := by omega
  have a4 : (j : Int) < (t.sl.length : Int) := by omega
  have a5 : IntKind.u32.wrap ((j : Int) + 1 - 1) = (j : Int) := by rw [Int.add_sub_cancel, IntKind.wrap_u32]; omega
  have a6 : IntKind.u32.wrap (j : Int) = (j : Int) := by rw [IntKind.wrap_u32]; omega
  have a7 : IntKind.i64.wrap ((j : Int) + 1) = (j : Int) + 1 := IntWalk.i64_in _ (by omega)
  have e1 : ((s.ser : Int) == 0) = true := by rw [beq_iff_eq]; omega
  clear hlive
  go_enter Try.func38, Try.ntmps38
  go_wp2_with fail
  go_quiet (fail)
  go_wp2_with fail
  go_quiet (fail)
  go_wp2_with fail
  go_quiet (fail)
  go_wp2
  go_ret2
  exact ⟨rfl, by repeat (first | exact Below.refl _ _ | with_reducible refine below_drewN_up ?_ _ | with_reducible refine Below.alloc ?_ (Nat.le_refl _) _)⟩
set_option maxHeartbeats 2000000 in
set_option maxRecDepth 100000 in
theorem at_gen (g : Nat) (vs vo : Value) (t : Tab) (a b : Nat) (w : World) (h : Hid (TabAt g vs vo t w)) (hs : Hid (Small t)) (ha : 1 ≤ a) (hal : a ≤ t.sl.length) (hlive : (t.sl.getD (a - 1) ⟨0, 0, th0⟩).ser ≠ 0 ∧ (t.sl.getD (a - 1) ⟨0, 0, th0⟩).gen ≠ b) :
    Calls Try.prog 38 #[.pointer (some ⟨g, 0, none⟩), .agg #[.int .u32 a, .int .u32 b]] w fun e w' => e = .returned (.tuple #[.pointer none, .int .i64 102]) ∧ Below w.heap.size w w' := by
  obtain ⟨⟨c0, c1, c2, c3, c4⟩, f0, f1, f2, f3, f4⟩ := h.out.cells
  obtain ⟨b1, cp1, cur, rfl, hb0, _, hb1, _⟩ := Own.some h.out.sl (by intro e; rw [e, List.length_nil] at hal; omega)
  have hlt := h.out.lt
  obtain ⟨j, rfl⟩ : ∃ j, a = j + 1 := ⟨a - 1, by omega⟩
  obtain ⟨s, hsl⟩ : ∃ s, t.sl.getD j ⟨0, 0, th0⟩ = s := ⟨_, rfl⟩
  have hj : j + 1 - 1 = j := by omega
  rw [hj, hsl] at hlive
  obtain ⟨d0, d1, d2, d3⟩ := slot_cells h.out.sl j (by omega) hsl
  have hsm : s.gen ≤ 1000000 ∧ s.ser ≤ 1000000 := hs.out.gen s (by
    rw [← hsl, List.getD_eq_getElem?_getD, List.getElem?_eq_getElem (by omega)]; exact List.getElem_mem _)
  obtain ⟨g1, g2⟩ := hsm
  clear hsl hj
  have hlen := hs.out.len
  have hmost := hs.out.most
  have a1 : decide ((j : Int) + 1 < 1) = false := decide_eq_false (by omega)
  have a2 : decide ((t.sl.length : Int) < (j : Int) + 1) = false := decide_eq_false (by omega)
  have a3 : (0 : Int) ≤ (j : Int) := by omega
  have a4 : (j : Int) < (t.sl.length : Int) := by omega
  have a5 : IntKind.u32.wrap ((j : Int) + 1 - 1) = (j : Int) := by rw [Int.add_sub_cancel, IntKind.wrap_u32]; omega
  have a6 : IntKind.u32.wrap (j : Int) = (j : Int) := by rw [IntKind.wrap_u32]; omega
  have a7 : IntKind.i64.wrap ((j : Int) + 1) = (j : Int) + 1 := IntWalk.i64_in _ (by omega)
  have e1 : ((s.ser : Int) == 0) = false := by rw [beq_eq_false_iff_ne]; omega
  have e2 : ((s.gen : Int) != (b : Int)) = true := by rw [bne_iff_ne]; omega
  clear hlive
  go_enter Try.func38, Try.ntmps38
  go_wp2_with fail
  go_quiet (fail)
  go_wp2_with fail
  go_quiet (fail)
  go_wp2_with fail
  go_quiet (fail)
  go_wp2
  go_ret2
  exact ⟨rfl, by repeat (first | exact Below.refl _ _ | with_reducible refine below_drewN_up ?_ _ | with_reducible refine Below.alloc ?_ (Nat.le_refl _) _)⟩
set_option maxHeartbeats 2000000 in
set_option maxRecDepth 100000 in
theorem at_live (g : Nat) (vs vo : Value) (t : Tab) (a b : Nat) (w : World) (h : Hid (TabAt g vs vo t w)) (hs : Hid (Small t)) (ha : 1 ≤ a) (hal : a ≤ t.sl.length) (hlive : (t.sl.getD (a - 1) ⟨0, 0, th0⟩).ser ≠ 0 ∧ (t.sl.getD (a - 1) ⟨0, 0, th0⟩).gen = b) :
    Calls Try.prog 38 #[.pointer (some ⟨g, 0, none⟩), .agg #[.int .u32 a, .int .u32 b]] w fun e w' => (∃ b1 cp, vs = .slice (some ⟨b1, 0, none⟩) t.sl.length cp ∧ e = .returned (.tuple #[.pointer (some ⟨b1, (a - 1) * 4, none⟩), .int .i64 0])) ∧ Below w.heap.size w w' := by
  obtain ⟨⟨c0, c1, c2, c3, c4⟩, f0, f1, f2, f3, f4⟩ := h.out.cells
  obtain ⟨b1, cp1, cur, rfl, hb0, _, hb1, _⟩ := Own.some h.out.sl (by intro e; rw [e, List.length_nil] at hal; omega)
  have hlt := h.out.lt
  obtain ⟨j, rfl⟩ : ∃ j, a = j + 1 := ⟨a - 1, by omega⟩
  obtain ⟨s, hsl⟩ : ∃ s, t.sl.getD j ⟨0, 0, th0⟩ = s := ⟨_, rfl⟩
  have hj : j + 1 - 1 = j := by omega
  rw [hj, hsl] at hlive
  obtain ⟨d0, d1, d2, d3⟩ := slot_cells h.out.sl j (by omega) hsl
  have hsm : s.gen ≤ 1000000 ∧ s.ser ≤ 1000000 := hs.out.gen s (by
    rw [← hsl, List.getD_eq_getElem?_getD, List.getElem?_eq_getElem (by omega)]; exact List.getElem_mem _)
  obtain ⟨g1, g2⟩ := hsm
  clear hsl hj
  have hlen := hs.out.len
  have hmost := hs.out.most
  have a1 : decide ((j : Int) + 1 < 1) = false := decide_eq_false (by omega)
  have a2 : decide ((t.sl.length : Int) < (j : Int) + 1) = false := decide_eq_false (by omega)
  have a3 : (0 : Int) ≤ (j : Int) := by omega
  have a4 : (j : Int) < (t.sl.length : Int) := by omega
  have a5 : IntKind.u32.wrap ((j : Int) + 1 - 1) = (j : Int) := by rw [Int.add_sub_cancel, IntKind.wrap_u32]; omega
  have a6 : IntKind.u32.wrap (j : Int) = (j : Int) := by rw [IntKind.wrap_u32]; omega
  have a7 : IntKind.i64.wrap ((j : Int) + 1) = (j : Int) + 1 := IntWalk.i64_in _ (by omega)
  have e1 : ((s.ser : Int) == 0) = false := by rw [beq_eq_false_iff_ne]; omega
  have e2 : ((s.gen : Int) != (b : Int)) = false := by rw [bne_eq_false_iff_eq]; omega
  clear hlive
  go_enter Try.func38, Try.ntmps38
  go_wp2_with fail
  go_quiet (fail)
  go_wp2_with fail
  go_quiet (fail)
  go_wp2_with fail
  go_quiet (fail)
  go_wp2
  go_ret2
  exact ⟨⟨b1, cp1, rfl, rfl⟩, by repeat (first | exact Below.refl _ _ | with_reducible refine below_drewN_up ?_ _ | with_reducible refine Below.alloc ?_ (Nat.le_refl _) _)⟩
end Go.Proofs.Ytijlnlcjlkanaaa.Vta
