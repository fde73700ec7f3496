/- slots.Table[int] in memory; at. -/
import Derived.Test.YtijlnlcjlkanaaaRwo
import Derived.IntWalk
import Derived.Deep.RegionLaw
import Derived.Deep.RegionHeld3
import Derived.Deep.RegionWith
import Derived.RegionTactic
import Derived.Outline
set_option linter.unusedVariables false
namespace Go.Proofs.Ytijlnlcjlkanaaa.Sta
open Go.RowKit Rwo

/-- A slot: its generation, its thing's serial (0: it is empty), its thing. -/
structure Sl where
  gen : Nat
  ser : Nat
  thing : Int
/-- A handle. -/
structure Hd where
  slot : Nat
  gen : Nat
deriving DecidableEq
def slE : Enc Sl where
  z := 3
  f s := [.int .u32 s.gen, .int .i64 s.ser, .int .i64 s.thing]
  d := ⟨0, 0, 0⟩
  len _ := rfl
  one s u hu := by
    simp only [List.mem_cons, List.not_mem_nil, or_false] at hu
    rcases hu with rfl | rfl | rfl <;> rfl
  pos := by omega
def hdE : Enc Hd where
  z := 2
  f h := [.int .u32 h.slot, .int .u32 h.gen]
  d := ⟨0, 0⟩
  len _ := rfl
  one s u hu := by
    simp only [List.mem_cons, List.not_mem_nil, or_false] at hu
    rcases hu with rfl | rfl <;> rfl
  pos := by omega
structure Tab where
  sl : List Sl
  most : Nat
  count : Nat
  born : Nat
  ord : List Hd
/-- A table in memory. -/
structure TabAt (g : Nat) (vs vo : Value) (t : Tab) (w : World) : Prop where
  blk : w.heap[g]? = some (.cells #[vs, .int .i64 t.most, .int .i64 t.count, .int .i64 t.born, vo] 77 (0, 0))
  sl : Own slE 80 (g + 1) vs t.sl w
  ord : Own hdE 33 (g + 1) vo t.ord w
  lt : g < w.heap.size
theorem blk_cells {g : Nat} {a b c d e : Value} {T : TypeId} {w : World} (h : w.heap[g]? = some (.cells #[a, b, c, d, e] T (0, 0))) :
    (w.cell? ⟨g, 0, none⟩ = some a ∧ w.cell? ⟨g, 1, none⟩ = some b ∧ w.cell? ⟨g, 2, none⟩ = some c ∧ w.cell? ⟨g, 3, none⟩ = some d ∧ w.cell? ⟨g, 4, none⟩ = some e) ∧
    w.frozen? ⟨g, 0, none⟩ = false ∧ w.frozen? ⟨g, 1, none⟩ = false ∧ w.frozen? ⟨g, 2, none⟩ = false ∧ w.frozen? ⟨g, 3, none⟩ = false ∧ w.frozen? ⟨g, 4, none⟩ = false := by
  refine ⟨⟨?_, ?_, ?_, ?_, ?_⟩, ?_, ?_, ?_, ?_, ?_⟩
  all_goals first | (rw [cell_of_row w g _ _ _ _ h]; rfl) | exact frozen_of_row w g _ _ _ h
theorem TabAt.cells {g : Nat} {vs vo : Value} {t : Tab} {w : World} (h : TabAt g vs vo t w) :
    (w.cell? ⟨g, 0, none⟩ = some vs ∧ w.cell? ⟨g, 1, none⟩ = some (.int .i64 t.most) ∧ w.cell? ⟨g, 2, none⟩ = some (.int .i64 t.count) ∧ w.cell? ⟨g, 3, none⟩ = some (.int .i64 t.born) ∧ w.cell? ⟨g, 4, none⟩ = some vo) ∧
    w.frozen? ⟨g, 0, none⟩ = false ∧ w.frozen? ⟨g, 1, none⟩ = false ∧ w.frozen? ⟨g, 2, none⟩ = false ∧ w.frozen? ⟨g, 3, none⟩ = false ∧ w.frozen? ⟨g, 4, none⟩ = false := blk_cells h.blk
theorem TabAt.below {g : Nat} {vs vo : Value} {t : Tab} {w w' : World} (h : TabAt g vs vo t w) (hb : Below w.heap.size w w') : TabAt g vs vo t w' :=
  ⟨(hb.block g h.lt).trans h.blk, h.sl.below hb (Nat.le_refl _), h.ord.below hb (Nat.le_refl _), Nat.lt_of_lt_of_le h.lt hb.size⟩
/-- What a call may do to the world beside a table: the table's own blocks, and new ones. -/
structure Step (g : Nat) (vs vo vs' vo' : Value) (w w' : World) : Prop where
  os : w'.os = w.os
  tape : w'.tape = w.tape
  output : w'.output = w.output
  size : w.heap.size ≤ w'.heap.size
  far : ∀ b, b < w.heap.size → b ≠ g → vs.ownBlock ≠ some b → vo.ownBlock ≠ some b → w'.heap[b]? = w.heap[b]?
  nvs : ∀ b, vs'.ownBlock = some b → vs.ownBlock = some b ∨ w.heap.size ≤ b
  nvo : ∀ b, vo'.ownBlock = some b → vo.ownBlock = some b ∨ w.heap.size ≤ b
theorem Step.refl (g : Nat) (vs vo : Value) (w : World) : Step g vs vo vs vo w w := ⟨rfl, rfl, rfl, Nat.le_refl _, fun _ _ _ _ _ => rfl, fun _ h => .inl h, fun _ h => .inl h⟩
theorem Step.trans {g : Nat} {vs vo vs1 vo1 vs2 vo2 : Value} {w w1 w2 : World} (h : Step g vs vo vs1 vo1 w w1) (k : Step g vs1 vo1 vs2 vo2 w1 w2) : Step g vs vo vs2 vo2 w w2 where
  os := k.os.trans h.os
  tape := k.tape.trans h.tape
  output := k.output.trans h.output
  size := Nat.le_trans h.size k.size
  far b hb hg h1 h2 := by
    rw [k.far b (Nat.lt_of_lt_of_le hb h.size) hg (fun e => (h.nvs b e).elim h1 (fun x => absurd hb (by omega))) (fun e => (h.nvo b e).elim h2 (fun x => absurd hb (by omega)))]
    exact h.far b hb hg h1 h2
  nvs b hb := by
    rcases k.nvs b hb with h1 | h1
    · exact h.nvs b h1
    · exact .inr (Nat.le_trans h.size h1)
  nvo b hb := by
    rcases k.nvo b hb with h1 | h1
    · exact h.nvo b h1
    · exact .inr (Nat.le_trans h.size h1)
theorem Step.of_below {g : Nat} {vs vo : Value} {w w' : World} (h : Below w.heap.size w w') : Step g vs vo vs vo w w' :=
  ⟨h.os, h.tape, h.output, h.size, fun b hb _ _ _ => h.block b hb, fun _ h => .inl h, fun _ h => .inl h⟩
/-- Below the table's own blocks nothing changes. -/
theorem Step.below {g : Nat} {vs vo vs' vo' : Value} {w w' : World} (h : Step g vs vo vs' vo' w w') {B : Nat} (hg : B ≤ g) (hw : B ≤ w.heap.size) (h1 : ∀ b, vs.ownBlock = some b → B ≤ b) (h2 : ∀ b, vo.ownBlock = some b → B ≤ b) : Below B w w' :=
  ⟨h.os, h.tape, h.output, h.size, fun b hb => h.far b (by omega) (by omega) (fun e => absurd (h1 b e) (by omega)) (fun e => absurd (h2 b e) (by omega))⟩
theorem below_drewN (w : World) (n : Nat) : Below w.heap.size w (w.drewN n) := ⟨rfl, rfl, rfl, Nat.le_refl _, fun _ _ => rfl⟩
theorem below_drewN_up {B : Nat} {a w : World} (h : Below B a w) (n : Nat) : Below B a (w.drewN n) := ⟨h.os, h.tape, h.output, h.size, h.block⟩
/-- The cells of a slot. -/
theorem slot_cells {g b c n : Nat} {l : List Sl} {w : World} (h : Own slE 80 g (.slice (some ⟨b, 0, none⟩) n c) l w) (j : Nat) (hj : j < l.length) {s : Sl} (hs : l.getD j ⟨0, 0, 0⟩ = s) :
    w.cell? ⟨b, j * 3, none⟩ = some (.int .u32 s.gen) ∧ w.cell? ⟨b, j * 3 + 1, none⟩ = some (.int .i64 s.ser) ∧ w.cell? ⟨b, j * 3 + 2, none⟩ = some (.int .i64 s.thing) := by
  subst hs
  exact ⟨h.cell j 0 hj (by show 0 < 3; omega), h.cell j 1 hj (by show 1 < 3; omega), h.cell j 2 hj (by show 2 < 3; omega)⟩
/-- Does a handle live? -/
def lives (t : Tab) (h : Hd) : Bool := decide (1 ≤ h.slot) && decide (h.slot ≤ t.sl.length) && decide ((t.sl.getD (h.slot - 1) ⟨0, 0, 0⟩).ser ≠ 0) && decide ((t.sl.getD (h.slot - 1) ⟨0, 0, 0⟩).gen = h.gen)
/-- What is known of a table's numbers. -/
structure Small (t : Tab) : Prop where
  len : t.sl.length ≤ t.most
  most : t.most ≤ 1000000
  count : t.count ≤ 1000000
  born : t.born ≤ 1000000
  ord : t.ord.length ≤ 1000000
  gen : ∀ s ∈ t.sl, s.gen ≤ 1000000 ∧ s.ser ≤ 1000000
set_option maxHeartbeats 2000000 in
set_option maxRecDepth 100000 in
theorem at_low (g : Nat) (vs vo : Value) (t : Tab) (b : Nat) (w : World) (h : Hid (TabAt g vs vo t w)) :
    Calls Try.prog 32 #[.pointer (some ⟨g, 0, none⟩), .agg #[.int .u32 0, .int .u32 b]] w fun e w' => e = .returned (.tuple #[.pointer none, .int .i64 102]) ∧ Below w.heap.size w w' := by
  go_enter Try.func32, Try.ntmps32
  go_wp2_with fail
  go_quiet (fail)
  go_wp2
  go_ret2
  exact ⟨rfl, by first | exact below_drewN_up ((Below.refl _ w).alloc (Nat.le_refl _) _) _ | exact (Below.refl _ w).alloc (Nat.le_refl _) _⟩
set_option maxHeartbeats 2000000 in
set_option maxRecDepth 100000 in
theorem at_high (g : Nat) (vs vo : Value) (t : Tab) (a b : Nat) (w : World) (h : Hid (TabAt g vs vo t w)) (hs : Hid (Small t)) (ha : t.sl.length < a) (ha2 : a < 4294967296) :
    Calls Try.prog 32 #[.pointer (some ⟨g, 0, none⟩), .agg #[.int .u32 a, .int .u32 b]] w fun e w' => e = .returned (.tuple #[.pointer none, .int .i64 102]) ∧ Below w.heap.size w w' := by
  obtain ⟨⟨c0, c1, c2, c3, c4⟩, f0, f1, f2, f3, f4⟩ := h.out.cells
  obtain ⟨A1, cp1, rfl⟩ := Own.shape h.out.sl
  have hlt := h.out.lt
  have a1 : decide ((a : Int) < 1) = false := decide_eq_false (by omega)
  have a2 : decide ((t.sl.length : Int) < (a : Int)) = true := decide_eq_true (by omega)
  go_enter Try.func32, Try.ntmps32
  go_wp2_with fail
  go_quiet (fail)
  go_wp2
  go_ret2
  exact ⟨rfl, by first | exact below_drewN_up ((Below.refl _ w).alloc (Nat.le_refl _) _) _ | exact (Below.refl _ w).alloc (Nat.le_refl _) _⟩
set_option maxHeartbeats 2000000 in
set_option maxRecDepth 100000 in
theorem at_empty (g : Nat) (vs vo : Value) (t : Tab) (a b : Nat) (w : World) (h : Hid (TabAt g vs vo t w)) (hs : Hid (Small t)) (ha : 1 ≤ a) (hal : a ≤ t.sl.length) (hlive : (t.sl.getD (a - 1) ⟨0, 0, 0⟩).ser = 0) :
    Calls Try.prog 32 #[.pointer (some ⟨g, 0, none⟩), .agg #[.int .u32 a, .int .u32 b]] w fun e w' => e = .returned (.tuple #[.pointer none, .int .i64 102]) ∧ Below w.heap.size w w' := by
  obtain ⟨⟨c0, c1, c2, c3, c4⟩, f0, f1, f2, f3, f4⟩ := h.out.cells
  obtain ⟨b1, cp1, cur, rfl, hb0, _, hb1, _⟩ := Own.some h.out.sl (by intro e; rw [e, List.length_nil] at hal; omega)
  have hlt := h.out.lt
  obtain ⟨j, rfl⟩ : ∃ j, a = j + 1 := ⟨a - 1, by omega⟩
  obtain ⟨s, hsl⟩ : ∃ s, t.sl.getD j ⟨0, 0, 0⟩ = s := ⟨_, rfl⟩
  have hj : j + 1 - 1 = j := by omega
  rw [hj, hsl] at hlive
  obtain ⟨d0, d1, d2⟩ := slot_cells h.out.sl j (by omega) hsl
  have hsm : s.gen ≤ 1000000 ∧ s.ser ≤ 1000000 := hs.out.gen s (by
    rw [← hsl, List.getD_eq_getElem?_getD, List.getElem?_eq_getElem (by omega)]; exact List.getElem_mem _)
  obtain ⟨g1, g2⟩ := hsm
  clear hsl hj
  have hlen := hs.out.len
  have hmost := hs.out.most
  have a1 : decide ((j : Int) + 1 < 1) = false := decide_eq_false (by omega)
  have a2 : decide ((t.sl.length : Int) < (j : Int) + 1) = false := decide_eq_false (by omega)
  have a3 : (0 : Int) ≤ (j : Int) := by omega
  have a4 : (j : Int) < (t.sl.length : Int) := by omega
  have a5 : IntKind.u32.wrap ((j : Int) + 1 - 1) = (j : Int) := by rw [Int.add_sub_cancel, IntKind.wrap_u32]; omega
  have a6 : IntKind.u32.wrap (j : Int) = (j : Int) := by rw [IntKind.wrap_u32]; omega
  have a7 : IntKind.i64.wrap ((j : Int) + 1) = (j : Int) + 1 := IntWalk.i64_in _ (by omega)
  have e1 : ((s.ser : Int) == 0) = true := by rw [beq_iff_eq]; omega
  clear hlive
  go_enter Try.func32, Try.ntmps32
  go_wp2_with fail
  go_quiet (fail)
  go_wp2_with fail
  go_quiet (fail)
  go_wp2_with fail
  go_quiet (fail)
  go_wp2
  go_ret2
  exact ⟨rfl, by repeat (first | exact Below.refl _ _ | with_reducible refine below_drewN_up ?_ _ | with_reducible refine Below.alloc ?_ (Nat.le_refl _) _)⟩
set_option maxHeartbeats 2000000 in
set_option maxRecDepth 100000 in
theorem at_gen (g : Nat) (vs vo : Value) (t : Tab) (a b : Nat) (w : World) (h : Hid (TabAt g vs vo t w)) (hs : Hid (Small t)) (ha : 1 ≤ a) (hal : a ≤ t.sl.length) (hlive : (t.sl.getD (a - 1) ⟨0, 0, 0⟩).ser ≠ 0 ∧ (t.sl.getD (a - 1) ⟨0, 0, 0⟩).gen ≠ b) :
    Calls Try.prog 32 #[.pointer (some ⟨g, 0, none⟩), .agg #[.int .u32 a, .int .u32 b]] w fun e w' => e = .returned (.tuple #[.pointer none, .int .i64 102]) ∧ Below w.heap.size w w' := by
  obtain ⟨⟨c0, c1, c2, c3, c4⟩, f0, f1, f2, f3, f4⟩ := h.out.cells
  obtain ⟨b1, cp1, cur, rfl, hb0, _, hb1, _⟩ := Own.some h.out.sl (by intro e; rw [e, List.length_nil] at hal; omega)
  have hlt := h.out.lt
  obtain ⟨j, rfl⟩ : ∃ j, a = j + 1 := ⟨a - 1, by omega⟩
  obtain ⟨s, hsl⟩ : ∃ s, t.sl.getD j ⟨0, 0, 0⟩ = s := ⟨_, rfl⟩
  have hj : j + 1 - 1 = j := by omega
  rw [hj, hsl] at hlive
  obtain ⟨d0, d1, d2⟩ := slot_cells h.out.sl j (by omega) hsl
  have hsm : s.gen ≤ 1000000 ∧ s.ser ≤ 1000000 := hs.out.gen s (by
    rw [← hsl, List.getD_eq_getElem?_getD, List.getElem?_eq_getElem (by omega)]; exact List.getElem_mem _)
  obtain ⟨g1, g2⟩ := hsm
  clear hsl hj
  have hlen := hs.out.len
  have hmost := hs.out.most
  have a1 : decide ((j : Int) + 1 < 1) = false := decide_eq_false (by omega)
  have a2 : decide ((t.sl.length : Int) < (j : Int) + 1) = false := decide_eq_false (by omega)
  have a3 : (0 : Int) ≤ (j : Int) := by omega
  have a4 : (j : Int) < (t.sl.length : Int) := by omega
  have a5 : IntKind.u32.wrap ((j : Int) + 1 - 1) = (j : Int) := by rw [Int.add_sub_cancel, IntKind.wrap_u32]; omega
  have a6 : IntKind.u32.wrap (j : Int) = (j : Int) := by rw [IntKind.wrap_u32]; omega
  have a7 : IntKind.i64.wrap ((j : Int) + 1) = (j : Int) + 1 := IntWalk.i64_in _ (by omega)
  have e1 : ((s.ser : Int) == 0) = false := by rw [beq_eq_false_iff_ne]; omega
  have e2 : ((s.gen : Int) != (b : Int)) = true := by rw [bne_iff_ne]; omega
  clear hlive
  go_enter Try.func32, Try.ntmps32
  go_wp2_with fail
  go_quiet (fail)
  go_wp2_with fail
  go_quiet (fail)
  go_wp2_with fail
  go_quiet (fail)
  go_wp2
  go_ret2
  exact ⟨rfl, by repeat (first | exact Below.refl _ _ | with_reducible refine below_drewN_up ?_ _ | with_reducible refine Below.alloc ?_ (Nat.le_refl _) _)⟩
set_option maxHeartbeats 2000000 in
set_option maxRecDepth 100000 in
theorem at_live (g : Nat) (vs vo : Value) (t : Tab) (a b : Nat) (w : World) (h : Hid (TabAt g vs vo t w)) (hs : Hid (Small t)) (ha : 1 ≤ a) (hal : a ≤ t.sl.length) (hlive : (t.sl.getD (a - 1) ⟨0, 0, 0⟩).ser ≠ 0 ∧ (t.sl.getD (a - 1) ⟨0, 0, 0⟩).gen = b) :
    Calls Try.prog 32 #[.pointer (some ⟨g, 0, none⟩), .agg #[.int .u32 a, .int .u32 b]] w fun e w' => (∃ b1 cp, vs = .slice (some ⟨b1, 0, none⟩) t.sl.length cp ∧ e = .returned (.tuple #[.pointer (some ⟨b1, (a - 1) * 3, none⟩), .int .i64 0])) ∧ Below w.heap.size w w' := by
  obtain ⟨⟨c0, c1, c2, c3, c4⟩, f0, f1, f2, f3, f4⟩ := h.out.cells
  obtain ⟨b1, cp1, cur, rfl, hb0, _, hb1, _⟩ := Own.some h.out.sl (by intro e; rw [e, List.length_nil] at hal; omega)
  have hlt := h.out.lt
  obtain ⟨j, rfl⟩ : ∃ j, a = j + 1 := ⟨a - 1, by omega⟩
  obtain ⟨s, hsl⟩ : ∃ s, t.sl.getD j ⟨0, 0, 0⟩ = s := ⟨_, rfl⟩
  have hj : j + 1 - 1 = j := by omega
  rw [hj, hsl] at hlive
  obtain ⟨d0, d1, d2⟩ := slot_cells h.out.sl j (by omega) hsl
  have hsm : s.gen ≤ 1000000 ∧ s.ser ≤ 1000000 := hs.out.gen s (by
    rw [← hsl, List.getD_eq_getElem?_getD, List.getElem?_eq_getElem (by omega)]; exact List.getElem_mem _)
  obtain ⟨g1, g2⟩ := hsm
  clear hsl hj
  have hlen := hs.out.len
  have hmost := hs.out.most
  have a1 : decide ((j : Int) + 1 < 1) = false := decide_eq_false (by omega)
  have a2 : decide ((t.sl.length : Int) < (j : Int) + 1) = false := decide_eq_false (by omega)
  have a3 : (0 : Int) ≤ (j : Int) := by omega
  have a4 : (j : Int) < (t.sl.length : Int) := by omega
  have a5 : IntKind.u32.wrap ((j : Int) + 1 - 1) = (j : Int) := by rw [Int.add_sub_cancel, IntKind.wrap_u32]; omega
  have a6 : IntKind.u32.wrap (j : Int) = (j : Int) := by rw [IntKind.wrap_u32]; omega
  have a7 : IntKind.i64.wrap ((j : Int) + 1) = (j : Int) + 1 := IntWalk.i64_in _ (by omega)
  have e1 : ((s.ser : Int) == 0) = false := by rw [beq_eq_false_iff_ne]; omega
  have e2 : ((s.gen : Int) != (b : Int)) = false := by rw [bne_eq_false_iff_eq]; omega
  clear hlive
  go_enter Try.func32, Try.ntmps32
  go_wp2_with fail
  go_quiet (fail)
  go_wp2_with fail
  go_quiet (fail)
  go_wp2_with fail
  go_quiet (fail)
  go_wp2
  go_ret2
  exact ⟨⟨b1, cp1, rfl, rfl⟩, by repeat (first | exact Below.refl _ _ | with_reducible refine below_drewN_up ?_ _ | with_reducible refine Below.alloc ?_ (Nat.le_refl _) _)⟩
end Go.Proofs.Ytijlnlcjlkanaaa.Sta
