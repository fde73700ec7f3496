/- (*slots.Table[int]): Take where it is full, Lives, Count, Born. -/
import Derived.Test.YtijlnlcjlkanaaaStc
set_option linter.unusedVariables false
namespace Go.Proofs.Ytijlnlcjlkanaaa.Stg
open Go.RowKit Rwo Sta Stb Stc

set_option maxHeartbeats 2000000 in
set_option maxRecDepth 100000 in
theorem take_full (g : Nat) (vs vo : Value) (t : Tab) (x : Int) (w : World) (h : Hid (TabAt g vs vo t w)) (hs : Hid (Small t)) (hm : t.sl.length = t.most) (hb : Hid (∀ j, j < t.sl.length → (t.sl.getD j ⟨0, 0, 0⟩).ser ≠ 0)) :
    Calls Try.prog 10 #[.pointer (some ⟨g, 0, none⟩), .int .i64 x] w fun e w' => e = .returned (.tuple #[.agg #[.int .u32 0, .int .u32 0], .int .i64 101]) ∧ Below w.heap.size w w' := by
  have hb0 := (Below.refl w.heap.size w).alloc (Nat.le_refl _) (.cells #[.int .u32 0, .int .u32 0] 33)
  have HE := Lib.hid (fun W (hW : TabAt g vs vo t W) => empty_full g vs vo t W (Lib.hid hW) hs hm hb)
  have h1 := Lib.hid (h.out.below hb0)
  have HB := Lib.hid hb0
  clear hb0 hm
  go_enter Try.func10, Try.ntmps10
  go_wp2_with fail
  refine (HE.out _ h1.out).mono ?_
  rintro e w1 ⟨rfl, q, rfl⟩
  go_wp2
  refine bodyPost_ret (hd_results rfl _ _ w.heap.size #[.int .u32 0, .int .u32 0] rfl (heap_setCell_same _ w.heap.size 1 #[.int .u32 0, .int .u32 0] _ _ (heap_setCell_same _ w.heap.size 0 #[.int .u32 0, .int .u32 0] _ _ (heap_alloc_new w _))) rfl) rfl ?_
  exact ⟨rfl, ((below_drewN_up HB.out q).setCell (p := ⟨w.heap.size, 0, none⟩) (Nat.le_refl _) _).setCell (p := ⟨w.heap.size, 1, none⟩) (Nat.le_refl _) _⟩
set_option maxHeartbeats 1000000 in
set_option maxRecDepth 100000 in
theorem count_any (g : Nat) (vs vo : Value) (t : Tab) (w : World) (h : Hid (TabAt g vs vo t w)) :
    Calls Try.prog 15 #[.pointer (some ⟨g, 0, none⟩)] w fun e w' => e = .returned (.int .i64 t.count) ∧ w = w' := by
  obtain ⟨⟨c0, c1, c2, c3, c4⟩, f0, f1, f2, f3, f4⟩ := h.out.cells
  go_enter Try.func15, Try.ntmps15
  go_wp2
  go_ret
  exact ⟨rfl, rfl⟩
set_option maxHeartbeats 1000000 in
set_option maxRecDepth 100000 in
theorem born_any (g : Nat) (vs vo : Value) (t : Tab) (w : World) (h : Hid (TabAt g vs vo t w)) :
    Calls Try.prog 16 #[.pointer (some ⟨g, 0, none⟩)] w fun e w' => e = .returned (.int .i64 t.born) ∧ w = w' := by
  obtain ⟨⟨c0, c1, c2, c3, c4⟩, f0, f1, f2, f3, f4⟩ := h.out.cells
  go_enter Try.func16, Try.ntmps16
  go_wp2
  go_ret
  exact ⟨rfl, rfl⟩
/-- 'at', in one: where it lives, the slot's place. -/
theorem at_yes (g : Nat) (vs vo : Value) (t : Tab) (a b : Nat) (w : World) (h : TabAt g vs vo t w) (hs : Small t) (hl : lives t ⟨a, b⟩ = true) :
    Calls Try.prog 32 #[.pointer (some ⟨g, 0, none⟩), .agg #[.int .u32 a, .int .u32 b]] w fun e w' => (∃ b1 cp, vs = .slice (some ⟨b1, 0, none⟩) t.sl.length cp ∧ e = .returned (.tuple #[.pointer (some ⟨b1, (a - 1) * 3, none⟩), .int .i64 0])) ∧ Below w.heap.size w w' := by
  unfold lives at hl
  simp only [Bool.and_eq_true, decide_eq_true_eq] at hl
  obtain ⟨⟨⟨h1, h2⟩, h3⟩, h4⟩ := hl
  exact at_live g vs vo t a b w (Lib.hid h) (Lib.hid hs) h1 h2 ⟨h3, h4⟩
theorem at_no (g : Nat) (vs vo : Value) (t : Tab) (a b : Nat) (w : World) (h : TabAt g vs vo t w) (hs : Small t) (ha : a < 4294967296) (hl : lives t ⟨a, b⟩ = false) :
    Calls Try.prog 32 #[.pointer (some ⟨g, 0, none⟩), .agg #[.int .u32 a, .int .u32 b]] w fun e w' => e = .returned (.tuple #[.pointer none, .int .i64 102]) ∧ Below w.heap.size w w' := by
  by_cases h1 : 1 ≤ a
  · by_cases h2 : a ≤ t.sl.length
    · by_cases h3 : (t.sl.getD (a - 1) ⟨0, 0, 0⟩).ser = 0
      · exact at_empty g vs vo t a b w (Lib.hid h) (Lib.hid hs) h1 h2 h3
      · by_cases h4 : (t.sl.getD (a - 1) ⟨0, 0, 0⟩).gen = b
        · have : lives t ⟨a, b⟩ = true := by
            unfold lives
            rw [decide_eq_true h1, decide_eq_true h2, decide_eq_true h3, decide_eq_true h4]; rfl
          rw [this] at hl; cases hl
        · exact at_gen g vs vo t a b w (Lib.hid h) (Lib.hid hs) h1 h2 ⟨h3, h4⟩
    · exact at_high g vs vo t a b w (Lib.hid h) (Lib.hid hs) (by omega) ha
  · obtain rfl : a = 0 := by omega
    exact at_low g vs vo t b w (Lib.hid h)
set_option maxHeartbeats 1000000 in
set_option maxRecDepth 100000 in
theorem lives_any (g : Nat) (vs vo : Value) (t : Tab) (a b : Nat) (w : World) (h : Hid (TabAt g vs vo t w)) (hs : Hid (Small t)) (ha : a < 4294967296) (r : Bool) (hl : Hid (lives t ⟨a, b⟩ = r)) :
    Calls Try.prog 12 #[.pointer (some ⟨g, 0, none⟩), .agg #[.int .u32 a, .int .u32 b]] w fun e w' => e = .returned (.bool r) ∧ Below w.heap.size w w' := by
  cases r with
  | true =>
    have C := Lib.hid (fun W (hW : Below w.heap.size w W) => at_yes g vs vo t a b W (h.out.below hW) hs.out hl.out)
    go_enter Try.func12, Try.ntmps12
    go_wp2_with fail
    refine (C.out _ (by first | exact Below.refl _ _ | exact (Below.refl _ _).alloc (Nat.le_refl _) _)).mono ?_
    rintro e w1 ⟨⟨b1, cp, _, rfl⟩, hb1⟩
    go_wp2
    go_ret
    exact ⟨rfl, by first | exact hb1 | exact ((Below.refl _ w).alloc (Nat.le_refl _) _).trans (hb1.mono (by simp))⟩
  | false =>
    have C := Lib.hid (fun W (hW : Below w.heap.size w W) => at_no g vs vo t a b W (h.out.below hW) hs.out ha hl.out)
    go_enter Try.func12, Try.ntmps12
    go_wp2_with fail
    refine (C.out _ (by first | exact Below.refl _ _ | exact (Below.refl _ _).alloc (Nat.le_refl _) _)).mono ?_
    rintro e w1 ⟨rfl, hb1⟩
    go_wp2
    go_ret
    exact ⟨rfl, by first | exact hb1 | exact ((Below.refl _ w).alloc (Nat.le_refl _) _).trans (hb1.mono (by simp))⟩
set_option maxHeartbeats 2000000 in
set_option maxRecDepth 100000 in
theorem get_yes (g : Nat) (vs vo : Value) (t : Tab) (a b : Nat) (w : World) (h : Hid (TabAt g vs vo t w)) (hs : Hid (Small t)) (hl : Hid (lives t ⟨a, b⟩ = true)) (x : Int) (hx : Hid ((t.sl.getD (a - 1) ⟨0, 0, 0⟩).thing = x)) :
    Calls Try.prog 11 #[.pointer (some ⟨g, 0, none⟩), .agg #[.int .u32 a, .int .u32 b]] w fun e w' => e = .returned (.tuple #[.int .i64 x, .int .i64 0]) ∧ Below w.heap.size w w' := by
  have C := Lib.hid (fun W (hW : Below w.heap.size w W) => at_yes g vs vo t a b W (h.out.below hW) hs.out hl.out)
  go_enter Try.func11, Try.ntmps11
  go_wp2_with fail
  refine (C.out _ (by first | exact Below.refl _ _ | exact (Below.refl _ _).alloc (Nat.le_refl _) _)).mono ?_
  rintro e w1 ⟨⟨b1, cp, rfl, rfl⟩, hb1⟩
  have hbw : Below w.heap.size w w1 := by first | exact hb1 | exact ((Below.refl _ w).alloc (Nat.le_refl _) _).trans (hb1.mono (by simp))
  have hja : a - 1 < t.sl.length := by
    have := hl.out
    unfold lives at this
    simp only [Bool.and_eq_true, decide_eq_true_eq] at this
    omega
  obtain ⟨d0, d1, d2⟩ := slot_cells (h.out.below hbw).sl (a - 1) hja rfl
  rw [hx.out] at d2
  clear d0 d1
  go_wp2
  go_ret2
  exact ⟨rfl, hbw⟩
set_option maxHeartbeats 2000000 in
set_option maxRecDepth 100000 in
theorem get_no (g : Nat) (vs vo : Value) (t : Tab) (a b : Nat) (w : World) (h : Hid (TabAt g vs vo t w)) (hs : Hid (Small t)) (ha : a < 4294967296) (hl : Hid (lives t ⟨a, b⟩ = false)) :
    Calls Try.prog 11 #[.pointer (some ⟨g, 0, none⟩), .agg #[.int .u32 a, .int .u32 b]] w fun e w' => e = .returned (.tuple #[.int .i64 0, .int .i64 102]) ∧ Below w.heap.size w w' := by
  have C := Lib.hid (fun W (hW : Below w.heap.size w W) => at_no g vs vo t a b W (h.out.below hW) hs.out ha hl.out)
  go_enter Try.func11, Try.ntmps11
  go_wp2_with fail
  refine (C.out _ (by first | exact Below.refl _ _ | exact (Below.refl _ _).alloc (Nat.le_refl _) _)).mono ?_
  rintro e w1 ⟨rfl, hb1⟩
  go_wp2
  go_ret2
  exact ⟨rfl, by first | exact hb1 | exact ((Below.refl _ w).alloc (Nat.le_refl _) _).trans (hb1.mono (by simp))⟩
end Go.Proofs.Ytijlnlcjlkanaaa.Stg
