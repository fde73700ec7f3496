/- (*slots.Table[drowselaw10.Pair]).Set. -/
import Derived.Test.YtijlnlcjlkanaaaVtg
set_option linter.unusedVariables false
namespace Go.Proofs.Ytijlnlcjlkanaaa.Vte
open Sta (Hd hdE Step below_drewN below_drewN_up blk_cells)
open Go.RowKit Rwo Vta Vtb Vtc Vtd Vtg

/-- Another thing in a slot. -/
def setIn (t : Tab) (j : Nat) (x : Th) : Tab := { t with sl := t.sl.set j ⟨(t.sl.getD j ⟨0, 0, th0⟩).gen, (t.sl.getD j ⟨0, 0, th0⟩).ser, x⟩ }
theorem set_stored {g b1 cp j : Nat} {vo : Value} {t : Tab} {x : Th} {w : World} (h : TabAt g (.slice (some ⟨b1, 0, none⟩) t.sl.length cp) vo t w) (hj : j < t.sl.length) :
    TabAt g (.slice (some ⟨b1, 0, none⟩) t.sl.length cp) vo (setIn t j x) ((w.setCell ⟨b1, j * 4 + 2, none⟩ x.av).setCell ⟨b1, j * 4 + 3, none⟩ x.bv) ∧
    Step g (.slice (some ⟨b1, 0, none⟩) t.sl.length cp) vo (.slice (some ⟨b1, 0, none⟩) t.sl.length cp) vo w ((w.setCell ⟨b1, j * 4 + 2, none⟩ x.av).setCell ⟨b1, j * 4 + 3, none⟩ x.bv) := by
  have hb1 := (h.sl.lt (k := b1) rfl).1
  have hgb : g ≠ b1 := by omega
  have hb := ((Below.refl 0 w).setCell (p := ⟨b1, j * 4 + 2, none⟩) (Nat.zero_le _) x.av).setCell (p := ⟨b1, j * 4 + 3, none⟩) (Nat.zero_le _) x.bv
  obtain ⟨s, hs⟩ : ∃ s, t.sl.getD j ⟨0, 0, th0⟩ = s := ⟨_, rfl⟩
  have h1 := h.sl.store j 2 x.av ⟨s.gen, s.ser, ⟨x.a, s.thing.p, s.thing.n, s.thing.c⟩⟩ hj (by show 2 < 4; omega) (by show slE.f _ = (slE.f (t.sl.getD j ⟨0, 0, th0⟩)).set 2 _; rw [hs]; rfl)
  have h2 := h1.store j 3 x.bv ⟨s.gen, s.ser, x⟩ (by rw [List.length_set]; exact hj) (by show 3 < 4; omega) (by
    show slE.f _ = (slE.f ((t.sl.set j _).getD j ⟨0, 0, th0⟩)).set 3 _
    rw [List.getD_eq_getElem?_getD, List.getElem?_set_self hj]; rfl)
  rw [List.set_set] at h2
  refine ⟨⟨?_, ?_, ?_, ?_⟩, ⟨hb.os, hb.tape, hb.output, hb.size, ?_, fun _ h => .inl h, fun _ h => .inl h⟩⟩
  · rw [sc_other hgb, sc_other hgb]; exact h.blk
  · show Own slE _ _ _ (t.sl.set j ⟨(t.sl.getD j ⟨0, 0, th0⟩).gen, (t.sl.getD j ⟨0, 0, th0⟩).ser, x⟩) _
    rw [hs]; exact h2
  · refine h.ord.kept fun b hb => ?_
    have e2 : b ≠ b1 := fun e => Own.apart h.ord h.sl (by decide) hb (by rw [e]; rfl)
    rw [sc_other e2, sc_other e2]
  · have := hb.size; have := h.lt; omega
  · intro b _ _ e2 _
    have e2 : b ≠ b1 := fun e => e2 (by rw [e]; rfl)
    rw [sc_other e2, sc_other e2]
/-- The boxes of Set's parameters. -/
theorem set_boxes (w : World) (a b : Nat) (x : Th) : Below w.heap.size w ((w.alloc (.cells #[.int .u32 a, .int .u32 b] 33)).alloc (xbox x)) ∧ ((w.alloc (.cells #[.int .u32 a, .int .u32 b] 33)).alloc (xbox x)).heap[w.heap.size + 1]? = some (xbox x) := by
  have h0 := heap_alloc_new (w.alloc (.cells #[.int .u32 a, .int .u32 b] 33)) (xbox x)
  rw [alloc_size] at h0
  exact ⟨((Below.refl w.heap.size w).alloc (Nat.le_refl _) _).alloc (by simp) _, h0⟩
set_option maxHeartbeats 2000000 in
set_option maxRecDepth 100000 in
theorem set_yes (g : Nat) (vs vo : Value) (t : Tab) (a b : Nat) (x : Th) (w : World) (h : Hid (TabAt g vs vo t w)) (hs : Hid (Small t)) (hl : Hid (lives t ⟨a, b⟩ = true)) :
    Calls Try.prog 21 #[.pointer (some ⟨g, 0, none⟩), .agg #[.int .u32 a, .int .u32 b], x.val] w fun e w' => e = .returned (.int .i64 0) ∧ TabAt g vs vo (setIn t (a - 1) x) w' ∧ Step g vs vo vs vo w w' := by
  have HB0 := Lib.hid (set_boxes w a b x)
  have CC := Lib.hid (at_yes g vs vo t a b _ (h.out.below HB0.out.1) hs.out hl.out)
  go_enter Try.func21, Try.ntmps21
  go_wp2_with fail
  refine CC.out.mono ?_
  rintro e w1 ⟨⟨b1, cp, rfl, rfl⟩, hb1⟩
  have HBW := Lib.hid (HB0.out.1.trans (hb1.mono HB0.out.1.size))
  have HN1 := Lib.hid ((hb1.block (w.heap.size + 1) (by simp)).trans HB0.out.2)
  have hja := (lives_lt hl.out).1
  have HT := Lib.hid (h.out.below HBW.out)
  obtain ⟨d0, d1, d2, d3⟩ := slot_cells HT.out.sl (a - 1) hja rfl
  obtain ⟨n0, n1, n2, n3⟩ := hd_cells HN1.out
  have k2 := HT.out.sl.frozen ((a - 1) * 4 + 2)
  have k3 := HT.out.sl.frozen ((a - 1) * 4 + 3)
  clear d0 d1 hb1
  have HST := Lib.hid (set_stored (x := x) HT.out hja)
  go_wp2
  go_ret
  exact ⟨rfl, HST.out.1, (Step.of_below HBW.out).trans HST.out.2⟩
set_option maxHeartbeats 2000000 in
set_option maxRecDepth 100000 in
theorem set_no (g : Nat) (vs vo : Value) (t : Tab) (a b : Nat) (x : Th) (w : World) (h : Hid (TabAt g vs vo t w)) (hs : Hid (Small t)) (ha : a < 4294967296) (hl : Hid (lives t ⟨a, b⟩ = false)) :
    Calls Try.prog 21 #[.pointer (some ⟨g, 0, none⟩), .agg #[.int .u32 a, .int .u32 b], x.val] w fun e w' => e = .returned (.int .i64 102) ∧ Below w.heap.size w w' := by
  have HB0 := Lib.hid (set_boxes w a b x)
  have CC := Lib.hid (at_no g vs vo t a b _ (h.out.below HB0.out.1) hs.out ha hl.out)
  go_enter Try.func21, Try.ntmps21
  go_wp2_with fail
  refine CC.out.mono ?_
  rintro e w1 ⟨rfl, hb1⟩
  have HBW := Lib.hid (HB0.out.1.trans (hb1.mono HB0.out.1.size))
  go_wp2
  go_ret
  exact ⟨rfl, HBW.out⟩
end Go.Proofs.Ytijlnlcjlkanaaa.Vte
