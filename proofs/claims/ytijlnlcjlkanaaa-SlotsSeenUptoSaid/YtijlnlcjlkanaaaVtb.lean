/- slots.New[int], empty. -/
import Derived.Test.YtijlnlcjlkanaaaVta
set_option linter.unusedVariables false
namespace Go.Proofs.Ytijlnlcjlkanaaa.Vtb
open Sta (Hd hdE Step below_drewN below_drewN_up blk_cells)
open Go.RowKit Rwo Vta

theorem infoSl : (Try.prog.info? 90).map (fun i => (i.zero, i.size, i.bytes)) = some (some (.agg #[.int .u32 0, .int .i64 0, .string .empty, .slice none 0 0]), 4, 56) := by kernel_rfl
theorem infoHd : (Try.prog.info? 33).map (fun i => (i.zero, i.size, i.bytes)) = some (some (.agg #[.int .u32 0, .int .u32 0]), 2, 8) := by kernel_rfl
theorem tab_new (w : World) (most : Nat) : TabAt w.heap.size (.slice none 0 0) (.slice none 0 0) ⟨[], most, 0, 0, []⟩ (w.alloc (.cells #[.slice none 0 0, .int .i64 most, .int .i64 0, .int .i64 0, .slice none 0 0] 87)) :=
  ⟨heap_alloc_new w _, Own.nil _ _, Own.nil _ _, by simp⟩
set_option maxHeartbeats 1000000 in
set_option maxRecDepth 100000 in
theorem new_ok (most : Nat) (w : World) (h1 : 1 ≤ most) (h2 : most ≤ 500) :
    Calls Try.prog 17 #[.int .i64 most] w fun e w' => e = .returned (.tuple #[.pointer (some ⟨w.heap.size, 0, none⟩), .int .i64 0]) ∧ TabAt w.heap.size (.slice none 0 0) (.slice none 0 0) ⟨[], most, 0, 0, []⟩ w' ∧ Below w.heap.size w w' := by
  have HT := Lib.hid (tab_new w most)
  have a1 : decide ((most : Int) < 1) = false := decide_eq_false (by omega)
  have a2 : decide ((500 : Int) < (most : Int)) = false := decide_eq_false (by omega)
  go_enter Try.func17, Try.ntmps17
  go_wp2
  go_ret2
  exact ⟨rfl, HT.out, (Below.refl _ w).alloc (Nat.le_refl _) _⟩
theorem occ_cast {s : Sl} (h : s.ser ≠ 0) : ((s.ser : Int) == 0) = false := by rw [beq_eq_false_iff_ne]; omega
set_option maxHeartbeats 2000000 in
set_option maxRecDepth 100000 in
theorem empty_found (g : Nat) (vs vo : Value) (t : Tab) (i : Nat) (w : World) (h : Hid (TabAt g vs vo t w)) (hs : Hid (Small t)) (hi : i < t.sl.length) (h0 : Hid ((t.sl.getD i ⟨0, 0, th0⟩).ser = 0)) (hb : Hid (∀ j, j < i → (t.sl.getD j ⟨0, 0, th0⟩).ser ≠ 0)) :
    Calls Try.prog 35 #[.pointer (some ⟨g, 0, none⟩)] w fun e w' => e = .returned (.int .i64 i) ∧ w = w' := by
  obtain ⟨⟨c0, c1, c2, c3, c4⟩, f0, f1, f2, f3, f4⟩ := h.out.cells
  obtain ⟨b1, cp1, cur, rfl, hb0, _, hb1, _⟩ := Own.some h.out.sl (by intro e; rw [e, List.length_nil] at hi; omega)
  have hlen := hs.out.len
  have hmost := hs.out.most
  go_enter Try.func35, Try.ntmps35
  go_wp2
  go_loopw [9] (fun u wr => ∃ k : Nat, k ≤ i ∧ u = .int .i64 k ∧ w = wr) (fun u _ => i + 1 - (intOf u).toNat)
  case atStart => exact ⟨0, Nat.zero_le _, rfl, rfl⟩
  case round =>
    obtain ⟨k, hk, rfl, rfl⟩ := hrel
    obtain ⟨s, hsl⟩ : ∃ s, t.sl.getD k ⟨0, 0, th0⟩ = s := ⟨_, rfl⟩
    obtain ⟨d0, d1, d2, d3⟩ := slot_cells h.out.sl k (by omega) hsl
    have hkl : k < t.sl.length := by omega
    by_cases hki : k < i
    · have e1 : ((s.ser : Int) == 0) = false := by
        rw [← hsl]; exact occ_cast (hb.out k hki)
      clear hsl
      go_wp2
      go_roundw
      case rel => exact ⟨k + 1, by omega, by go_num, trivial⟩
      case measure => simp [intOf]; omega
    · have hke : k = i := by omega
      have e1 : ((s.ser : Int) == 0) = true := by
        have := h0.out
        rw [← hke, hsl] at this
        rw [beq_iff_eq]; omega
      clear hsl
      subst hke
      go_wp2
      go_ret
      exact ⟨rfl, rfl⟩
set_option maxHeartbeats 2000000 in
set_option maxRecDepth 100000 in
theorem empty_full (g : Nat) (vs vo : Value) (t : Tab) (w : World) (h : Hid (TabAt g vs vo t w)) (hs : Hid (Small t)) (hm : t.sl.length = t.most) (hb : Hid (∀ j, j < t.sl.length → (t.sl.getD j ⟨0, 0, th0⟩).ser ≠ 0)) :
    Calls Try.prog 35 #[.pointer (some ⟨g, 0, none⟩)] w fun e w' => e = .returned (.int .i64 (-1)) ∧ ∃ q, w' = w.drewN q := by
  obtain ⟨⟨c0, c1, c2, c3, c4⟩, f0, f1, f2, f3, f4⟩ := h.out.cells
  obtain ⟨A1, cp1, rfl⟩ := Own.shape h.out.sl
  have hlen := hs.out.len
  have hmost := hs.out.most
  have m1 : ((t.sl.length : Int) == (t.most : Int)) = true := by rw [beq_iff_eq]; omega
  clear hm
  go_enter Try.func35, Try.ntmps35
  go_wp2
  go_loopw [9] (fun u wr => ∃ k : Nat, k ≤ t.sl.length ∧ u = .int .i64 k ∧ w = wr) (fun u _ => t.sl.length - (intOf u).toNat)
  case atStart => exact ⟨0, Nat.zero_le _, rfl, rfl⟩
  case round =>
    obtain ⟨k, hk, rfl, rfl⟩ := hrel
    by_cases hkl : k < t.sl.length
    · obtain ⟨b1, cp1', cur, hv, hb0, _, hb1, _⟩ := Own.some h.out.sl (by intro e; rw [e, List.length_nil] at hkl; omega)
      simp only [Value.slice.injEq] at hv
      obtain ⟨rfl, _, rfl⟩ := hv
      obtain ⟨s, hsl⟩ : ∃ s, t.sl.getD k ⟨0, 0, th0⟩ = s := ⟨_, rfl⟩
      obtain ⟨d0, d1, d2, d3⟩ := slot_cells h.out.sl k (by omega) hsl
      have e1 : ((s.ser : Int) == 0) = false := by
        rw [← hsl]; exact occ_cast (hb.out k hkl)
      clear hsl m1
      go_wp2
      go_roundw
      case rel => exact ⟨k + 1, by omega, by go_num, trivial⟩
      case measure => simp [intOf]; omega
    · go_wp2_with fail
      go_quiet (fail)
      go_wp2
      go_ret
      exact ⟨rfl, _, rfl⟩
/-- A table with one slot more. -/
def wider (t : Tab) : Tab := { t with sl := t.sl ++ [⟨0, 0, th0⟩] }
set_option maxHeartbeats 4000000 in
set_option maxRecDepth 100000 in
theorem empty_more (g : Nat) (vs vo : Value) (t : Tab) (w : World) (h : Hid (TabAt g vs vo t w)) (hs : Hid (Small t)) (hm : t.sl.length < t.most) (hb : Hid (∀ j, j < t.sl.length → (t.sl.getD j ⟨0, 0, th0⟩).ser ≠ 0)) :
    Calls Try.prog 35 #[.pointer (some ⟨g, 0, none⟩)] w fun e w' => e = .returned (.int .i64 t.sl.length) ∧ ∃ vs', TabAt g vs' vo (wider t) w' ∧ Step g vs vo vs' vo w w' := by
  obtain ⟨⟨c0, c1, c2, c3, c4⟩, f0, f1, f2, f3, f4⟩ := h.out.cells
  obtain ⟨A1, cp1, rfl⟩ := Own.shape h.out.sl
  have hlen := hs.out.len
  have hmost := hs.out.most
  have hlt := h.out.lt
  have m1 : ((t.sl.length : Int) == (t.most : Int)) = false := by rw [beq_eq_false_iff_ne]; omega
  go_enter Try.func35, Try.ntmps35
  go_wp2
  go_loopw [9] (fun u wr => ∃ k : Nat, k ≤ t.sl.length ∧ u = .int .i64 k ∧ w = wr) (fun u _ => t.sl.length - (intOf u).toNat)
  case atStart => exact ⟨0, Nat.zero_le _, rfl, rfl⟩
  case round =>
    obtain ⟨k, hk, rfl, rfl⟩ := hrel
    by_cases hkl : k < t.sl.length
    · obtain ⟨b1, cp1', cur, hv, hb0, _, hb1, _⟩ := Own.some h.out.sl (by intro e; rw [e, List.length_nil] at hkl; omega)
      simp only [Value.slice.injEq] at hv
      obtain ⟨rfl, _, rfl⟩ := hv
      obtain ⟨s, hsl⟩ : ∃ s, t.sl.getD k ⟨0, 0, th0⟩ = s := ⟨_, rfl⟩
      obtain ⟨d0, d1, d2, d3⟩ := slot_cells h.out.sl k (by omega) hsl
      have e1 : ((s.ser : Int) == 0) = false := by
        rw [← hsl]; exact occ_cast (hb.out k hkl)
      clear hsl m1
      go_wp2
      go_roundw
      case rel => exact ⟨k + 1, by omega, by go_num, trivial⟩
      case measure => simp [intOf]; omega
    · go_wp2_with fail
      go_quiet (fail)
      go_wp2_with (at_builtin; refine wpList_append (by rfl) _ _ _ (by rfl) 90 _ 56 Try.underlying85 infoSl (by rfl) (g + 1) _ t.sl _ (Own.drewN h.out.sl nq) (by rfl) ⟨0, 0, th0⟩ _ (by rfl) _ w.heap.size (by rfl) (by rfl) (by omega) ⟨by show _ ≤ w.heap.size; omega, rfl⟩ ?_; intro g3 cp3 w3 hO3 hb3 hfar hsz3 hat; have hB3 : w3.heap[g]? = w.heap[g]? := hfar g hlt (fun hk => absurd (h.out.sl.lt hk).1 (by omega)); have hT3 : w3.heap[g]? = some _ := hB3.trans h.out.blk; have hV3 : Own hdE 33 (g + 1) vo t.ord w3 := h.out.ord.kept (fun b hb => hfar b (h.out.ord.lt hb).2 (Own.apart h.out.ord h.out.sl (by decide) hb)); have HC := Lib.hid (And.intro hT3 (And.intro hO3 hV3)); obtain ⟨⟨d0, d1, d2, d3, d4⟩, e0, e1, e2, e3, e4⟩ := blk_cells hT3; have FAR := Lib.hid hfar; clear hT3 hO3 hV3 hB3 hfar)
      have HST : Hid (Step g (.slice A1 t.sl.length cp1) vo (.slice (some ⟨g3, 0, none⟩) (t.sl.length + 1) cp3) vo w (w3.setCell ⟨g, 0, none⟩ (.slice (some ⟨g3, 0, none⟩) (t.sl.length + 1) cp3))) := by
        refine ⟨hb3.os, hb3.tape, hb3.output, ?_, ?_, ?_, fun _ h => .inl h⟩
        · have : w.heap.size < w3.heap.size := hsz3
          simp; omega
        · intro b hb hg h1 _
          rw [heap_setCell_other _ _ _ _ (by exact hg)]
          exact FAR.out b hb h1
        · intro b hb
          have : g3 = b := by simpa [Value.ownBlock] using hb
          subst this
          exact hat
      have HT : Hid (TabAt g (.slice (some ⟨g3, 0, none⟩) (t.sl.length + 1) cp3) vo (wider t) (w3.setCell ⟨g, 0, none⟩ (.slice (some ⟨g3, 0, none⟩) (t.sl.length + 1) cp3))) :=
        ⟨heap_setCell_same _ g 0 _ _ _ HC.out.1, HC.out.2.1.kept (fun b hb => heap_setCell_other _ _ _ _ (by have := (HC.out.2.1.lt hb).1; show b ≠ g; omega)), HC.out.2.2.kept (fun b hb => heap_setCell_other _ _ _ _ (by have := (HC.out.2.2.lt hb).1; show b ≠ g; omega)), by have : w.heap.size < w3.heap.size := hsz3; simp; omega⟩
      go_ret
      exact ⟨rfl, _, HT.out, HST.out⟩
end Go.Proofs.Ytijlnlcjlkanaaa.Vtb
