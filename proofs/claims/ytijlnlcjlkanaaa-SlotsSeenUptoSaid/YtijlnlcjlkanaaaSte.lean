/- (*slots.Table[int]): Set, Serial; slices.Index over handles. -/
import Derived.Test.YtijlnlcjlkanaaaStg
set_option linter.unusedVariables false
namespace Go.Proofs.Ytijlnlcjlkanaaa.Ste
open Go.RowKit Rwo Sta Stb Stc Stg

/-- Another thing in a slot. -/
def setIn (t : Tab) (j : Nat) (x : Int) : Tab := { t with sl := t.sl.set j ⟨(t.sl.getD j ⟨0, 0, 0⟩).gen, (t.sl.getD j ⟨0, 0, 0⟩).ser, x⟩ }
theorem lives_lt {t : Tab} {a b : Nat} (hl : lives t ⟨a, b⟩ = true) : a - 1 < t.sl.length ∧ 1 ≤ a := by
  unfold lives at hl
  simp only [Bool.and_eq_true, decide_eq_true_eq] at hl
  omega
theorem set_stored {g b1 cp j : Nat} {vo : Value} {t : Tab} {x : Int} {w : World} (h : TabAt g (.slice (some ⟨b1, 0, none⟩) t.sl.length cp) vo t w) (hj : j < t.sl.length) :
    TabAt g (.slice (some ⟨b1, 0, none⟩) t.sl.length cp) vo (setIn t j x) (w.setCell ⟨b1, j * 3 + 2, none⟩ (.int .i64 x)) ∧
    Step g (.slice (some ⟨b1, 0, none⟩) t.sl.length cp) vo (.slice (some ⟨b1, 0, none⟩) t.sl.length cp) vo w (w.setCell ⟨b1, j * 3 + 2, none⟩ (.int .i64 x)) := by
  have hb1 := (h.sl.lt (k := b1) rfl).1
  have hgb : g ≠ b1 := by omega
  have hb := (Below.refl 0 w).setCell (p := ⟨b1, j * 3 + 2, none⟩) (Nat.zero_le _) (.int .i64 x)
  refine ⟨⟨?_, ?_, ?_, ?_⟩, ⟨hb.os, hb.tape, hb.output, hb.size, ?_, fun _ h => .inl h, fun _ h => .inl h⟩⟩
  · rw [sc_other hgb]; exact h.blk
  · exact h.sl.store j 2 (.int .i64 x) ⟨(t.sl.getD j ⟨0, 0, 0⟩).gen, (t.sl.getD j ⟨0, 0, 0⟩).ser, x⟩ hj (by show 2 < 3; omega) rfl
  · refine h.ord.kept fun b hb => ?_
    have e2 : b ≠ b1 := fun e => Own.apart h.ord h.sl (by decide) hb (by rw [e]; rfl)
    rw [sc_other e2]
  · have := hb.size; have := h.lt; omega
  · intro b _ _ e2 _
    have e2 : b ≠ b1 := fun e => e2 (by rw [e]; rfl)
    rw [sc_other e2]
set_option maxHeartbeats 2000000 in
set_option maxRecDepth 100000 in
theorem set_yes (g : Nat) (vs vo : Value) (t : Tab) (a b : Nat) (x : Int) (w : World) (h : Hid (TabAt g vs vo t w)) (hs : Hid (Small t)) (hl : Hid (lives t ⟨a, b⟩ = true)) :
    Calls Try.prog 14 #[.pointer (some ⟨g, 0, none⟩), .agg #[.int .u32 a, .int .u32 b], .int .i64 x] w fun e w' => e = .returned (.int .i64 0) ∧ TabAt g vs vo (setIn t (a - 1) x) w' ∧ Step g vs vo vs vo w w' := by
  have C := Lib.hid (fun W (hW : Below w.heap.size w W) => at_yes g vs vo t a b W (h.out.below hW) hs.out hl.out)
  go_enter Try.func14, Try.ntmps14
  go_wp2_with fail
  refine (C.out _ (by first | exact Below.refl _ _ | exact (Below.refl _ _).alloc (Nat.le_refl _) _)).mono ?_
  rintro e w1 ⟨⟨b1, cp, rfl, rfl⟩, hb1⟩
  have hbw : Below w.heap.size w w1 := by first | exact hb1 | exact ((Below.refl _ w).alloc (Nat.le_refl _) _).trans (hb1.mono (by simp))
  have hja := (lives_lt hl.out).1
  have HT := Lib.hid (h.out.below hbw)
  obtain ⟨d0, d1, d2⟩ := slot_cells HT.out.sl (a - 1) hja rfl
  have k2 := HT.out.sl.frozen ((a - 1) * 3 + 2)
  clear d0 d1
  go_wp2
  go_ret
  obtain ⟨h1, h2⟩ := set_stored (x := x) HT.out hja
  exact ⟨rfl, h1, (Step.of_below hbw).trans h2⟩
set_option maxHeartbeats 2000000 in
set_option maxRecDepth 100000 in
theorem set_no (g : Nat) (vs vo : Value) (t : Tab) (a b : Nat) (x : Int) (w : World) (h : Hid (TabAt g vs vo t w)) (hs : Hid (Small t)) (ha : a < 4294967296) (hl : Hid (lives t ⟨a, b⟩ = false)) :
    Calls Try.prog 14 #[.pointer (some ⟨g, 0, none⟩), .agg #[.int .u32 a, .int .u32 b], .int .i64 x] w fun e w' => e = .returned (.int .i64 102) ∧ Below w.heap.size w w' := by
  have C := Lib.hid (fun W (hW : Below w.heap.size w W) => at_no g vs vo t a b W (h.out.below hW) hs.out ha hl.out)
  go_enter Try.func14, Try.ntmps14
  go_wp2_with fail
  refine (C.out _ (by first | exact Below.refl _ _ | exact (Below.refl _ _).alloc (Nat.le_refl _) _)).mono ?_
  rintro e w1 ⟨rfl, hb1⟩
  go_wp2
  go_ret
  exact ⟨rfl, by first | exact hb1 | exact ((Below.refl _ w).alloc (Nat.le_refl _) _).trans (hb1.mono (by simp))⟩
set_option maxHeartbeats 2000000 in
set_option maxRecDepth 100000 in
theorem serial_yes (g : Nat) (vs vo : Value) (t : Tab) (a b : Nat) (w : World) (h : Hid (TabAt g vs vo t w)) (hs : Hid (Small t)) (hl : Hid (lives t ⟨a, b⟩ = true)) (n : Nat) (hx : Hid ((t.sl.getD (a - 1) ⟨0, 0, 0⟩).ser = n)) :
    Calls Try.prog 29 #[.pointer (some ⟨g, 0, none⟩), .agg #[.int .u32 a, .int .u32 b]] w fun e w' => e = .returned (.tuple #[.int .i64 n, .int .i64 0]) ∧ Below w.heap.size w w' := by
  have C := Lib.hid (fun W (hW : Below w.heap.size w W) => at_yes g vs vo t a b W (h.out.below hW) hs.out hl.out)
  go_enter Try.func29, Try.ntmps29
  go_wp2_with fail
  refine (C.out _ (by first | exact Below.refl _ _ | exact (Below.refl _ _).alloc (Nat.le_refl _) _)).mono ?_
  rintro e w1 ⟨⟨b1, cp, rfl, rfl⟩, hb1⟩
  have hbw : Below w.heap.size w w1 := by first | exact hb1 | exact ((Below.refl _ w).alloc (Nat.le_refl _) _).trans (hb1.mono (by simp))
  obtain ⟨d0, d1, d2⟩ := slot_cells (h.out.below hbw).sl (a - 1) (lives_lt hl.out).1 rfl
  rw [hx.out] at d1
  clear d0 d2
  go_wp2
  go_ret2
  exact ⟨rfl, hbw⟩
set_option maxHeartbeats 2000000 in
set_option maxRecDepth 100000 in
theorem serial_no (g : Nat) (vs vo : Value) (t : Tab) (a b : Nat) (w : World) (h : Hid (TabAt g vs vo t w)) (hs : Hid (Small t)) (ha : a < 4294967296) (hl : Hid (lives t ⟨a, b⟩ = false)) :
    Calls Try.prog 29 #[.pointer (some ⟨g, 0, none⟩), .agg #[.int .u32 a, .int .u32 b]] w fun e w' => e = .returned (.tuple #[.int .i64 0, .int .i64 102]) ∧ Below w.heap.size w w' := by
  have C := Lib.hid (fun W (hW : Below w.heap.size w W) => at_no g vs vo t a b W (h.out.below hW) hs.out ha hl.out)
  go_enter Try.func29, Try.ntmps29
  go_wp2_with fail
  refine (C.out _ (by first | exact Below.refl _ _ | exact (Below.refl _ _).alloc (Nat.le_refl _) _)).mono ?_
  rintro e w1 ⟨rfl, hb1⟩
  go_wp2
  go_ret2
  exact ⟨rfl, by first | exact hb1 | exact ((Below.refl _ w).alloc (Nat.le_refl _) _).trans (hb1.mono (by simp))⟩
theorem hd_at {B b c n : Nat} {l : List Hd} {w : World} (h : Own hdE 33 B (.slice (some ⟨b, 0, none⟩) n c) l w) (j : Nat) (hj : j < l.length) {s : Hd} (hs : l.getD j ⟨0, 0⟩ = s) :
    w.cell? ⟨b, j * 2, none⟩ = some (.int .u32 s.slot) ∧ w.cell? ⟨b, j * 2 + 1, none⟩ = some (.int .u32 s.gen) := by
  subst hs
  exact ⟨h.cell j 0 hj (by show 0 < 2; omega), h.cell j 1 hj (by show 1 < 2; omega)⟩
set_option maxHeartbeats 4000000 in
set_option maxRecDepth 100000 in
/-- slices.Index of a handle that is there for the first time at place i. -/
theorem index_found (B : Nat) (vo : Value) (l : List Hd) (a b i : Nat) (w : World) (h : Hid (Own hdE 33 B vo l w)) (hn : l.length ≤ 1000000) (hi : i < l.length) (h0 : Hid (l.getD i ⟨0, 0⟩ = ⟨a, b⟩)) (hb : Hid (∀ j, j < i → l.getD j ⟨0, 0⟩ ≠ ⟨a, b⟩)) :
    Calls Try.prog 33 #[vo, .agg #[.int .u32 a, .int .u32 b]] w fun e w' => e = .returned (.int .i64 i) ∧ Below w.heap.size w w' := by
  obtain ⟨b1, cp1, cur, rfl, hb0, _, hb1, _⟩ := Own.some h.out (by intro e; rw [e, List.length_nil] at hi; omega)
  have hbox := (Below.refl w.heap.size w).alloc (Nat.le_refl _) (.cells #[.int .u32 a, .int .u32 b] 33)
  have HO := Lib.hid (h.out.alloc (.cells #[.int .u32 a, .int .u32 b] 33))
  have HB := Lib.hid hbox
  clear hbox
  go_enter Try.func33, Try.ntmps33
  go_wp2
  go_loopw [8] (fun u wr => ∃ k q : Nat, k ≤ i ∧ u = .int .i64 k ∧ wr = (w.alloc (.cells #[.int .u32 a, .int .u32 b] 33)).drewN q) (fun u _ => i + 1 - (intOf u).toNat)
  case atStart => exact ⟨0, 0, Nat.zero_le _, rfl, rfl⟩
  case round =>
    obtain ⟨k, q, hk, rfl, rfl⟩ := hrel
    obtain ⟨s, hsl⟩ : ∃ s, l.getD k ⟨0, 0⟩ = s := ⟨_, rfl⟩
    obtain ⟨d0, d1⟩ := hd_at h.out k (by omega) hsl
    have hkl : k < l.length := by omega
    have hne : w.heap.size ≠ b1 := by omega
    by_cases hki : k < i
    · have hsne : ¬ (a = s.slot ∧ b = s.gen) := fun e => hb.out k hki (by rw [hsl, e.1, e.2])
      clear hsl
      cases e1 : ((a : Int) == (s.slot : Int)) with
      | false =>
        clear hsne
        go_wp2_with fail
        go_quiet (fail)
        go_wp2
        go_roundw
        case rel => exact ⟨k + 1, _, by omega, by go_num, rfl⟩
        case measure => simp [intOf]; omega
      | true =>
        have e2 : ((b : Int) == (s.gen : Int)) = false := by
          rw [beq_eq_false_iff_ne]
          intro e
          have := eq_of_beq e1
          exact hsne ⟨by omega, by omega⟩
        clear hsne
        go_wp2_with fail
        go_quiet (fail)
        go_wp2
        go_roundw
        case rel => exact ⟨k + 1, _, by omega, by go_num, rfl⟩
        case measure => simp [intOf]; omega
    · have hke : k = i := by omega
      subst hke
      rw [h0.out] at hsl
      subst hsl
      go_wp2_with fail
      go_quiet (fail)
      go_wp2
      go_ret
      exact ⟨rfl, by first | exact below_drewN_up HB.out _ | exact below_drewN_up (below_drewN_up HB.out _) _⟩
end Go.Proofs.Ytijlnlcjlkanaaa.Ste
