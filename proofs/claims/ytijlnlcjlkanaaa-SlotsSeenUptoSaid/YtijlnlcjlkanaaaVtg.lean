/- (*slots.Table[drowselaw10.Pair]): Count, at, Get. -/
import Derived.Test.YtijlnlcjlkanaaaVtd
set_option linter.unusedVariables false
namespace Go.Proofs.Ytijlnlcjlkanaaa.Vtg
open Sta (Hd hdE Step below_drewN below_drewN_up blk_cells)
open Go.RowKit Rwo Vta Vtb Vtc Vtd

set_option maxHeartbeats 1000000 in
set_option maxRecDepth 100000 in
theorem count_any (g : Nat) (vs vo : Value) (t : Tab) (w : World) (h : Hid (TabAt g vs vo t w)) :
    Calls Try.prog 23 #[.pointer (some ⟨g, 0, none⟩)] w fun e w' => e = .returned (.int .i64 t.count) ∧ w = w' := by
  obtain ⟨⟨c0, c1, c2, c3, c4⟩, f0, f1, f2, f3, f4⟩ := h.out.cells
  go_enter Try.func23, Try.ntmps23
  go_wp2
  go_ret
  exact ⟨rfl, rfl⟩
theorem at_yes (g : Nat) (vs vo : Value) (t : Tab) (a b : Nat) (w : World) (h : TabAt g vs vo t w) (hs : Small t) (hl : lives t ⟨a, b⟩ = true) :
    Calls Try.prog 38 #[.pointer (some ⟨g, 0, none⟩), .agg #[.int .u32 a, .int .u32 b]] w fun e w' => (∃ b1 cp, vs = .slice (some ⟨b1, 0, none⟩) t.sl.length cp ∧ e = .returned (.tuple #[.pointer (some ⟨b1, (a - 1) * 4, none⟩), .int .i64 0])) ∧ Below w.heap.size w w' := by
  unfold lives at hl
  simp only [Bool.and_eq_true, decide_eq_true_eq] at hl
  obtain ⟨⟨⟨h1, h2⟩, h3⟩, h4⟩ := hl
  exact at_live g vs vo t a b w (Lib.hid h) (Lib.hid hs) h1 h2 ⟨h3, h4⟩
theorem at_no (g : Nat) (vs vo : Value) (t : Tab) (a b : Nat) (w : World) (h : TabAt g vs vo t w) (hs : Small t) (ha : a < 4294967296) (hl : lives t ⟨a, b⟩ = false) :
    Calls Try.prog 38 #[.pointer (some ⟨g, 0, none⟩), .agg #[.int .u32 a, .int .u32 b]] w fun e w' => e = .returned (.tuple #[.pointer none, .int .i64 102]) ∧ Below w.heap.size w w' := by
  by_cases h1 : 1 ≤ a
  · by_cases h2 : a ≤ t.sl.length
    · by_cases h3 : (t.sl.getD (a - 1) ⟨0, 0, th0⟩).ser = 0
      · exact at_empty g vs vo t a b w (Lib.hid h) (Lib.hid hs) h1 h2 h3
      · by_cases h4 : (t.sl.getD (a - 1) ⟨0, 0, th0⟩).gen = b
        · have : lives t ⟨a, b⟩ = true := by
            unfold lives
            rw [decide_eq_true h1, decide_eq_true h2, decide_eq_true h3, decide_eq_true h4]; rfl
          rw [this] at hl; cases hl
        · exact at_gen g vs vo t a b w (Lib.hid h) (Lib.hid hs) h1 h2 ⟨h3, h4⟩
    · exact at_high g vs vo t a b w (Lib.hid h) (Lib.hid hs) (by omega) ha
  · obtain rfl : a = 0 := by omega
    exact at_low g vs vo t b w (Lib.hid h)
/-- A pair in memory and a number, as results. -/
theorem pr_results {fn : Func} {p u : Tmp} (h : fn.results = #[.cell p 50, .tmp u]) (tmps : Array Value) (w : World) (g : Nat) (cs : Array Value)
    (hp : tmps.getD p undef = .pointer (some ⟨g, 0, none⟩)) (hg : w.heap[g]? = some (.cells cs 50 (0, 0))) (hs : cs.size = 2) :
    (results fn tmps).run Try.prog w = .ok (.tuple #[.agg cs, tmps.getD u undef]) w := by
  have hp' : tmps[p]?.getD undef = .pointer (some ⟨g, 0, none⟩) := by simpa using hp
  have hi : (Try.prog.info? 50).map (·.size) = some cs.size := by rw [hs]; kernel_rfl
  simp [results, h, hp', asAddr, run_loadVar_row w g 50 50 cs (0, 0) _ hg Try.underlying50 rfl hi]
theorem lives_lt {t : Tab} {a b : Nat} (hl : lives t ⟨a, b⟩ = true) : a - 1 < t.sl.length ∧ 1 ≤ a := by
  unfold lives at hl
  simp only [Bool.and_eq_true, decide_eq_true_eq] at hl
  omega
set_option maxHeartbeats 2000000 in
set_option maxRecDepth 100000 in
theorem get_yes (g : Nat) (vs vo : Value) (t : Tab) (a b : Nat) (w : World) (h : Hid (TabAt g vs vo t w)) (hs : Hid (Small t)) (hl : Hid (lives t ⟨a, b⟩ = true)) (x : Th) (hx : Hid ((t.sl.getD (a - 1) ⟨0, 0, th0⟩).thing = x)) :
    Calls Try.prog 22 #[.pointer (some ⟨g, 0, none⟩), .agg #[.int .u32 a, .int .u32 b]] w fun e w' => e = .returned (.tuple #[x.val, .int .i64 0]) ∧ Below w.heap.size w w' := by
  have hb0 := ((Below.refl w.heap.size w).alloc (Nat.le_refl _) (.cells #[.int .u32 a, .int .u32 b] 33)).alloc (by simp) (xbox th0)
  have HB0 := Lib.hid hb0
  have CC := Lib.hid (at_yes g vs vo t a b _ (h.out.below hb0) hs.out hl.out)
  have HN : Hid (((w.alloc (.cells #[.int .u32 a, .int .u32 b] 33)).alloc (xbox th0)).heap[w.heap.size + 1]? = some (xbox th0)) := by
    have h0 := heap_alloc_new (w.alloc (.cells #[.int .u32 a, .int .u32 b] 33)) (xbox th0)
    rw [alloc_size] at h0
    exact h0
  clear hb0
  go_enter Try.func22, Try.ntmps22
  go_wp2_with fail
  refine CC.out.mono ?_
  rintro e w1 ⟨⟨b1, cp, rfl, rfl⟩, hb1⟩
  have HBW := Lib.hid (HB0.out.trans (hb1.mono HB0.out.size))
  have HN1 := Lib.hid ((hb1.block (w.heap.size + 1) (by simp)).trans HN.out)
  have hja : a - 1 < t.sl.length := (lives_lt hl.out).1
  obtain ⟨d0, d1, d2, d3⟩ := slot_cells (h.out.below HBW.out).sl (a - 1) hja rfl
  rw [hx.out] at d2 d3
  obtain ⟨n0, n1, n2, n3⟩ := hd_cells HN1.out
  clear d0 d1 hb1
  go_wp2
  refine bodyPost_ret (pr_results rfl _ _ (w.heap.size + 1) #[.string x.a, .slice x.p x.n x.c] rfl (heap_setCell_same _ (w.heap.size + 1) 1 #[.string x.a, .slice none 0 0] _ _ (heap_setCell_same _ (w.heap.size + 1) 0 #[.string .empty, .slice none 0 0] _ _ HN1.out)) rfl) rfl ?_
  exact ⟨rfl, (HBW.out.setCell (p := ⟨w.heap.size + 1, 0, none⟩) (Nat.le_succ _) _).setCell (p := ⟨w.heap.size + 1, 1, none⟩) (Nat.le_succ _) _⟩
end Go.Proofs.Ytijlnlcjlkanaaa.Vtg
