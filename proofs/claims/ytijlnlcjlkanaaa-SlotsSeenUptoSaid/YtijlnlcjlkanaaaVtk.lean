/- (*slots.Table[int]).Free. -/
import Derived.Test.YtijlnlcjlkanaaaVtj
import Derived.Test.YtijlnlcjlkanaaaStk
set_option linter.unusedVariables false
namespace Go.Proofs.Ytijlnlcjlkanaaa.Vtk
open Sta (Hd hdE Step below_drewN below_drewN_up blk_cells)
open Stk (Held held_below index_held)
open Go.RowKit Rwo Vta Vtb Vtc Vtd Vtg Vte Rwp Sti Vtj

theorem free_end {g b1 cp1 b2 cp2 i j a b : Nat} {t : Tab} {s : Sl} {w w1 W2 W3 w3 : World} (h1 : TabAt g (.slice (some ⟨b1, 0, none⟩) t.sl.length cp1) (.slice (some ⟨b2, 0, none⟩) t.ord.length cp2) t w)
    (hb1 : Below w.heap.size w w1) (hS : Step g (.slice (some ⟨b1, 0, none⟩) t.sl.length cp1) (.slice (some ⟨b2, 0, none⟩) t.ord.length cp2) (.slice (some ⟨b1, 0, none⟩) t.sl.length cp1) (.slice (some ⟨b2, 0, none⟩) t.ord.length cp2) w1 W2)
    (hT : TabAt g (.slice (some ⟨b1, 0, none⟩) t.sl.length cp1) (.slice (some ⟨b2, 0, none⟩) t.ord.length cp2) (halfOut t j) W2)
    (hb3 : Below W2.heap.size W2 W3) (hO : Own hdE 33 (g + 1) (.slice (some ⟨b2, 0, none⟩) (t.ord.length - 1) cp2) (t.ord.eraseIdx i) w3) (hb4 : Only b2 W3 w3) :
    TabAt g (.slice (some ⟨b1, 0, none⟩) t.sl.length cp1) (.slice (some ⟨b2, 0, none⟩) (t.ord.length - 1) cp2) (out t j i) (w3.setCell ⟨g, 4, none⟩ (.slice (some ⟨b2, 0, none⟩) (t.ord.length - 1) cp2)) ∧
    Step g (.slice (some ⟨b1, 0, none⟩) t.sl.length cp1) (.slice (some ⟨b2, 0, none⟩) t.ord.length cp2) (.slice (some ⟨b1, 0, none⟩) t.sl.length cp1) (.slice (some ⟨b2, 0, none⟩) (t.ord.length - 1) cp2) w (w3.setCell ⟨g, 4, none⟩ (.slice (some ⟨b2, 0, none⟩) (t.ord.length - 1) cp2)) := by
  have hT3 := hT.below hb3
  obtain ⟨h2, h3⟩ := out_stored hT3 hO hb4
  exact ⟨h2, (((Step.of_below hb1).trans hS).trans (Step.of_below hb3)).trans h3⟩
set_option maxHeartbeats 4000000 in
set_option maxRecDepth 100000 in
theorem free_yes (g : Nat) (vs vo : Value) (t : Tab) (a b i : Nat) (w : World) (h : Hid (TabAt g vs vo t w)) (hs : Hid (Small t)) (hl : Hid (lives t ⟨a, b⟩ = true)) (hc : 1 ≤ t.count) (hi : i < t.ord.length) (h0 : Hid (t.ord.getD i ⟨0, 0⟩ = ⟨a, b⟩)) (hf : Hid (∀ j, j < i → t.ord.getD j ⟨0, 0⟩ ≠ ⟨a, b⟩)) :
    Calls Try.prog 20 #[.pointer (some ⟨g, 0, none⟩), .agg #[.int .u32 a, .int .u32 b]] w fun e w' => e = .returned (.int .i64 0) ∧ ∃ vo', TabAt g vs vo' (out t (a - 1) i) w' ∧ Step g vs vo vs vo' w w' := by
  have hbx := (Below.refl w.heap.size w).alloc (Nat.le_refl _) (.cells #[.int .u32 a, .int .u32 b] 33)
  have HB := Lib.hid hbx
  have h1 := Lib.hid (h.out.below hbx)
  have hlt := h.out.lt
  clear hbx
  have C := at_yes g vs vo t a b _ h1.out hs.out hl.out
  have CC := Lib.hid C
  clear C
  obtain ⟨b2, cp2, cur2, rfl, hbg2, _, hb2, _⟩ := Own.some h.out.ord (by intro e; rw [e, List.length_nil] at hi; omega)
  go_enter Try.func20, Try.ntmps20
  go_wp2_with fail
  refine CC.out.mono ?_
  rintro e w1 ⟨⟨b1, cp1, rfl, rfl⟩, hb1⟩
  have hja := (lives_lt hl.out).1
  have HT1 := Lib.hid (h1.out.below hb1)
  have HR1 : Hid (w1.heap[w.heap.size]? = some (.cells #[.int .u32 a, .int .u32 b] 33 (0, 0))) := (hb1.block w.heap.size (by simp)).trans (heap_alloc_new w _)
  obtain ⟨⟨c0, c1, c2, c3, c4⟩, f0, f1, f2, f3, f4⟩ := HT1.out.cells
  obtain ⟨j, hj⟩ : ∃ j, a - 1 = j := ⟨_, rfl⟩
  rw [hj] at hja ⊢
  obtain ⟨s, hsl⟩ : ∃ s, t.sl.getD j ⟨0, 0, th0⟩ = s := ⟨_, rfl⟩
  obtain ⟨d0, d1, d2, d3⟩ := slot_cells HT1.out.sl j hja hsl
  have k0 := HT1.out.sl.frozen (j * 4)
  have k1 := HT1.out.sl.frozen (j * 4 + 1)
  have k2 := HT1.out.sl.frozen (j * 4 + 2)
  have k3 := HT1.out.sl.frozen (j * 4 + 3)
  have hgb : g ≠ b1 := by have := (h.out.sl.lt (k := b1) rfl).1; omega
  have hgb' : b1 ≠ g := fun e => hgb e.symm
  have hcn := hs.out.count
  have HSL := Lib.hid hsl
  have HB1 := Lib.hid hb1
  clear hsl hb1
  go_wp2_with fail
  obtain ⟨hT2, hS2⟩ := half_out HT1.out hja HSL.out hc
  have HT2 := Lib.hid hT2
  have HS2 := Lib.hid hS2
  have HR2 := Lib.hid ((hS2.far w.heap.size (by have := HB1.out.size; simp at this; omega) (by omega) (fun e => by have := (h.out.sl.lt e).2; omega) (fun e => by have := (h.out.ord.lt e).2; omega)).trans HR1.out)
  have hz2 : Hid (w.heap.size < w1.heap.size ∧ w1.heap.size ≤ _) := ⟨by have := HB1.out.size; simp at this; omega, hS2.size⟩
  clear hT2 hS2
  obtain ⟨W2, hW2⟩ : ∃ W2, W2 = (((((w1.setCell ⟨b1, j * 4, none⟩ (.int .u32 s.gen)).setCell ⟨b1, j * 4 + 1, none⟩ (.int .i64 0)).setCell ⟨b1, j * 4 + 2, none⟩ (.string ⟨#[]⟩)).setCell ⟨b1, j * 4 + 3, none⟩ (.slice none 0 0)).setCell ⟨g, 2, none⟩ (.int .i64 ((t.count : Int) - 1))) := ⟨_, rfl⟩
  rw [← hW2] at HT2 HS2 HR2 hz2
  rw [← hW2]
  clear hW2 c0 c1 c2 c3 c4 f0 f1 f2 f3 f4 d0 d1 d2 d3 k0 k1 k2 k3 CC
  have hg2 : g < W2.heap.size := HT2.out.lt
  have hr2 : w.heap.size < W2.heap.size := by have := hz2.out; omega
  have hordn := hs.out.ord
  have HIX := Lib.hid (index_held g w.heap.size _ t.ord a b i W2 HT2.out.ord hg2 hr2 hordn hi h0.out hf.out)
  obtain ⟨⟨c0, c1, c2, c3, c4⟩, f0, f1, f2, f3, f4⟩ := HT2.out.cells
  obtain ⟨n0, n1, o0, o1⟩ := hd_cells HR2.out
  have HS0 : Held g w.heap.size (.slice (some ⟨b2, 0, none⟩) t.ord.length cp2) a b W2 W2.drew := ⟨(Below.refl _ W2).drew, c4, n0, n1⟩
  clear c0 c1 c2 c3 f0 f1 f2 f3 f4 o0 o1
  go_region_held3 (fun W => Below W2.heap.size W2 W ∧ W.cell? ⟨g, 4, none⟩ = some (.slice (some ⟨b2, 0, none⟩) t.ord.length cp2) ∧ W.cell? ⟨w.heap.size, 0, none⟩ = some (.int .u32 a) ∧ W.cell? ⟨w.heap.size, 1, none⟩ = some (.int .u32 b)) (first | exact HS0 | assumption)
   (first | (go_at_call 33; refine (HIX.out _ (by assumption)).mono ?_; rintro e w1 ⟨rfl, hb1⟩; unfold Held at hb1))
  rename_i w1'
  have HHW := Lib.hid hb1
  clear HIX HS0 n0 n1 c4 hb1
  have c4 := HHW.out.2.1
  have HO1 := HT2.out.ord.below HHW.out.1 (Nat.le_refl _)
  have HD := Lib.hid (delete_any (g + 1) b2 cp2 t.ord i w1 HO1 hordn hi)
  have hg1 : g < w1.heap.size := Nat.lt_of_lt_of_le hg2 HHW.out.1.size
  have HG4 := (HT2.out.below HHW.out.1).blk
  have HGG := Lib.hid HG4
  clear HO1 HG4
  go_wp2_with fail
  refine HD.out.mono ?_
  rintro e w3 ⟨rfl, hO3, hb3⟩
  have hk3 : w3.heap[g]? = _ := (hb3.far g (by omega)).trans HGG.out
  obtain ⟨⟨e0, e1, e2, e3, e4⟩, j0, j1, j2, j3, j4⟩ := blk_cells hk3
  have HFE := Lib.hid (free_end (i := i) (a := a) (b := b) (s := s) h.out ((HB.out).trans (HB1.out.mono (by simp))) HS2.out HT2.out HHW.out.1 hO3 hb3)
  have hlen1 : (t.ord.length : Int) - 1 = ((t.ord.length - 1 : Nat) : Int) := by omega
  clear hk3 hO3 hb3 e0 e1 e2 e3 j0 j1 j2 j3
  go_wp2
  go_ret
  exact ⟨rfl, _, by rw [hj]; exact HFE.out.1, HFE.out.2⟩
set_option maxHeartbeats 2000000 in
set_option maxRecDepth 100000 in
theorem free_no (g : Nat) (vs vo : Value) (t : Tab) (a b : Nat) (w : World) (h : Hid (TabAt g vs vo t w)) (hs : Hid (Small t)) (ha : a < 4294967296) (hl : Hid (lives t ⟨a, b⟩ = false)) :
    Calls Try.prog 20 #[.pointer (some ⟨g, 0, none⟩), .agg #[.int .u32 a, .int .u32 b]] w fun e w' => e = .returned (.int .i64 102) ∧ Below w.heap.size w w' := by
  have C := Lib.hid (fun W (hW : Below w.heap.size w W) => at_no g vs vo t a b W (h.out.below hW) hs.out ha hl.out)
  go_enter Try.func20, Try.ntmps20
  go_wp2_with fail
  refine (C.out _ (by first | exact Below.refl _ _ | exact (Below.refl _ _).alloc (Nat.le_refl _) _)).mono ?_
  rintro e w1 ⟨rfl, hb1⟩
  go_wp2
  go_ret
  exact ⟨rfl, by first | exact hb1 | exact ((Below.refl _ w).alloc (Nat.le_refl _) _).trans (hb1.mono (by simp))⟩
end Go.Proofs.Ytijlnlcjlkanaaa.Vtk
