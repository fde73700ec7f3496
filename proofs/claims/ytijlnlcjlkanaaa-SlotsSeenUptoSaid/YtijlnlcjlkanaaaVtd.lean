/- (*slots.Table[drowselaw10.Pair]).Take. -/
import Derived.Test.YtijlnlcjlkanaaaVtc
import Derived.Deep.DeepCutAuto
set_option linter.unusedVariables false
namespace Go.Proofs.Ytijlnlcjlkanaaa.Vtd
open Sta (Hd hdE Step below_drewN below_drewN_up blk_cells)
open Go.RowKit Rwo Vta Vtb Vtc

abbrev xbox (x : Th) : Obj := .cells #[.string x.a, .slice x.p x.n x.c] 50
set_option maxHeartbeats 8000000 in
set_option maxRecDepth 100000 in
theorem take_in (g : Nat) (vs vo : Value) (t t1 : Tab) (i : Nat) (x : Th) (w0 : World) (h0 : Hid (TabAt g vs vo t w0)) (hs : Hid (Small t1)) (hi : i < t1.sl.length) (G : Nat) (hG : Hid ((t1.sl.getD i ⟨0, 0, th0⟩).gen = G))
    (HE : Hid (∀ W, TabAt g vs vo t W → Calls Try.prog 35 #[.pointer (some ⟨g, 0, none⟩)] W fun e w' => e = .returned (.int .i64 i) ∧ ∃ vs', TabAt g vs' vo t1 w' ∧ Step g vs vo vs' vo W w')) :
    Calls Try.prog 18 #[.pointer (some ⟨g, 0, none⟩), x.val] w0 fun e w' => e = .returned (.tuple #[.agg #[.int .u32 (i + 1 : Nat), .int .u32 (G + 1 : Nat)], .int .i64 0]) ∧ ∃ vs' vo', TabAt g vs' vo' (laidIn t1 i x) w' ∧ Step g vs vo vs' vo' w0 w' := by
  have hbx := (Below.refl w0.heap.size w0).alloc (Nat.le_refl _) (xbox x)
  have hlt0 := h0.out.lt
  have HX0 : Hid ((w0.alloc (xbox x)).heap[w0.heap.size]? = some (xbox x)) := heap_alloc_new w0 _
  have hzx : (w0.alloc (xbox x)).heap.size = w0.heap.size + 1 := by simp
  obtain ⟨w, hw⟩ : ∃ w, w = w0.alloc (xbox x) := ⟨_, rfl⟩
  have h : Hid (TabAt g vs vo t w) := by rw [hw]; exact Lib.hid (h0.out.below hbx)
  have HSX : Hid (Step g vs vo vs vo w0 w) := by rw [hw]; exact Lib.hid (Step.of_below hbx)
  rw [← hw] at HX0 hzx
  have HZX := Lib.hid hzx
  have HW := Lib.hid hw
  clear hbx hzx hw
  have hb0 := (Below.refl w.heap.size w).alloc (Nat.le_refl _) (.cells #[.int .u32 0, .int .u32 0] 33)
  have h1 := Lib.hid (h.out.below hb0)
  have hlt := h.out.lt
  go_enter Try.func18, Try.ntmps18
  go_upto_region 3 with fail
  rw [← HW.out, ← HZX.out]
  obtain ⟨xb, hxb⟩ : ∃ xb, xb = w0.heap.size := ⟨_, rfl⟩
  rw [← hxb] at HX0
  rw [← hxb]
  have hxlt : xb < w.heap.size := by have := HZX.out; omega
  have hxg : xb ≠ g := by omega
  have HXN : Hid (vs.ownBlock ≠ some xb ∧ vo.ownBlock ≠ some xb) := ⟨fun e => by have := (h0.out.sl.lt e).2; omega, fun e => by have := (h0.out.ord.lt e).2; omega⟩
  clear hxb
  go_wp2_with fail
  refine (HE.out _ h1.out).mono ?_
  rintro e w1 ⟨rfl, vs1, hT1, hS1⟩
  have hrw : w1.heap[w.heap.size]? = some (.cells #[.int .u32 0, .int .u32 0] 33 (0, 0)) :=
    (hS1.far w.heap.size (by simp) (by omega) (fun e => absurd (h.out.sl.lt e).2 (by omega)) (fun e => absurd (h.out.ord.lt e).2 (by omega))).trans (heap_alloc_new w _)
  have hrx : w1.heap[xb]? = some (xbox x) :=
    (hS1.far xb (by simp; omega) hxg HXN.out.1 HXN.out.2).trans ((heap_alloc_old w _ hxlt).trans HX0.out)
  have hrv : ∀ b, vs1.ownBlock = some b → b ≠ w.heap.size ∧ b ≠ xb := fun b hb => by
    rcases hS1.nvs b hb with hx | hx
    · have := (h.out.sl.lt hx).2; exact ⟨by omega, fun e => HXN.out.1 (e ▸ hx)⟩
    · simp at hx; omega
  have hrs : w.heap.size < w1.heap.size := by have := hS1.size; simp at this; omega
  obtain ⟨⟨c0, c1, c2, c3, c4⟩, f0, f1, f2, f3, f4⟩ := hT1.cells
  obtain ⟨b1, cp1, cur, rfl, hbg, _, hb2, _⟩ := Own.some hT1.sl (by intro e; rw [e, List.length_nil] at hi; omega)
  obtain ⟨hrb, hxb1⟩ := hrv b1 rfl
  obtain ⟨s, hsl⟩ : ∃ s, t1.sl.getD i ⟨0, 0, th0⟩ = s := ⟨_, rfl⟩
  obtain ⟨d0, d1, d2, d3⟩ := slot_cells hT1.sl i hi hsl
  have k0 := hT1.sl.frozen (i * 4)
  have k1 := hT1.sl.frozen (i * 4 + 1)
  have k2 := hT1.sl.frozen (i * 4 + 2)
  have k3 := hT1.sl.frozen (i * 4 + 3)
  have hsm : s.gen ≤ 1000000 ∧ s.ser ≤ 1000000 := hs.out.gen s (by
    rw [← hsl, List.getD_eq_getElem?_getD, List.getElem?_eq_getElem (by omega)]; exact List.getElem_mem _)
  obtain ⟨g1, g2⟩ := hsm
  have hbn := hs.out.born
  have hcn := hs.out.count
  have hlen := hs.out.len
  have hmost := hs.out.most
  have hord := hs.out.ord
  have hgb : g ≠ b1 := by omega
  have hgb' : b1 ≠ g := by omega
  have hgx : g ≠ xb := fun e => hxg e.symm
  have hxb2 : xb ≠ b1 := fun e => hxb1 e.symm
  obtain ⟨x0, x1, _, _⟩ := hd_cells hrx
  have HT1 := Lib.hid hT1
  have HSL := Lib.hid hsl
  have HS1 := Lib.hid hS1
  have HRV := Lib.hid hrv
  have HRW0 := Lib.hid hrw
  have u1 : IntKind.u32.wrap ((s.gen : Int) + 1) = (s.gen : Int) + 1 := by rw [IntKind.wrap_u32]; omega
  have HRS := Lib.hid (And.intro hrs hrb)
  clear hT1 hsl hS1 hrw hrv hrs hrb hb0 hrx
  go_wp2_with fail
  go_region
  obtain ⟨hT2, hS2⟩ := half_stored (x := x) HT1.out hi HSL.out hgb
  have HRW := Lib.hid (hS2.far w.heap.size HRS.out.1 (by omega) (fun e => (HRV.out _ e).1 rfl) (fun e => absurd (h.out.ord.lt e).2 (by omega)))
  have HT2 := Lib.hid hT2
  have HS2 := Lib.hid (HS1.out.trans hS2)
  clear hT2 hS2
  obtain ⟨W2, hW2⟩ : ∃ W2, W2 = ((((((w1.setCell ⟨g, 3, none⟩ (.int .i64 ((t1.born : Int) + 1))).setCell ⟨g, 2, none⟩ (.int .i64 ((t1.count : Int) + 1))).setCell ⟨b1, i * 4, none⟩ (.int .u32 ((s.gen : Int) + 1))).setCell ⟨b1, i * 4 + 1, none⟩ (.int .i64 ((t1.born : Int) + 1))).setCell ⟨b1, i * 4 + 2, none⟩ x.av).setCell ⟨b1, i * 4 + 3, none⟩ x.bv).drew := ⟨_, rfl⟩
  rw [← hW2] at HT2 HS2 HRW
  rw [← hW2]
  clear hW2 c0 c1 c2 c3 c4 f0 f1 f2 f3 f4 d0 d1 d2 d3 k0 k1 k2 k3 u1 x0 x1
  have HR2 : Hid (W2.heap[w.heap.size]? = some (.cells #[.int .u32 0, .int .u32 0] 33 (0, 0))) := HRW.out.trans HRW0.out
  obtain ⟨⟨c0, c1, c2, c3, c4⟩, f0, f1, f2, f3, f4⟩ := HT2.out.cells
  have hli : i < (halfIn t1 i x).sl.length := by show i < (t1.sl.set i _).length; rw [List.length_set]; exact hi
  obtain ⟨d0, d1, d2, d3⟩ := slot_cells HT2.out.sl i hli (s := ⟨s.gen + 1, t1.born + 1, x⟩) (by
    show (t1.sl.set i _).getD i _ = _
    rw [List.getD_eq_getElem?_getD, List.getElem?_set_self hi, HSL.out]; rfl)
  have hz2 : w.heap.size < W2.heap.size := by have := HS2.out.size; rw [show (w.alloc (.cells #[.int .u32 0, .int .u32 0] 33)).heap.size = w.heap.size + 1 from by simp] at this; omega
  have hg2 := HT2.out.lt
  have u2 : IntKind.u32.wrap ((i : Int) + 1) = (i : Int) + 1 := by rw [IntKind.wrap_u32]; omega
  have HG2 := Lib.hid (And.intro hg2 hz2)
  have HRO : Hid (vo.ownBlock = some w.heap.size → w.heap.size < w.heap.size) := fun e => (h.out.ord.lt e).2
  have hgr : g ≠ w.heap.size := by omega
  have hrg : w.heap.size ≠ g := by omega
  have hgh : g ≠ W2.heap.size := by omega
  have hhg : W2.heap.size ≠ g := by omega
  have hrh : w.heap.size ≠ W2.heap.size := by omega
  have hhr : W2.heap.size ≠ w.heap.size := by omega
  go_wp2_with fail
  go_region_law ((refine Rwo.step_append (E := hdE) (by rfl) _ _ _ (by rfl) 33 _ 8 Try.underlying29 infoHd (by rfl) (g + 1) _ (halfIn t1 i x).ord (W2.alloc (.cells #[.int .u32 ((i : Int) + 1), .int .u32 ((s.gen : Int) + 1)] 33)) (Own.alloc HT2.out.ord _) (by rfl) ⟨i + 1, s.gen + 1⟩ _ (by rfl) _ (W2.heap.size + 1) (by rfl) (by rfl) (by show (t1.ord.length + 1) * (8 + 1) ≤ _; omega) ⟨by first | (simp; omega) | omega, by simp⟩ ?_; intro g3 cp3 w3 hO3 hb3 hfar hsz3 hat; have hF := take_facts HT2.out HR2.out HG2.out.2 hfar hO3 hat hb3 (fun e => absurd (HRO.out e) (by omega)) ⟨rfl, rfl, rfl, by first | (simp; done) | (simp; omega) | (show W2.heap.size < (World.alloc (World.alloc W2 _) _).heap.size; simp; omega)⟩; obtain ⟨⟨e0, e1, e2, e3, e4⟩, j0, j1, j2, j3, j4⟩ := blk_cells hF.blk; obtain ⟨m0, m1, n0, n1⟩ := hd_cells hF.hblk; obtain ⟨o0, o1, q0, q1⟩ := hd_cells hF.rblk; have HF := Lib.hid hF; clear hF hO3 hb3 hfar hsz3 hat))
  all_goals
    have HFIN := Lib.hid (take_end HF.out h.out HS2.out)
    go_wp2
    refine bodyPost_ret (hd_results rfl _ _ w.heap.size #[.int .u32 ((i : Int) + 1), .int .u32 ((s.gen : Int) + 1)] rfl HFIN.out.1 rfl) rfl ?_
    exact ⟨by have e : s.gen = G := by { have := hG.out; rw [HSL.out] at this; exact this }
              rw [e]; rfl, _, _, by rw [laid_is HSL.out]; exact HFIN.out.2.1, HSX.out.trans HFIN.out.2.2⟩
end Go.Proofs.Ytijlnlcjlkanaaa.Vtd
