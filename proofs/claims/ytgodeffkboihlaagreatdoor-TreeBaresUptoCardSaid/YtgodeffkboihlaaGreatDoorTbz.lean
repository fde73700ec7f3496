/- The walk of TreeBares. Printed by mkbares.py. -/
import Derived.Test.YtgodeffkboihlaaGreatDoorM3
import Derived.Test.YtgodeffkboihlaaGreatDoorTav
import Derived.Test.YtgodeffkboihlaaGreatDoorDrw
import Derived.Test.YtgodeffkboihlaaGreatDoorTqb
set_option linter.unusedVariables false
namespace Go.Proofs.YtgodeffkboihlaaGreatDoor.Tbz
open Go.RowKit Go.Sort Tra Trb Trd Trf Trg Tcn Trh Tst Tsa Tsb Tba Tpt Twb Twn Tbr Tbx

/-- A node's box in a world. -/
def Bx (w : World) (k : Nat) (d : Nd) (a : Option Addr) (n c : Nat) : Prop := w.heap[k]? = some (.cells (d.row a n c).toArray ndT (0, 0))
theorem Bx.kept {w w' : World} {B k : Nat} {d : Nd} {a : Option Addr} {n c : Nat} (h : Bx w k d a n c) (hb : Below B w w') (hk : k < B) : Bx w' k d a n c := (hb.block k hk).trans h
theorem Bx.lt {w : World} {k : Nat} {d : Nd} {a : Option Addr} {n c : Nat} (h : Bx w k d a n c) : k < w.heap.size := (Array.getElem?_eq_some_iff.1 h).1
theorem Bx.new (w : World) (d : Nd) (a : Option Addr) (n c : Nat) : Bx (w.alloc (.cells (d.row a n c).toArray ndT)) w.heap.size d a n c := heap_alloc_new _ _
theorem Bx.cells {w : World} {k : Nat} {d : Nd} {a : Option Addr} {n c : Nat} (h : Bx w k d a n c) : w.cell? ⟨k, 0, none⟩ = some (.int .i64 d.k) ∧ w.cell? ⟨k, 1, none⟩ = some (.string d.text) ∧ w.cell? ⟨k, 2, none⟩ = some (.int .i64 d.n) ∧ w.cell? ⟨k, 3, none⟩ = some (.string d.ty) ∧ w.cell? ⟨k, 4, none⟩ = some (.int .i64 d.slot) ∧ w.cell? ⟨k, 5, none⟩ = some (.int .i64 d.at_) ∧ w.cell? ⟨k, 6, none⟩ = some (.int .i64 d.line) ∧ w.cell? ⟨k, 7, none⟩ = some (.slice a n c) := by
  have h1 := (row_cells8 h).1
  exact ⟨h1 0 (by omega), h1 1 (by omega), h1 2 (by omega), h1 3 (by omega), h1 4 (by omega), h1 5 (by omega), h1 6 (by omega), h1 7 (by omega)⟩
set_option maxHeartbeats 4000000 in
set_option maxRecDepth 100000 in
theorem great_any (t : Tr) (v : Value) (S : Nat → Prop) (w : World) (hv : Lies w S t v) (hF : Fit t) :
    Calls Tryz.prog 8 #[v] w fun e w' => e = .returned (.bool (decide (65536 < size t))) ∧ Below w.heap.size w w' := by
  obtain ⟨a, c, rfl⟩ := hv.shape
  have HB := Lib.hid (box_below w t.d a t.kids.length c)
  have HC := Lib.hid (rcount_any t 65536 _ S _ (hv.kept (box_below w t.d a t.kids.length c)) hF (by omega) (by omega))
  have hg : Hid (decide (65536 < size t) = decide (65536 < min (size t) (65536 + 1))) := by
    show _ = _
    rw [decide_eq_decide]; omega
  obtain ⟨n, hn⟩ : ∃ n, min (size t) (65536 + 1) = n := ⟨_, rfl⟩
  rw [hn] at HC
  have HN := Lib.hid hn
  have hnb : n ≤ 65537 := by omega
  clear hv hF hn
  have hd : (65536 < n ∧ decide ((65536 : Int) < (n : Int)) = true ∧ decide (65536 < n) = true) ∨ (¬ 65536 < n ∧ decide ((65536 : Int) < (n : Int)) = false ∧ decide (65536 < n) = false) := by
    by_cases h : 65536 < n
    · exact .inl ⟨h, by simp; omega, by simpa using h⟩
    · exact .inr ⟨h, by simp; omega, by simpa using h⟩
  rcases hd with ⟨_, e1, e2⟩ | ⟨_, e1, e2⟩
  all_goals
    have hg2 := hg.out
    rw [HN.out, e2] at hg2
    have HG := Lib.hid hg2
    clear hg2 hg e2
    go_enter Tryz.func8, Tryz.ntmps8
    go_wp2_with fail
    refine HC.out.mono ?_
    rintro e w1 ⟨rfl, hb1⟩
    have HB1 := Lib.hid (HB.out.trans (hb1.mono HB.out.size))
    clear hb1
    go_wp2
    go_ret
    exact ⟨by rw [HG.out]; rfl, HB1.out⟩
theorem fit_bare : ∀ t : Tr, Fit t → Fit (bare t) := by
  refine tree_ind fun d ks ih h => ?_
  cases h with
  | mk _ _ hd hl hk =>
  rw [bare_mk]
  refine .mk _ _ ?_ (by simpa using hl) fun j hj => ?_
  · refine ⟨hd.k, hd.n, ?_, ?_, ?_, hd.text, ?_⟩
    · show In64 0; unfold In64; omega
    · show In64 0; unfold In64; omega
    · show In64 0; unfold In64; omega
    · show (if marks d.k then ByteArray.empty else d.ty).size ≤ 1048576
      split
      · show ByteArray.size ByteArray.empty ≤ _; decide
      · exact hd.ty
  · have hj' : j < ks.length := by simpa using hj
    have e : (ks.map bare).getD j tr0 = bare (ks.getD j tr0) := by simp [List.getD_eq_getElem?_getD, hj']
    rw [e]; exact ih j hj' (hk j hj')
set_option maxHeartbeats 8000000 in
set_option maxRecDepth 100000 in
theorem walk (v0 : Value) (t0 : Tr) (v1 : Value) (t1 : Tr) (most : Int) (W : World) (fit0 : Fit t0) (lie0 : Lies W (fun _ => True) t0 v0) (fit1 : Fit t1) (lie1 : Lies W (fun _ => True) t1 v1) (hm0 : -9223372036854775808 ≤ most) (hm : most ≤ 9223372036854775807) (hE : Twq.Pow W) :
    Calls Tryz.prog 6 #[v0, v1, .int .i64 most] W fun e w' => e = .returned (.bool true) ∧ Below W.heap.size W w' := by
  obtain ⟨ad0, c0, rfl⟩ := lie0.shape
  obtain ⟨ad1, c1, rfl⟩ := lie1.shape
  have hB := below_boxes W t0.d t1.d ad0 ad1 t0.kids.length t1.kids.length c0 c1
  have hA : Bx ((box W t0.d ad0 t0.kids.length c0).alloc (.cells (t1.d.row ad1 t1.kids.length c1).toArray ndT)) W.heap.size t0.d ad0 t0.kids.length c0 := (heap_alloc_old _ _ (by simp)).trans (heap_alloc_new _ _)
  have hC : Bx ((box W t0.d ad0 t0.kids.length c0).alloc (.cells (t1.d.row ad1 t1.kids.length c1).toArray ndT)) (W.heap.size + 1) t1.d ad1 t1.kids.length c1 := by
    have := heap_alloc_new (box W t0.d ad0 t0.kids.length c0) (.cells (t1.d.row ad1 t1.kids.length c1).toArray ndT)
    rw [show (box W t0.d ad0 t0.kids.length c0).heap.size = W.heap.size + 1 by simp] at this
    exact this
  have HF0 := Lib.hid fit0
  have HF1 := Lib.hid fit1
  have HLA := Lib.hid (lie0.kept hB)
  have HLC := Lib.hid (lie1.kept hB)
  have HP := Lib.hid (hE.below hB)
  have HB := Lib.hid hB
  have HA := Lib.hid hA
  have HC := Lib.hid hC
  clear fit0 fit1 lie0 lie1 hB hA hC hE
  by_cases hbig : size t0 ≤ 65536 ∧ size t1 ≤ 65536
  rotate_left
  · obtain ⟨g0, hg0⟩ : ∃ b, decide (65536 < size t0) = b := ⟨_, rfl⟩
    obtain ⟨g1, hg1⟩ : ∃ b, decide (65536 < size t1) = b := ⟨_, rfl⟩
    have hgg : (g0 || g1) = true := by rw [← hg0, ← hg1]; simp; omega
    have HG0 := fun W h => great_any t0 (t0.d.val ad0 t0.kids.length c0) (fun _ => True) W h HF0.out
    have HG1 := fun W h => great_any t1 (t1.d.val ad1 t1.kids.length c1) (fun _ => True) W h HF1.out
    rw [hg0] at HG0
    rw [hg1] at HG1
    have HGG0 := Lib.hid HG0
    have HGG1 := Lib.hid HG1
    have HGG := Lib.hid hgg
    clear HG0 HG1 hg0 hg1 hgg hbig
    have HT := Lib.hid (fun W => Tav.alive_any W)
    cases g0
    · cases g1
      · exact absurd HGG.out (by decide)
      · go_enter Tryz.func6, Tryz.ntmps6
        go_wp2_with fail
        refine (HT.out _).mono ?_
        rintro e w1 ⟨rfl, hb⟩
        have HA := Lib.hid (HA.out.kept hb HA.out.lt)
        have HC := Lib.hid (HC.out.kept hb HC.out.lt)
        have HLA := Lib.hid (HLA.out.kept hb)
        have HLC := Lib.hid (HLC.out.kept hb)
        have HP := Lib.hid (HP.out.below hb)
        have HB := Lib.hid (HB.out.trans (hb.mono HB.out.size))
        clear hb
        obtain ⟨a0, a1, a2, a3, a4, a5, a6, a7⟩ := HA.out.cells
        go_wp2_with fail
        refine (HGG0.out _ HLA.out).mono ?_
        rintro e w2 ⟨rfl, hb⟩
        clear a0 a1 a2 a3 a4 a5 a6 a7
        have HA := Lib.hid (HA.out.kept hb HA.out.lt)
        have HC := Lib.hid (HC.out.kept hb HC.out.lt)
        have HLA := Lib.hid (HLA.out.kept hb)
        have HLC := Lib.hid (HLC.out.kept hb)
        have HP := Lib.hid (HP.out.below hb)
        have HB := Lib.hid (HB.out.trans (hb.mono HB.out.size))
        clear hb
        obtain ⟨c0, c1, c2, c3, c4, c5, c6, c7⟩ := HC.out.cells
        go_wp2_with fail
        refine (HGG1.out _ HLC.out).mono ?_
        rintro e w3 ⟨rfl, hb⟩
        clear c0 c1 c2 c3 c4 c5 c6 c7
        have HA := Lib.hid (HA.out.kept hb HA.out.lt)
        have HC := Lib.hid (HC.out.kept hb HC.out.lt)
        have HLA := Lib.hid (HLA.out.kept hb)
        have HLC := Lib.hid (HLC.out.kept hb)
        have HP := Lib.hid (HP.out.below hb)
        have HB := Lib.hid (HB.out.trans (hb.mono HB.out.size))
        clear hb
        go_wp2
        go_ret
        exact ⟨rfl, HB.out⟩
    · cases g1
      all_goals
        go_enter Tryz.func6, Tryz.ntmps6
        go_wp2_with fail
        refine (HT.out _).mono ?_
        rintro e w1 ⟨rfl, hb⟩
        have HA := Lib.hid (HA.out.kept hb HA.out.lt)
        have HC := Lib.hid (HC.out.kept hb HC.out.lt)
        have HLA := Lib.hid (HLA.out.kept hb)
        have HLC := Lib.hid (HLC.out.kept hb)
        have HP := Lib.hid (HP.out.below hb)
        have HB := Lib.hid (HB.out.trans (hb.mono HB.out.size))
        clear hb
        obtain ⟨a0, a1, a2, a3, a4, a5, a6, a7⟩ := HA.out.cells
        go_wp2_with fail
        refine (HGG0.out _ HLA.out).mono ?_
        rintro e w2 ⟨rfl, hb⟩
        clear a0 a1 a2 a3 a4 a5 a6 a7
        have HA := Lib.hid (HA.out.kept hb HA.out.lt)
        have HC := Lib.hid (HC.out.kept hb HC.out.lt)
        have HLA := Lib.hid (HLA.out.kept hb)
        have HLC := Lib.hid (HLC.out.kept hb)
        have HP := Lib.hid (HP.out.below hb)
        have HB := Lib.hid (HB.out.trans (hb.mono HB.out.size))
        clear hb
        obtain ⟨c0, c1, c2, c3, c4, c5, c6, c7⟩ := HC.out.cells
        go_wp2_with fail
        refine (HGG1.out _ HLC.out).mono ?_
        rintro e w3 ⟨rfl, hb⟩
        clear c0 c1 c2 c3 c4 c5 c6 c7
        have HA := Lib.hid (HA.out.kept hb HA.out.lt)
        have HC := Lib.hid (HC.out.kept hb HC.out.lt)
        have HLA := Lib.hid (HLA.out.kept hb)
        have HLC := Lib.hid (HLC.out.kept hb)
        have HP := Lib.hid (HP.out.below hb)
        have HB := Lib.hid (HB.out.trans (hb.mono HB.out.size))
        clear hb
        go_wp2
        go_ret
        exact ⟨rfl, HB.out⟩
  have HG0 := fun W h => great_any t0 (t0.d.val ad0 t0.kids.length c0) (fun _ => True) W h HF0.out
  have HG1 := fun W h => great_any t1 (t1.d.val ad1 t1.kids.length c1) (fun _ => True) W h HF1.out
  rw [show decide (65536 < size t0) = false by simp; omega] at HG0
  rw [show decide (65536 < size t1) = false by simp; omega] at HG1
  have HGG0 := Lib.hid HG0
  have HGG1 := Lib.hid HG1
  have HZ := Lib.hid hbig
  clear HG0 HG1 hbig
  have HT := Lib.hid (fun W => Tav.alive_any W)
  have HFX := Lib.hid (fit_bare t0 HF0.out)
  have HFY := Lib.hid (fit_bare t1 HF1.out)
  obtain ⟨sm, hsm⟩ : ∃ b, same t0 t1 = b := ⟨_, rfl⟩
  obtain ⟨r, hr⟩ : ∃ b, rightT t0 = b := ⟨_, rfl⟩
  obtain ⟨st, hst⟩ : ∃ b, textS t0 = b := ⟨_, rfl⟩
  obtain ⟨cn, hcn⟩ : ∃ b, cntV most t0 = b := ⟨_, rfl⟩
  obtain ⟨dn, hdn⟩ : ∃ b, depV most t0 = b := ⟨_, rfl⟩
  have HS1 := Lib.hid hsm
  have HR1 := Lib.hid hr
  have HT1 := Lib.hid hst
  have HC1 := Lib.hid hcn
  have HD1 := Lib.hid hdn
  clear hsm hr hst hcn hdn
  go_enter Tryz.func6, Tryz.ntmps6
  go_wp2_with fail
  refine (HT.out _).mono ?_
  rintro e w1 ⟨rfl, hb⟩
  have HA := Lib.hid (HA.out.kept hb HA.out.lt)
  have HC := Lib.hid (HC.out.kept hb HC.out.lt)
  have HLA := Lib.hid (HLA.out.kept hb)
  have HLC := Lib.hid (HLC.out.kept hb)
  have HP := Lib.hid (HP.out.below hb)
  have HB := Lib.hid (HB.out.trans (hb.mono HB.out.size))
  clear hb
  obtain ⟨a0, a1, a2, a3, a4, a5, a6, a7⟩ := HA.out.cells
  go_wp2_with fail
  refine (HGG0.out _ HLA.out).mono ?_
  rintro e w2 ⟨rfl, hb⟩
  clear a0 a1 a2 a3 a4 a5 a6 a7
  have HA := Lib.hid (HA.out.kept hb HA.out.lt)
  have HC := Lib.hid (HC.out.kept hb HC.out.lt)
  have HLA := Lib.hid (HLA.out.kept hb)
  have HLC := Lib.hid (HLC.out.kept hb)
  have HP := Lib.hid (HP.out.below hb)
  have HB := Lib.hid (HB.out.trans (hb.mono HB.out.size))
  clear hb
  obtain ⟨c0, c1, c2, c3, c4, c5, c6, c7⟩ := HC.out.cells
  go_wp2_with fail
  refine (HGG1.out _ HLC.out).mono ?_
  rintro e w3 ⟨rfl, hb⟩
  clear c0 c1 c2 c3 c4 c5 c6 c7
  have HA := Lib.hid (HA.out.kept hb HA.out.lt)
  have HC := Lib.hid (HC.out.kept hb HC.out.lt)
  have HLA := Lib.hid (HLA.out.kept hb)
  have HLC := Lib.hid (HLC.out.kept hb)
  have HP := Lib.hid (HP.out.below hb)
  have HB := Lib.hid (HB.out.trans (hb.mono HB.out.size))
  clear hb
  obtain ⟨a0, a1, a2, a3, a4, a5, a6, a7⟩ := HA.out.cells
  go_wp2_with fail
  refine (bare_any t0 _ _ _ HLA.out HF0.out).mono ?_
  rintro e w4 ⟨u, rfl, hb, hs⟩
  have hl := hs.lies.mono (S' := fun _ => True) (fun _ _ _ => trivial)
  clear hs
  obtain ⟨ax, cax, rfl⟩ := hl.shape
  clear a0 a1 a2 a3 a4 a5 a6 a7
  have HA := Lib.hid (HA.out.kept hb HA.out.lt)
  have HC := Lib.hid (HC.out.kept hb HC.out.lt)
  have HLA := Lib.hid (HLA.out.kept hb)
  have HLC := Lib.hid (HLC.out.kept hb)
  have HP := Lib.hid (HP.out.below hb)
  have HB := Lib.hid (HB.out.trans (hb.mono HB.out.size))
  clear hb
  have HLX := Lib.hid hl
  clear hl
  have hb := (Below.refl w4.heap.size w4).alloc (Nat.le_refl _) (.cells ((bare t0).d.row ax (bare t0).kids.length cax).toArray ndT)
  have HA := Lib.hid (HA.out.kept hb HA.out.lt)
  have HC := Lib.hid (HC.out.kept hb HC.out.lt)
  have HLA := Lib.hid (HLA.out.kept hb)
  have HLC := Lib.hid (HLC.out.kept hb)
  have HLX := Lib.hid (HLX.out.kept hb)
  have HP := Lib.hid (HP.out.below hb)
  have HB := Lib.hid (HB.out.trans (hb.mono HB.out.size))
  clear hb
  have HX := Lib.hid (Bx.new w4 (bare t0).d ax (bare t0).kids.length cax)
  obtain ⟨c0, c1, c2, c3, c4, c5, c6, c7⟩ := HC.out.cells
  go_wp2_with fail
  refine (bare_any t1 _ _ _ HLC.out HF1.out).mono ?_
  rintro e w5 ⟨u, rfl, hb, hs⟩
  have hl := hs.lies.mono (S' := fun _ => True) (fun _ _ _ => trivial)
  clear hs
  obtain ⟨ay, cay, rfl⟩ := hl.shape
  clear c0 c1 c2 c3 c4 c5 c6 c7
  have HA := Lib.hid (HA.out.kept hb HA.out.lt)
  have HC := Lib.hid (HC.out.kept hb HC.out.lt)
  have HX := Lib.hid (HX.out.kept hb HX.out.lt)
  have HLA := Lib.hid (HLA.out.kept hb)
  have HLC := Lib.hid (HLC.out.kept hb)
  have HLX := Lib.hid (HLX.out.kept hb)
  have HP := Lib.hid (HP.out.below hb)
  have HB := Lib.hid (HB.out.trans (hb.mono HB.out.size))
  clear hb
  have HLY := Lib.hid hl
  clear hl
  have hb := (Below.refl w5.heap.size w5).alloc (Nat.le_refl _) (.cells ((bare t1).d.row ay (bare t1).kids.length cay).toArray ndT)
  have HA := Lib.hid (HA.out.kept hb HA.out.lt)
  have HC := Lib.hid (HC.out.kept hb HC.out.lt)
  have HX := Lib.hid (HX.out.kept hb HX.out.lt)
  have HLA := Lib.hid (HLA.out.kept hb)
  have HLC := Lib.hid (HLC.out.kept hb)
  have HLX := Lib.hid (HLX.out.kept hb)
  have HLY := Lib.hid (HLY.out.kept hb)
  have HP := Lib.hid (HP.out.below hb)
  have HB := Lib.hid (HB.out.trans (hb.mono HB.out.size))
  clear hb
  have HY := Lib.hid (Bx.new w5 (bare t1).d ay (bare t1).kids.length cay)
  obtain ⟨a0, a1, a2, a3, a4, a5, a6, a7⟩ := HA.out.cells
  obtain ⟨c0, c1, c2, c3, c4, c5, c6, c7⟩ := HC.out.cells
  go_wp2_with fail
  have hcs := (same_any t0 t1 _ _ _ _ _ HLA.out HLC.out HF0.out)
  rw [HS1.out] at hcs
  refine hcs.mono ?_
  clear hcs
  rintro e w6 ⟨rfl, hb⟩
  clear a0 a1 a2 a3 a4 a5 a6 a7 c0 c1 c2 c3 c4 c5 c6 c7
  have HA := Lib.hid (HA.out.kept hb HA.out.lt)
  have HC := Lib.hid (HC.out.kept hb HC.out.lt)
  have HX := Lib.hid (HX.out.kept hb HX.out.lt)
  have HY := Lib.hid (HY.out.kept hb HY.out.lt)
  have HLA := Lib.hid (HLA.out.kept hb)
  have HLC := Lib.hid (HLC.out.kept hb)
  have HLX := Lib.hid (HLX.out.kept hb)
  have HLY := Lib.hid (HLY.out.kept hb)
  have HP := Lib.hid (HP.out.below hb)
  have HB := Lib.hid (HB.out.trans (hb.mono HB.out.size))
  clear hb
  obtain ⟨x0, x1, x2, x3, x4, x5, x6, x7⟩ := HX.out.cells
  obtain ⟨y0, y1, y2, y3, y4, y5, y6, y7⟩ := HY.out.cells
  go_wp2_with fail
  have hcs := (same_any (bare t0) (bare t1) _ _ _ _ _ HLX.out HLY.out HFX.out)
  rw [same_both, HS1.out] at hcs
  refine hcs.mono ?_
  clear hcs
  rintro e w7 ⟨rfl, hb⟩
  clear x0 x1 x2 x3 x4 x5 x6 x7 y0 y1 y2 y3 y4 y5 y6 y7
  have HA := Lib.hid (HA.out.kept hb HA.out.lt)
  have HC := Lib.hid (HC.out.kept hb HC.out.lt)
  have HX := Lib.hid (HX.out.kept hb HX.out.lt)
  have HY := Lib.hid (HY.out.kept hb HY.out.lt)
  have HLA := Lib.hid (HLA.out.kept hb)
  have HLC := Lib.hid (HLC.out.kept hb)
  have HLX := Lib.hid (HLX.out.kept hb)
  have HLY := Lib.hid (HLY.out.kept hb)
  have HP := Lib.hid (HP.out.below hb)
  have HB := Lib.hid (HB.out.trans (hb.mono HB.out.size))
  clear hb
  obtain ⟨c0, c1, c2, c3, c4, c5, c6, c7⟩ := HC.out.cells
  obtain ⟨a0, a1, a2, a3, a4, a5, a6, a7⟩ := HA.out.cells
  go_wp2_with fail
  have hcs := (same_any t1 t0 _ _ _ _ _ HLC.out HLA.out HF1.out)
  rw [same_comm, HS1.out] at hcs
  refine hcs.mono ?_
  clear hcs
  rintro e w8 ⟨rfl, hb⟩
  clear c0 c1 c2 c3 c4 c5 c6 c7 a0 a1 a2 a3 a4 a5 a6 a7
  have HA := Lib.hid (HA.out.kept hb HA.out.lt)
  have HC := Lib.hid (HC.out.kept hb HC.out.lt)
  have HX := Lib.hid (HX.out.kept hb HX.out.lt)
  have HY := Lib.hid (HY.out.kept hb HY.out.lt)
  have HLA := Lib.hid (HLA.out.kept hb)
  have HLC := Lib.hid (HLC.out.kept hb)
  have HLX := Lib.hid (HLX.out.kept hb)
  have HLY := Lib.hid (HLY.out.kept hb)
  have HP := Lib.hid (HP.out.below hb)
  have HB := Lib.hid (HB.out.trans (hb.mono HB.out.size))
  clear hb
  obtain ⟨a0, a1, a2, a3, a4, a5, a6, a7⟩ := HA.out.cells
  go_wp2_with fail
  have hcs := (same_any t0 t0 _ _ _ _ _ HLA.out HLA.out HF0.out)
  rw [same_refl] at hcs
  refine hcs.mono ?_
  clear hcs
  rintro e w9 ⟨rfl, hb⟩
  clear a0 a1 a2 a3 a4 a5 a6 a7
  have HA := Lib.hid (HA.out.kept hb HA.out.lt)
  have HC := Lib.hid (HC.out.kept hb HC.out.lt)
  have HX := Lib.hid (HX.out.kept hb HX.out.lt)
  have HY := Lib.hid (HY.out.kept hb HY.out.lt)
  have HLA := Lib.hid (HLA.out.kept hb)
  have HLC := Lib.hid (HLC.out.kept hb)
  have HLX := Lib.hid (HLX.out.kept hb)
  have HLY := Lib.hid (HLY.out.kept hb)
  have HP := Lib.hid (HP.out.below hb)
  have HB := Lib.hid (HB.out.trans (hb.mono HB.out.size))
  clear hb
  obtain ⟨a0, a1, a2, a3, a4, a5, a6, a7⟩ := HA.out.cells
  obtain ⟨x0, x1, x2, x3, x4, x5, x6, x7⟩ := HX.out.cells
  go_wp2_with fail
  have hcs := (same_any t0 (bare t0) _ _ _ _ _ HLA.out HLX.out HF0.out)
  rw [same_bare] at hcs
  refine hcs.mono ?_
  clear hcs
  rintro e w10 ⟨rfl, hb⟩
  clear a0 a1 a2 a3 a4 a5 a6 a7 x0 x1 x2 x3 x4 x5 x6 x7
  have HA := Lib.hid (HA.out.kept hb HA.out.lt)
  have HC := Lib.hid (HC.out.kept hb HC.out.lt)
  have HX := Lib.hid (HX.out.kept hb HX.out.lt)
  have HY := Lib.hid (HY.out.kept hb HY.out.lt)
  have HLA := Lib.hid (HLA.out.kept hb)
  have HLC := Lib.hid (HLC.out.kept hb)
  have HLX := Lib.hid (HLX.out.kept hb)
  have HLY := Lib.hid (HLY.out.kept hb)
  have HP := Lib.hid (HP.out.below hb)
  have HB := Lib.hid (HB.out.trans (hb.mono HB.out.size))
  clear hb
  obtain ⟨x0, x1, x2, x3, x4, x5, x6, x7⟩ := HX.out.cells
  obtain ⟨a0, a1, a2, a3, a4, a5, a6, a7⟩ := HA.out.cells
  go_wp2_with fail
  have hcs := (same_any (bare t0) t0 _ _ _ _ _ HLX.out HLA.out HFX.out)
  rw [same_comm, same_bare] at hcs
  refine hcs.mono ?_
  clear hcs
  rintro e w11 ⟨rfl, hb⟩
  clear x0 x1 x2 x3 x4 x5 x6 x7 a0 a1 a2 a3 a4 a5 a6 a7
  have HA := Lib.hid (HA.out.kept hb HA.out.lt)
  have HC := Lib.hid (HC.out.kept hb HC.out.lt)
  have HX := Lib.hid (HX.out.kept hb HX.out.lt)
  have HY := Lib.hid (HY.out.kept hb HY.out.lt)
  have HLA := Lib.hid (HLA.out.kept hb)
  have HLC := Lib.hid (HLC.out.kept hb)
  have HLX := Lib.hid (HLX.out.kept hb)
  have HLY := Lib.hid (HLY.out.kept hb)
  have HP := Lib.hid (HP.out.below hb)
  have HB := Lib.hid (HB.out.trans (hb.mono HB.out.size))
  clear hb
  obtain ⟨a0, a1, a2, a3, a4, a5, a6, a7⟩ := HA.out.cells
  go_wp2_with fail
  have hct := text_any t0 HF0.out HZ.out.1 _ _ _ HP.out HLA.out
  rw [HT1.out, HR1.out] at hct
  refine hct.mono ?_
  clear hct
  rintro e w12 ⟨rfl, hb⟩
  clear a0 a1 a2 a3 a4 a5 a6 a7
  have HA := Lib.hid (HA.out.kept hb HA.out.lt)
  have HC := Lib.hid (HC.out.kept hb HC.out.lt)
  have HX := Lib.hid (HX.out.kept hb HX.out.lt)
  have HY := Lib.hid (HY.out.kept hb HY.out.lt)
  have HLA := Lib.hid (HLA.out.kept hb)
  have HLC := Lib.hid (HLC.out.kept hb)
  have HLX := Lib.hid (HLX.out.kept hb)
  have HLY := Lib.hid (HLY.out.kept hb)
  have HP := Lib.hid (HP.out.below hb)
  have HB := Lib.hid (HB.out.trans (hb.mono HB.out.size))
  clear hb
  obtain ⟨x0, x1, x2, x3, x4, x5, x6, x7⟩ := HX.out.cells
  go_wp2_with fail
  have hct := text_any (bare t0) HFX.out (by rw [Tba.size_bare]; exact HZ.out.1) _ _ _ HP.out HLX.out
  rw [textS_bare, right_bare, HT1.out, HR1.out] at hct
  refine hct.mono ?_
  clear hct
  rintro e w13 ⟨rfl, hb⟩
  clear x0 x1 x2 x3 x4 x5 x6 x7
  have HA := Lib.hid (HA.out.kept hb HA.out.lt)
  have HC := Lib.hid (HC.out.kept hb HC.out.lt)
  have HX := Lib.hid (HX.out.kept hb HX.out.lt)
  have HY := Lib.hid (HY.out.kept hb HY.out.lt)
  have HLA := Lib.hid (HLA.out.kept hb)
  have HLC := Lib.hid (HLC.out.kept hb)
  have HLX := Lib.hid (HLX.out.kept hb)
  have HLY := Lib.hid (HLY.out.kept hb)
  have HP := Lib.hid (HP.out.below hb)
  have HB := Lib.hid (HB.out.trans (hb.mono HB.out.size))
  clear hb
  have HRA := Tqb.reg (w := w13) (f := 10) (args := #[t0.d.val ad0 t0.kids.length c0]) (v := .int .i64 r) fun W hb => by
    have := Tqh.right_tree t0 HF0.out _ _ W (HLA.out.kept hb)
    rw [HR1.out] at this; exact this
  have HRX := Tqb.reg (w := w13) (f := 10) (args := #[(bare t0).d.val ax (bare t0).kids.length cax]) (v := .int .i64 r) fun W hb => by
    have := Tqh.right_tree (bare t0) HFX.out _ _ W (HLX.out.kept hb)
    rw [right_bare, HR1.out] at this; exact this
  have HCA := Tqb.reg (w := w13) (f := 12) (args := #[t0.d.val ad0 t0.kids.length c0, .int .i64 most]) (v := .int .i64 cn) fun W hb => by
    have := count_int most hm t0 HF0.out (by have := HZ.out.1; omega) _ _ W (HLA.out.kept hb)
    rw [HC1.out] at this; exact this
  have HCX := Tqb.reg (w := w13) (f := 12) (args := #[(bare t0).d.val ax (bare t0).kids.length cax, .int .i64 most]) (v := .int .i64 cn) fun W hb => by
    have := count_int most hm (bare t0) HFX.out (by rw [Tba.size_bare]; have := HZ.out.1; omega) _ _ W (HLX.out.kept hb)
    rw [cntV_bare, HC1.out] at this; exact this
  have HDA := Tqb.reg (w := w13) (f := 13) (args := #[t0.d.val ad0 t0.kids.length c0, .int .i64 most]) (v := .int .i64 dn) fun W hb => by
    have := depth_int most hm t0 HF0.out (by have := HZ.out.1; omega) _ _ W (HLA.out.kept hb)
    rw [HD1.out] at this; exact this
  have HDX := Tqb.reg (w := w13) (f := 13) (args := #[(bare t0).d.val ax (bare t0).kids.length cax, .int .i64 most]) (v := .int .i64 dn) fun W hb => by
    have := depth_int most hm (bare t0) HFX.out (by rw [Tba.size_bare]; have := HZ.out.1; omega) _ _ W (HLX.out.kept hb)
    rw [depV_bare, HD1.out] at this; exact this
  obtain ⟨a0, a1, a2, a3, a4, a5, a6, a7⟩ := HA.out.cells
  obtain ⟨x0, x1, x2, x3, x4, x5, x6, x7⟩ := HX.out.cells
  have ga0 := cell_regrown a0
  have gx0 := cell_regrown x0
  have ga1 := cell_regrown a1
  have gx1 := cell_regrown x1
  have ga2 := cell_regrown a2
  have gx2 := cell_regrown x2
  have ga3 := cell_regrown a3
  have gx3 := cell_regrown x3
  have ga4 := cell_regrown a4
  have gx4 := cell_regrown x4
  have ga5 := cell_regrown a5
  have gx5 := cell_regrown x5
  have ga6 := cell_regrown a6
  have gx6 := cell_regrown x6
  have ga7 := cell_regrown a7
  have gx7 := cell_regrown x7
  cases sm
  all_goals
    go_wp2_with fail
    refine wp_region_quiet_below (by kernel_rfl) (by kernel_rfl) ?_
    repeat (go_big_quiet_step (first | with_reducible exact HRA.out _ _ | with_reducible exact HRX.out _ _ | with_reducible exact HCA.out _ _ | with_reducible exact HCX.out _ _ | with_reducible exact HDA.out _ _ | with_reducible exact HDX.out _ _ | fail))
    refine wpQuiet_nil ?_
    intro wz hwz
    have hbz := Drw.cls_below (w := w13) hwz
    have HBZ := Lib.hid (HB.out.trans (hbz.mono HB.out.size))
    clear hwz hbz
    go_wp2
    go_ret
    exact ⟨rfl, HBZ.out⟩
end Go.Proofs.YtgodeffkboihlaaGreatDoor.Tbz
