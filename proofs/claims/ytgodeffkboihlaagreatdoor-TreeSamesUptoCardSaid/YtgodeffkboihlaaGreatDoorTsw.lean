/- The walk of TreeSames. -/
import Derived.Test.YtgodeffkboihlaaGreatDoorTav
import Derived.Test.YtgodeffkboihlaaGreatDoorTal
import Derived.Test.YtgodeffkboihlaaGreatDoorTsq
import Derived.Test.YtgodeffkboihlaaGreatDoorTsb
set_option linter.unusedVariables false
namespace Go.Proofs.YtgodeffkboihlaaGreatDoor.Tsw
open Go.RowKit Tra Trb Trd Trf Trg Tcn Trh Tst Tsp Tsq Tsa Tsb Tba Tbb Tal

/-- A node's box in a world. -/
def Bx (w : World) (k : Nat) (d : Nd) (a : Option Addr) (n c : Nat) : Prop := w.heap[k]? = some (.cells (d.row a n c).toArray ndT (0, 0))
theorem Bx.kept {w w' : World} {B k : Nat} {d : Nd} {a : Option Addr} {n c : Nat} (h : Bx w k d a n c) (hb : Below B w w') (hk : k < B) : Bx w' k d a n c := (hb.block k hk).trans h
theorem Bx.lt {w : World} {k : Nat} {d : Nd} {a : Option Addr} {n c : Nat} (h : Bx w k d a n c) : k < w.heap.size := (Array.getElem?_eq_some_iff.1 h).1
theorem Bx.new (w : World) (d : Nd) (a : Option Addr) (n c : Nat) : Bx (w.alloc (.cells (d.row a n c).toArray ndT)) w.heap.size d a n c := heap_alloc_new _ _
theorem Bx.cells {w : World} {k : Nat} {d : Nd} {a : Option Addr} {n c : Nat} (h : Bx w k d a n c) : w.cell? ⟨k, 0, none⟩ = some (.int .i64 d.k) ∧ w.cell? ⟨k, 1, none⟩ = some (.string d.text) ∧ w.cell? ⟨k, 2, none⟩ = some (.int .i64 d.n) ∧ w.cell? ⟨k, 3, none⟩ = some (.string d.ty) ∧ w.cell? ⟨k, 4, none⟩ = some (.int .i64 d.slot) ∧ w.cell? ⟨k, 5, none⟩ = some (.int .i64 d.at_) ∧ w.cell? ⟨k, 6, none⟩ = some (.int .i64 d.line) ∧ w.cell? ⟨k, 7, none⟩ = some (.slice a n c) := by
  have h1 := (row_cells8 h).1
  exact ⟨h1 0 (by omega), h1 1 (by omega), h1 2 (by omega), h1 3 (by omega), h1 4 (by omega), h1 5 (by omega), h1 6 (by omega), h1 7 (by omega)⟩
set_option maxHeartbeats 4000000 in
set_option maxRecDepth 100000 in
theorem great_any (t : Tr) (v : Value) (S : Nat → Prop) (w : World) (hv : Lies w S t v) (hF : Fit t) :
    Calls Tryz.prog 8 #[v] w fun e w' => e = .returned (.bool (decide (65536 < size t))) ∧ Below w.heap.size w w' := by
  obtain ⟨a, c, rfl⟩ := hv.shape
  have HB := Lib.hid (box_below w t.d a t.kids.length c)
  have HC := Lib.hid (rcount_any t 65536 _ S _ (hv.kept (box_below w t.d a t.kids.length c)) hF (by omega) (by omega))
  have hg : Hid (decide (65536 < size t) = decide (65536 < min (size t) (65536 + 1))) := by
    show _ = _
    rw [decide_eq_decide]; omega
  obtain ⟨n, hn⟩ : ∃ n, min (size t) (65536 + 1) = n := ⟨_, rfl⟩
  rw [hn] at HC
  have HN := Lib.hid hn
  have hnb : n ≤ 65537 := by omega
  clear hv hF hn
  have hd : (65536 < n ∧ decide ((65536 : Int) < (n : Int)) = true ∧ decide (65536 < n) = true) ∨ (¬ 65536 < n ∧ decide ((65536 : Int) < (n : Int)) = false ∧ decide (65536 < n) = false) := by
    by_cases h : 65536 < n
    · exact .inl ⟨h, by simp; omega, by simpa using h⟩
    · exact .inr ⟨h, by simp; omega, by simpa using h⟩
  rcases hd with ⟨_, e1, e2⟩ | ⟨_, e1, e2⟩
  all_goals
    have hg2 := hg.out
    rw [HN.out, e2] at hg2
    have HG := Lib.hid hg2
    clear hg2 hg e2
    go_enter Tryz.func8, Tryz.ntmps8
    go_wp2_with fail
    refine HC.out.mono ?_
    rintro e w1 ⟨rfl, hb1⟩
    have HB1 := Lib.hid (HB.out.trans (hb1.mono HB.out.size))
    clear hb1
    go_wp2
    go_ret
    exact ⟨by rw [HG.out]; rfl, HB1.out⟩
theorem fit_bare : ∀ t : Tr, Fit t → Fit (bare t) := by
  refine tree_ind fun d ks ih h => ?_
  cases h with
  | mk _ _ hd hl hk =>
  rw [bare_mk]
  refine .mk _ _ ?_ (by simpa using hl) fun j hj => ?_
  · refine ⟨hd.k, hd.n, ?_, ?_, ?_, hd.text, ?_⟩
    · show In64 0; unfold In64; omega
    · show In64 0; unfold In64; omega
    · show In64 0; unfold In64; omega
    · show (if marks d.k then ByteArray.empty else d.ty).size ≤ 1048576
      split
      · show ByteArray.size ByteArray.empty ≤ _; decide
      · exact hd.ty
  · have hj' : j < ks.length := by simpa using hj
    have e : (ks.map bare).getD j tr0 = bare (ks.getD j tr0) := by simp [List.getD_eq_getElem?_getD, hj']
    rw [e]; exact ih j hj' (hk j hj')
theorem enters_alike : Enters Tryz.prog 14 := enters_of Tryz.func14 (by kernel_rfl) rfl
set_option maxHeartbeats 8000000 in
set_option maxRecDepth 100000 in
theorem walk (v0 : Value) (t0 : Tr) (v1 : Value) (t1 : Tr) (W : World) (fit0 : Fit t0) (lie0 : Lies W (fun _ => True) t0 v0) (fit1 : Fit t1) (lie1 : Lies W (fun _ => True) t1 v1) :
    Calls Tryz.prog 5 #[v0, v1] W fun e w' => e = .returned (.bool true) ∧ Below W.heap.size W w' := by
  obtain ⟨ad0, c0, rfl⟩ := lie0.shape
  obtain ⟨ad1, c1, rfl⟩ := lie1.shape
  have hB := below_boxes W t0.d t1.d ad0 ad1 t0.kids.length t1.kids.length c0 c1
  have hA : Bx ((box W t0.d ad0 t0.kids.length c0).alloc (.cells (t1.d.row ad1 t1.kids.length c1).toArray ndT)) W.heap.size t0.d ad0 t0.kids.length c0 := (heap_alloc_old _ _ (by simp)).trans (heap_alloc_new _ _)
  have hC : Bx ((box W t0.d ad0 t0.kids.length c0).alloc (.cells (t1.d.row ad1 t1.kids.length c1).toArray ndT)) (W.heap.size + 1) t1.d ad1 t1.kids.length c1 := by
    have := heap_alloc_new (box W t0.d ad0 t0.kids.length c0) (.cells (t1.d.row ad1 t1.kids.length c1).toArray ndT)
    rw [show (box W t0.d ad0 t0.kids.length c0).heap.size = W.heap.size + 1 by simp] at this
    exact this
  have HF0 := Lib.hid fit0
  have HF1 := Lib.hid fit1
  have HL0 := Lib.hid lie0
  have HL1 := Lib.hid lie1
  have HB0 := Lib.hid hB
  have HA0 := Lib.hid hA
  have HC0 := Lib.hid hC
  clear fit0 fit1 lie0 lie1 hB hA hC
  obtain ⟨g0, hg0⟩ : ∃ b, decide (65536 < size t0) = b := ⟨_, rfl⟩
  obtain ⟨g1, hg1⟩ : ∃ b, decide (65536 < size t1) = b := ⟨_, rfl⟩
  have HG0 := fun W h => great_any t0 (t0.d.val ad0 t0.kids.length c0) (fun _ => True) W h HF0.out
  have HG1 := fun W h => great_any t1 (t1.d.val ad1 t1.kids.length c1) (fun _ => True) W h HF1.out
  rw [hg0] at HG0
  rw [hg1] at HG1
  have HGG0 := Lib.hid HG0
  have HGG1 := Lib.hid HG1
  clear HG0 HG1 hg0 hg1
  have HT := Lib.hid (fun W => Tav.alive_any W)
  cases g0
  rotate_left
  · cases g1
    all_goals
      go_enter Tryz.func5, Tryz.ntmps5
      go_wp2_with fail
      refine (HT.out _).mono ?_
      rintro e w1 ⟨rfl, hb⟩
      have HA1 := Lib.hid (HA0.out.kept hb HA0.out.lt)
      have HC1 := Lib.hid (HC0.out.kept hb HC0.out.lt)
      have HB1 := Lib.hid (HB0.out.trans (hb.mono HB0.out.size))
      clear hb
      obtain ⟨a0, a1, a2, a3, a4, a5, a6, a7⟩ := HA1.out.cells
      go_wp2_with fail
      refine (HGG0.out _ (HL0.out.kept HB1.out)).mono ?_
      rintro e w2 ⟨rfl, hb⟩
      clear a0 a1 a2 a3 a4 a5 a6 a7
      have HA2 := Lib.hid (HA1.out.kept hb HA1.out.lt)
      have HC2 := Lib.hid (HC1.out.kept hb HC1.out.lt)
      have HB2 := Lib.hid (HB1.out.trans (hb.mono HB1.out.size))
      clear hb
      obtain ⟨b0, b1, b2, b3, b4, b5, b6, b7⟩ := HC2.out.cells
      go_wp2_with fail
      refine (HGG1.out _ (HL1.out.kept HB2.out)).mono ?_
      rintro e w3 ⟨rfl, hb⟩
      clear b0 b1 b2 b3 b4 b5 b6 b7
      have HA3 := Lib.hid (HA2.out.kept hb HA2.out.lt)
      have HC3 := Lib.hid (HC2.out.kept hb HC2.out.lt)
      have HB3 := Lib.hid (HB2.out.trans (hb.mono HB2.out.size))
      clear hb
      go_wp2
      go_ret
      exact ⟨rfl, HB3.out⟩
  cases g1
  rotate_left
  ·
    go_enter Tryz.func5, Tryz.ntmps5
    go_wp2_with fail
    refine (HT.out _).mono ?_
    rintro e w1 ⟨rfl, hb⟩
    have HA1 := Lib.hid (HA0.out.kept hb HA0.out.lt)
    have HC1 := Lib.hid (HC0.out.kept hb HC0.out.lt)
    have HB1 := Lib.hid (HB0.out.trans (hb.mono HB0.out.size))
    clear hb
    obtain ⟨a0, a1, a2, a3, a4, a5, a6, a7⟩ := HA1.out.cells
    go_wp2_with fail
    refine (HGG0.out _ (HL0.out.kept HB1.out)).mono ?_
    rintro e w2 ⟨rfl, hb⟩
    clear a0 a1 a2 a3 a4 a5 a6 a7
    have HA2 := Lib.hid (HA1.out.kept hb HA1.out.lt)
    have HC2 := Lib.hid (HC1.out.kept hb HC1.out.lt)
    have HB2 := Lib.hid (HB1.out.trans (hb.mono HB1.out.size))
    clear hb
    obtain ⟨b0, b1, b2, b3, b4, b5, b6, b7⟩ := HC2.out.cells
    go_wp2_with fail
    refine (HGG1.out _ (HL1.out.kept HB2.out)).mono ?_
    rintro e w3 ⟨rfl, hb⟩
    clear b0 b1 b2 b3 b4 b5 b6 b7
    have HA3 := Lib.hid (HA2.out.kept hb HA2.out.lt)
    have HC3 := Lib.hid (HC2.out.kept hb HC2.out.lt)
    have HB3 := Lib.hid (HB2.out.trans (hb.mono HB2.out.size))
    clear hb
    go_wp2
    go_ret
    exact ⟨rfl, HB3.out⟩
  obtain ⟨sm, hsm⟩ : ∃ b, same t0 t1 = b := ⟨_, rfl⟩
  have HSM := Lib.hid hsm
  clear hsm
  go_enter Tryz.func5, Tryz.ntmps5
  go_wp2_with fail
  refine (HT.out _).mono ?_
  rintro e w1 ⟨rfl, hb⟩
  have HA1 := Lib.hid (HA0.out.kept hb HA0.out.lt)
  have HC1 := Lib.hid (HC0.out.kept hb HC0.out.lt)
  have HB1 := Lib.hid (HB0.out.trans (hb.mono HB0.out.size))
  clear hb
  obtain ⟨a0, a1, a2, a3, a4, a5, a6, a7⟩ := HA1.out.cells
  go_wp2_with fail
  refine (HGG0.out _ (HL0.out.kept HB1.out)).mono ?_
  rintro e w2 ⟨rfl, hb⟩
  clear a0 a1 a2 a3 a4 a5 a6 a7
  have HA2 := Lib.hid (HA1.out.kept hb HA1.out.lt)
  have HC2 := Lib.hid (HC1.out.kept hb HC1.out.lt)
  have HB2 := Lib.hid (HB1.out.trans (hb.mono HB1.out.size))
  clear hb
  obtain ⟨b0, b1, b2, b3, b4, b5, b6, b7⟩ := HC2.out.cells
  go_wp2_with fail
  refine (HGG1.out _ (HL1.out.kept HB2.out)).mono ?_
  rintro e w3 ⟨rfl, hb⟩
  clear b0 b1 b2 b3 b4 b5 b6 b7
  have HA3 := Lib.hid (HA2.out.kept hb HA2.out.lt)
  have HC3 := Lib.hid (HC2.out.kept hb HC2.out.lt)
  have HB3 := Lib.hid (HB2.out.trans (hb.mono HB2.out.size))
  clear hb
  obtain ⟨a0, a1, a2, a3, a4, a5, a6, a7⟩ := HA3.out.cells
  go_wp2_with fail
  refine (copied_any t0 _ _ _ (HL0.out.kept HB3.out) HF0.out).mono ?_
  rintro e w4 ⟨u, rfl, hb, hs⟩
  obtain ⟨ax, cx, rfl⟩ := hs.lies.shape
  clear a0 a1 a2 a3 a4 a5 a6 a7
  have hx2 := Bx.new w4 t0.d ax t0.kids.length cx
  have HX4 := Lib.hid hx2
  have HSX4 := Lib.hid (hs.kept ((Below.refl w4.heap.size w4).alloc (Nat.le_refl _) (.cells (t0.d.row ax t0.kids.length cx).toArray ndT)))
  clear hx2 hs
  have HA4r := Lib.hid (HA3.out.kept hb HA3.out.lt)
  have HC4r := Lib.hid (HC3.out.kept hb HC3.out.lt)
  have HB4r := Lib.hid (HB3.out.trans (hb.mono HB3.out.size))
  clear hb
  have hb := (Below.refl w4.heap.size w4).alloc (Nat.le_refl _) (.cells (t0.d.row ax t0.kids.length cx).toArray ndT)
  have HA4 := Lib.hid (HA4r.out.kept hb HA4r.out.lt)
  have HC4 := Lib.hid (HC4r.out.kept hb HC4r.out.lt)
  have HB4 := Lib.hid (HB4r.out.trans (hb.mono HB4r.out.size))
  clear hb
  obtain ⟨b0, b1, b2, b3, b4, b5, b6, b7⟩ := HC4.out.cells
  go_wp2_with fail
  refine (copied_any t1 _ _ _ (HL1.out.kept HB4.out) HF1.out).mono ?_
  rintro e w5 ⟨u, rfl, hb, hs⟩
  obtain ⟨ay, cy, rfl⟩ := hs.lies.shape
  clear b0 b1 b2 b3 b4 b5 b6 b7
  have hz5 : w4.heap.size + 1 ≤ w5.heap.size := by have := hb.size; simpa using this
  have hx2 := Bx.new w5 t1.d ay t1.kids.length cy
  have HY5 := Lib.hid hx2
  have HSY5 := Lib.hid (hs.kept ((Below.refl w5.heap.size w5).alloc (Nat.le_refl _) (.cells (t1.d.row ay t1.kids.length cy).toArray ndT)))
  have HSX5r := Lib.hid (HSX4.out.kept hb)
  clear hx2 hs
  have HA5r := Lib.hid (HA4.out.kept hb HA4.out.lt)
  have HC5r := Lib.hid (HC4.out.kept hb HC4.out.lt)
  have HX5r := Lib.hid (HX4.out.kept hb HX4.out.lt)
  have HB5r := Lib.hid (HB4.out.trans (hb.mono HB4.out.size))
  clear hb
  have hb := (Below.refl w5.heap.size w5).alloc (Nat.le_refl _) (.cells (t1.d.row ay t1.kids.length cy).toArray ndT)
  have HSX5 := Lib.hid (HSX5r.out.kept hb)
  have HA5 := Lib.hid (HA5r.out.kept hb HA5r.out.lt)
  have HC5 := Lib.hid (HC5r.out.kept hb HC5r.out.lt)
  have HX5 := Lib.hid (HX5r.out.kept hb HX5r.out.lt)
  have HB5 := Lib.hid (HB5r.out.trans (hb.mono HB5r.out.size))
  clear hb
  obtain ⟨x0, x1, x2, x3, x4, x5, x6, x7⟩ := HX5.out.cells
  obtain ⟨y0, y1, y2, y3, y4, y5, y6, y7⟩ := HY5.out.cells
  go_wp2_with fail
  refine (same_any t0 t1 _ _ _ _ _ HSX5.out.lies HSY5.out.lies HF0.out).mono ?_
  rintro e w6 ⟨rfl, hb⟩
  rw [HSM.out]
  clear x0 x1 x2 x3 x4 x5 x6 x7
  clear y0 y1 y2 y3 y4 y5 y6 y7
  have hz6 : w5.heap.size + 1 ≤ w6.heap.size := by have := hb.size; simpa using this
  have HSX6 := Lib.hid (HSX5.out.kept hb)
  have HSY6 := Lib.hid (HSY5.out.kept hb)
  have HA6 := Lib.hid (HA5.out.kept hb HA5.out.lt)
  have HC6 := Lib.hid (HC5.out.kept hb HC5.out.lt)
  have HX6 := Lib.hid (HX5.out.kept hb HX5.out.lt)
  have HY6 := Lib.hid (HY5.out.kept hb HY5.out.lt)
  have HB6 := Lib.hid (HB5.out.trans (hb.mono HB5.out.size))
  clear hb
  obtain ⟨x0, x1, x2, x3, x4, x5, x6, x7⟩ := HX6.out.cells
  go_wp2_with fail
  refine (bare_any t0 _ _ _ HSX6.out.lies HF0.out).mono ?_
  rintro e w7 ⟨u, rfl, hb, hs⟩
  obtain ⟨ab, cb, rfl⟩ := hs.lies.shape
  clear x0 x1 x2 x3 x4 x5 x6 x7
  have hz7 : w6.heap.size ≤ w7.heap.size := hb.size
  have hx2 := Bx.new w7 (bare t0).d ab (bare t0).kids.length cb
  have HE7 := Lib.hid hx2
  have hb2 := (Below.refl w7.heap.size w7).alloc (Nat.le_refl _) (.cells ((bare t0).d.row ab (bare t0).kids.length cb).toArray ndT)
  have HSE7 := Lib.hid (hs.kept hb2)
  have HSX7 := Lib.hid ((HSX6.out.kept hb).kept hb2)
  have HSY7 := Lib.hid ((HSY6.out.kept hb).kept hb2)
  have hb3 := hb.trans (hb2.mono hb.size)
  clear hx2 hs hb hb2
  have HA7 := Lib.hid (HA6.out.kept hb3 HA6.out.lt)
  have HC7 := Lib.hid (HC6.out.kept hb3 HC6.out.lt)
  have HX7 := Lib.hid (HX6.out.kept hb3 HX6.out.lt)
  have HY7 := Lib.hid (HY6.out.kept hb3 HY6.out.lt)
  have HB7 := Lib.hid (HB6.out.trans (hb3.mono HB6.out.size))
  clear hb3
  obtain ⟨a0, a1, a2, a3, a4, a5, a6, a7⟩ := HA7.out.cells
  obtain ⟨x0, x1, x2, x3, x4, x5, x6, x7⟩ := HE7.out.cells
  obtain ⟨wb, hwb⟩ : ∃ wb, wb = w7.alloc (.cells ((bare t0).d.row ab (bare t0).kids.length cb).toArray ndT) := ⟨_, rfl⟩
  have hwz : wb.heap.size = w7.heap.size + 1 := by rw [hwb]; simp
  rw [← hwb] at HE7 HSE7 HSX7 HSY7 HA7 HC7 HX7 HY7 HB7 a0 a1 a2 a3 a4 a5 a6 a7 x0 x1 x2 x3 x4 x5 x6 x7
  have HWB := Lib.hid hwb
  have HWZ := Lib.hid hwz
  clear hwz
  have HAG : ∀ W', Bx W' w7.heap.size (bare t0).d ab (bare t0).kids.length cb → _ := fun W' h => Bx.cells h
  go_wp2_with fail
  rw [← HWB.out]
  clear hwb
  go_region_law ((first
    | (refine Stk.step_call (by rfl) 21 enters_rbare _ _ (by rfl) [t0.d.val ad0 t0.kids.length c0] (by rfl) ?_
       refine (rbare_any t0 _ _ _ ((HL0.out.kept HB7.out).kept (Below.refl _ _).drew) HF0.out).mono ?_
       rintro e w8 ⟨u, rfl, hb, hs⟩
       obtain ⟨ar, cr, rfl⟩ := hs.lies.shape
       have hb3 := ((Below.refl wb.heap.size wb).drew).trans hb
       have HSR8 := Lib.hid hs.lies
       have HE8 := Lib.hid (HE7.out.kept hb3 HE7.out.lt)
       obtain ⟨y0, y1, y2, y3, y4, y5, y6, y7⟩ := HE8.out.cells
       have HB78 := Lib.hid hb3
       clear hb hs hb3
       refine ⟨_, rfl, ?_⟩)
    | (refine Stk.step_call (by rfl) 14 enters_alike _ _ (by rfl) [(bare t0).d.val ab (bare t0).kids.length cb, (bare t0).d.val ar (bare t0).kids.length cr, .bool false] (by rfl) ?_
       refine (alike_any false (bare t0) _ _ _ _ (HSE7.out.kept HB78.out).mlies HSR8.out (fit_bare t0 HF0.out)).mono ?_
       rintro e w9 ⟨rfl, hb⟩
       have HB79 := Lib.hid (HB78.out.trans (hb.mono HB78.out.size))
       clear hb y0 y1 y2 y3 y4 y5 y6 y7
       refine ⟨_, rfl, ?_⟩)
    ))
  all_goals
    clear a0 a1 a2 a3 a4 a5 a6 a7 x0 x1 x2 x3 x4 x5 x6 x7
    have hb := HB79.out
    have HSE9 := Lib.hid (HSE7.out.kept hb)
    have HSX9 := Lib.hid (HSX7.out.kept hb)
    have HSY9 := Lib.hid (HSY7.out.kept hb)
    have HE9 := Lib.hid (HE7.out.kept hb HE7.out.lt)
    have HA9 := Lib.hid (HA7.out.kept hb HA7.out.lt)
    have HC9 := Lib.hid (HC7.out.kept hb HC7.out.lt)
    have HX9 := Lib.hid (HX7.out.kept hb HX7.out.lt)
    have HY9 := Lib.hid (HY7.out.kept hb HY7.out.lt)
    have HB9 := Lib.hid (HB7.out.trans (hb.mono HB7.out.size))
    clear hb
    have hz9 : w7.heap.size < w9.heap.size := HE9.out.lt
    have HZ := Lib.hid (And.intro hz7 (And.intro hz6 (And.intro hz5 hz9)))
    have HSP := Lib.hid (spoil_any (bare t0) w6.heap.size w7.heap.size 0 _ ab cb w9 HSE9.out (by rintro ⟨_, h⟩; omega) (fun b h => h.1) hz7 (by omega) ⟨_, _, HE9.out⟩ (by have := HE9.out.cells.2.2.2.2.2.2.2; exact this) (fit_bare t0 HF0.out))
    go_wp2_with fail
    refine HSP.out.mono ?_
    rintro e w10 ⟨rfl, hb, _, _⟩
    have hz69 : w6.heap.size ≤ w9.heap.size := by omega
    have HSX10 := Lib.hid (HSX9.out.on (w' := w10) fun b _ h => hb.block b (by have h2 : b < w4.heap.size := h.2; omega))
    have HSY10 := Lib.hid (HSY9.out.on (w' := w10) fun b _ h => hb.block b (by have h2 : b < w5.heap.size := h.2; omega))
    have HA10 := Lib.hid (HA9.out.kept hb (by have := HA6.out.lt; omega))
    have HC10 := Lib.hid (HC9.out.kept hb (by have := HC6.out.lt; omega))
    have HX10 := Lib.hid (HX9.out.kept hb (by have := HX6.out.lt; omega))
    have HY10 := Lib.hid (HY9.out.kept hb (by have := HY6.out.lt; omega))
    have HB10 := Lib.hid (HB9.out.trans (hb.mono HB6.out.size))
    clear hb hz69 HSP
    obtain ⟨x0, x1, x2, x3, x4, x5, x6, x7⟩ := HX10.out.cells
    obtain ⟨a0, a1, a2, a3, a4, a5, a6, a7⟩ := HA10.out.cells
    go_wp2_with fail
    refine (alike_any true t0 _ _ _ _ HSX10.out.mlies (HL0.out.kept HB10.out) HF0.out).mono ?_
    rintro e w11 ⟨rfl, hb⟩
    clear x0 x1 x2 x3 x4 x5 x6 x7
    clear a0 a1 a2 a3 a4 a5 a6 a7
    have HSY11 := Lib.hid (HSY10.out.kept hb)
    have HA11 := Lib.hid (HA10.out.kept hb HA10.out.lt)
    have HC11 := Lib.hid (HC10.out.kept hb HC10.out.lt)
    have HY11 := Lib.hid (HY10.out.kept hb HY10.out.lt)
    have HB11 := Lib.hid (HB10.out.trans (hb.mono HB10.out.size))
    clear hb
    obtain ⟨y0, y1, y2, y3, y4, y5, y6, y7⟩ := HY11.out.cells
    obtain ⟨b0, b1, b2, b3, b4, b5, b6, b7⟩ := HC11.out.cells
    go_wp2_with fail
    refine (alike_any true t1 _ _ _ _ HSY11.out.mlies (HL1.out.kept HB11.out) HF1.out).mono ?_
    rintro e w12 ⟨rfl, hb⟩
    clear y0 y1 y2 y3 y4 y5 y6 y7
    clear b0 b1 b2 b3 b4 b5 b6 b7
    have HA12 := Lib.hid (HA11.out.kept hb HA11.out.lt)
    have HC12 := Lib.hid (HC11.out.kept hb HC11.out.lt)
    have HB12 := Lib.hid (HB11.out.trans (hb.mono HB11.out.size))
    clear hb
    obtain ⟨a0, a1, a2, a3, a4, a5, a6, a7⟩ := HA12.out.cells
    obtain ⟨b0, b1, b2, b3, b4, b5, b6, b7⟩ := HC12.out.cells
    go_wp2_with fail
    refine (rsame_any t0 t1 _ _ _ _ _ (HL0.out.kept HB12.out) (HL1.out.kept HB12.out) HF0.out).mono ?_
    rintro e w13 ⟨rfl, hb⟩
    rw [HSM.out]
    clear a0 a1 a2 a3 a4 a5 a6 a7
    clear b0 b1 b2 b3 b4 b5 b6 b7
    have HB13 := Lib.hid (HB12.out.trans (hb.mono HB12.out.size))
    clear hb
    cases sm
    all_goals
      go_wp2
      go_ret
      exact ⟨rfl, HB13.out⟩
end Go.Proofs.YtgodeffkboihlaaGreatDoor.Tsw
