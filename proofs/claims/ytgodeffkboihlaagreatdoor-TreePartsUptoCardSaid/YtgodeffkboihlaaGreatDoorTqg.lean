/- tree.loop. Printed by mkloop.py. -/
import Derived.Test.YtgodeffkboihlaaGreatDoorTqc
set_option linter.unusedVariables false
namespace Go.Proofs.YtgodeffkboihlaaGreatDoor.Tqg
open Go.RowKit Go.Sort Tra Trb Trf Trd Tcn Trh Tha Nam Txa Tpr Tyq Txe Txg Txs Txi Txu Txv Txw Tqb Tpt Tqc

theorem none_pays : ∀ t : Tr, Fit t → Pays 104 noneT t := by
  rintro ⟨d, ks⟩ hF S b o w hA
  exact none_any d ks hF S b o w hA
/-- The world with the table of sizes. -/
abbrev szW (w : World) : World := w.alloc (.cells #[.int .i64 1, .int .i64 2, .int .i64 4, .int .i64 3] 98)
theorem sz_cells {w W : World} (h : Below (szW w).heap.size (szW w) W) : W.cell? ⟨w.heap.size, 0, none⟩ = some (.int .i64 1) ∧ W.cell? ⟨w.heap.size, 1, none⟩ = some (.int .i64 2) ∧ W.cell? ⟨w.heap.size, 2, none⟩ = some (.int .i64 4) ∧ W.cell? ⟨w.heap.size, 3, none⟩ = some (.int .i64 3) := by
  have hb : W.heap[w.heap.size]? = some (.cells #[.int .i64 1, .int .i64 2, .int .i64 4, .int .i64 3] 98 (0, 0)) := (h.block _ (by simp)).trans (heap_alloc_new w _)
  refine ⟨?_, ?_, ?_, ?_⟩ <;> (rw [Lib.cell_of_heap hb]; rfl)
set_option maxHeartbeats 8000000 in
set_option maxRecDepth 100000 in
theorem loop_0 (E P : Tr → Bool) (d : Nd) (ks : List Tr) (hn : d.n = 0) (hF : Fit (.mk d ks)) (ih : ∀ j, j < ks.length → Pays 62 E (ks.getD j tr0)) (ihb : ∀ j, j < ks.length → Pays 38 (blockT P) (ks.getD j tr0)) (ihs : ∀ j, j < ks.length → Pays 66 (simpleT E) (ks.getD j tr0)) (S : Nat → Prop) (b o : Nat) (w : World) (hA : At w S (.mk d ks) b o) :
    Calls Tryz.prog 63 #[.pointer (some ⟨b, o, none⟩)] w fun e w' => e = .returned (.bool (loopB E P d ks)) ∧ Below w.heap.size w w' := by
  obtain ⟨a, c, hN⟩ := Nod.start hA
  have hlen := fit_len hF
  have hs1 : Below w.heap.size w (szW w) := (Below.refl _ w).alloc (Nat.le_refl _) _
  have HS1 := Lib.hid hs1
  have hX := hN.kept hs1
  have hs2 := Lib.hid (sz_cells (Below.refl (szW w).heap.size (szW w)))
  by_cases hL : ks.length = 1
  rotate_left
  · have hR : loopB E P d ks = false := by unfold loopB; simp [hn, hL]
    rw [hR]
    obtain ⟨k, tx, nn, ty, s4, s5, s6⟩ := d
    simp only at hn
    subst hn
    obtain ⟨c0, c1, c2, c3, c4, c5, c6, c7⟩ := hX.cells
    obtain ⟨L, hLL⟩ : ∃ L, ks.length = L := ⟨_, rfl⟩
    rw [hLL] at c7 hL hlen
    have f0 : ((L : Int) != 1) = true := by simp; omega
    have f1 : ((L : Int) == 1) = false := beq_false_of_ne (by omega)
    obtain ⟨z0, z1, z2, z3⟩ := hs2.out
    have g2 := cell_regrown c2
    have g7 := cell_regrown c7
    have y0 := cell_regrown z0
    clear hA hF hN ih ihb ihs hLL hL hR hX hs1 z0 z1 z2 z3 hs2
    go_enter Tryz.func63, Tryz.ntmps63
    go_wp2_with fail
    refine wp_region_quiet_below (by kernel_rfl) (by kernel_rfl) ?_
    repeat (go_big_quiet_step (fail))
    refine wpQuiet_nil ?_
    intro w4 hw4
    have hb4 := Drw.cls_below (w := szW w) hw4
    clear hw4
    go_wp2
    go_ret
    exact ⟨rfl, HS1.out.trans (hb4.mono HS1.out.size)⟩
  obtain ⟨kb, ko, rfl⟩ := kl_some hN.kl (by omega)
  obtain ⟨pb, hpb⟩ : ∃ x, blockT P (kn 0 ks) = x := ⟨_, rfl⟩
  obtain ⟨p0, hp0⟩ : ∃ x, hasB false false true d = x := ⟨_, rfl⟩
  have H := reg (w := szW w) (f := 38) (args := #[.pointer (some ⟨kb, ko + 0 * 8, none⟩)]) (v := .bool pb) fun W hb => by
    have := ihb 0 (by omega) _ _ _ W (kl_at (hX.kept hb).kl (by omega))
    rw [show ks.getD 0 tr0 = kn 0 ks from rfl, hpb] at this; exact this
  have hHH := fun W q0 q1 q2 q3 => has_4 d b o W q0 q1 q2 q3
  rw [hp0] at hHH
  have HH := Lib.hid hHH
  have hR : loopB E P d ks = (pb && p0) := by
    unfold loopB
    simp only [hn]
    simp only [hL, hpb, hp0]
    simp
  rw [hR]
  have HL := Lib.hid hL
  have HX := Lib.hid hX
  obtain ⟨k, tx, nn, ty, s4, s5, s6⟩ := d
  simp only at hn
  subst hn
  obtain ⟨c0, c1, c2, c3, c4, c5, c6, c7⟩ := hX.cells
  rw [hL] at c7
  obtain ⟨z0, z1, z2, z3⟩ := hs2.out
  have g2 := cell_regrown c2
  have g7 := cell_regrown c7
  have sz0 := cell_regrown z0
  clear hA hF hN ih ihb ihs hL hR hX hs1 z0 z1 z2 z3 hs2 hpb hp0 hHH  
  cases pb
  · go_enter Tryz.func63, Tryz.ntmps63
    go_wp2_with fail
    refine wp_region_quiet_below (by kernel_rfl) (by kernel_rfl) ?_
    repeat (go_big_quiet_step (first | exact H.out _ _ | fail))
    refine wpQuiet_nil ?_
    intro w4 hw4
    have hb4 := Drw.cls_below (w := szW w) hw4
    clear hw4
    go_wp2
    go_ret
    exact ⟨rfl, HS1.out.trans (hb4.mono HS1.out.size)⟩
  go_enter Tryz.func63, Tryz.ntmps63
  go_wp2_with fail
  refine wp_region_quiet_below (by kernel_rfl) (by kernel_rfl) ?_
  repeat (go_big_quiet_step (first | exact H.out _ _ | fail))
  refine wpQuiet_nil ?_
  intro w4 hw4
  have hb4 := Drw.cls_below (w := szW w) hw4
  clear hw4
  have HX := Lib.hid (HX.out.kept hb4)
  clear hb4
  clear c0 c1 c2 c3 c4 c5 c6 c7 g2 g7 sz0
  obtain ⟨c0, c1, c2, c3, c4, c5, c6, c7⟩ := HX.out.cells
  rw [HL.out] at c7
  go_wp2_with fail
  refine (HH.out _ c0 c1 c2 c3).mono ?_
  rintro e w6 ⟨rfl, rfl⟩
  cases p0
  all_goals
    go_wp2
    go_ret
    exact ⟨rfl, HX.out.below⟩
set_option maxHeartbeats 8000000 in
set_option maxRecDepth 100000 in
theorem loop_1 (E P : Tr → Bool) (d : Nd) (ks : List Tr) (hn : d.n = 1) (hF : Fit (.mk d ks)) (ih : ∀ j, j < ks.length → Pays 62 E (ks.getD j tr0)) (ihb : ∀ j, j < ks.length → Pays 38 (blockT P) (ks.getD j tr0)) (ihs : ∀ j, j < ks.length → Pays 66 (simpleT E) (ks.getD j tr0)) (S : Nat → Prop) (b o : Nat) (w : World) (hA : At w S (.mk d ks) b o) :
    Calls Tryz.prog 63 #[.pointer (some ⟨b, o, none⟩)] w fun e w' => e = .returned (.bool (loopB E P d ks)) ∧ Below w.heap.size w w' := by
  obtain ⟨a, c, hN⟩ := Nod.start hA
  have hlen := fit_len hF
  have hs1 : Below w.heap.size w (szW w) := (Below.refl _ w).alloc (Nat.le_refl _) _
  have HS1 := Lib.hid hs1
  have hX := hN.kept hs1
  have hs2 := Lib.hid (sz_cells (Below.refl (szW w).heap.size (szW w)))
  by_cases hL : ks.length = 2
  rotate_left
  · have hR : loopB E P d ks = false := by unfold loopB; simp [hn, hL]
    rw [hR]
    obtain ⟨k, tx, nn, ty, s4, s5, s6⟩ := d
    simp only at hn
    subst hn
    obtain ⟨c0, c1, c2, c3, c4, c5, c6, c7⟩ := hX.cells
    obtain ⟨L, hLL⟩ : ∃ L, ks.length = L := ⟨_, rfl⟩
    rw [hLL] at c7 hL hlen
    have f0 : ((L : Int) != 2) = true := by simp; omega
    have f1 : ((L : Int) == 2) = false := beq_false_of_ne (by omega)
    obtain ⟨z0, z1, z2, z3⟩ := hs2.out
    have g2 := cell_regrown c2
    have g7 := cell_regrown c7
    have y1 := cell_regrown z1
    clear hA hF hN ih ihb ihs hLL hL hR hX hs1 z0 z1 z2 z3 hs2
    go_enter Tryz.func63, Tryz.ntmps63
    go_wp2_with fail
    refine wp_region_quiet_below (by kernel_rfl) (by kernel_rfl) ?_
    repeat (go_big_quiet_step (fail))
    refine wpQuiet_nil ?_
    intro w4 hw4
    have hb4 := Drw.cls_below (w := szW w) hw4
    clear hw4
    go_wp2
    go_ret
    exact ⟨rfl, HS1.out.trans (hb4.mono HS1.out.size)⟩
  obtain ⟨kb, ko, rfl⟩ := kl_some hN.kl (by omega)
  obtain ⟨pb, hpb⟩ : ∃ x, blockT P (kn 1 ks) = x := ⟨_, rfl⟩
  obtain ⟨p0, hp0⟩ : ∃ x, hasB false false true d = x := ⟨_, rfl⟩
  have H := reg (w := szW w) (f := 38) (args := #[.pointer (some ⟨kb, ko + 1 * 8, none⟩)]) (v := .bool pb) fun W hb => by
    have := ihb 1 (by omega) _ _ _ W (kl_at (hX.kept hb).kl (by omega))
    rw [show ks.getD 1 tr0 = kn 1 ks from rfl, hpb] at this; exact this
  have hHH := fun W q0 q1 q2 q3 => has_4 d b o W q0 q1 q2 q3
  rw [hp0] at hHH
  have HH := Lib.hid hHH
  obtain ⟨y0, hy0⟩ : ∃ x, E (kn 0 ks) = x := ⟨_, rfl⟩
  have hHE0 := fun W (h : KL W (fun _ => True) ks (some ⟨kb, ko, none⟩)) => ih 0 (by omega) _ _ _ W (kl_at h (show 0 < ks.length by omega))
  rw [show ks.getD 0 tr0 = kn 0 ks from rfl, hy0] at hHE0
  have HE0 := Lib.hid hHE0
  have hR : loopB E P d ks = (pb && (p0 && y0)) := by
    unfold loopB
    simp only [hn]
    simp only [hL, hpb, hp0, hy0]
    simp
  rw [hR]
  have HL := Lib.hid hL
  have HX := Lib.hid hX
  obtain ⟨k, tx, nn, ty, s4, s5, s6⟩ := d
  simp only at hn
  subst hn
  obtain ⟨c0, c1, c2, c3, c4, c5, c6, c7⟩ := hX.cells
  rw [hL] at c7
  obtain ⟨z0, z1, z2, z3⟩ := hs2.out
  have g2 := cell_regrown c2
  have g7 := cell_regrown c7
  have sz1 := cell_regrown z1
  clear hA hF hN ih ihb ihs hL hR hX hs1 z0 z1 z2 z3 hs2 hpb hp0 hHH hy0 hHE0
  cases pb
  · go_enter Tryz.func63, Tryz.ntmps63
    go_wp2_with fail
    refine wp_region_quiet_below (by kernel_rfl) (by kernel_rfl) ?_
    repeat (go_big_quiet_step (first | exact H.out _ _ | fail))
    refine wpQuiet_nil ?_
    intro w4 hw4
    have hb4 := Drw.cls_below (w := szW w) hw4
    clear hw4
    go_wp2
    go_ret
    exact ⟨rfl, HS1.out.trans (hb4.mono HS1.out.size)⟩
  go_enter Tryz.func63, Tryz.ntmps63
  go_wp2_with fail
  refine wp_region_quiet_below (by kernel_rfl) (by kernel_rfl) ?_
  repeat (go_big_quiet_step (first | exact H.out _ _ | fail))
  refine wpQuiet_nil ?_
  intro w4 hw4
  have hb4 := Drw.cls_below (w := szW w) hw4
  clear hw4
  have HX := Lib.hid (HX.out.kept hb4)
  clear hb4
  clear c0 c1 c2 c3 c4 c5 c6 c7 g2 g7 sz1
  obtain ⟨c0, c1, c2, c3, c4, c5, c6, c7⟩ := HX.out.cells
  rw [HL.out] at c7
  go_wp2_with fail
  refine (HH.out _ c0 c1 c2 c3).mono ?_
  rintro e w6 ⟨rfl, rfl⟩
  cases p0
  · go_wp2
    go_ret
    exact ⟨rfl, HX.out.below⟩
  go_wp2_with fail
  refine (HE0.out _ HX.out.kl).mono ?_
  rintro e w7 ⟨rfl, hb⟩
  have HX := Lib.hid (HX.out.kept hb)
  clear hb
  clear c0 c1 c2 c3 c4 c5 c6 c7
  obtain ⟨c0, c1, c2, c3, c4, c5, c6, c7⟩ := HX.out.cells
  rw [HL.out] at c7
  cases y0
  all_goals
    go_wp2
    go_ret
    exact ⟨rfl, HX.out.below⟩
set_option maxHeartbeats 8000000 in
set_option maxRecDepth 100000 in
theorem loop_2 (E P : Tr → Bool) (d : Nd) (ks : List Tr) (hn : d.n = 2) (hF : Fit (.mk d ks)) (ih : ∀ j, j < ks.length → Pays 62 E (ks.getD j tr0)) (ihb : ∀ j, j < ks.length → Pays 38 (blockT P) (ks.getD j tr0)) (ihs : ∀ j, j < ks.length → Pays 66 (simpleT E) (ks.getD j tr0)) (S : Nat → Prop) (b o : Nat) (w : World) (hA : At w S (.mk d ks) b o) :
    Calls Tryz.prog 63 #[.pointer (some ⟨b, o, none⟩)] w fun e w' => e = .returned (.bool (loopB E P d ks)) ∧ Below w.heap.size w w' := by
  obtain ⟨a, c, hN⟩ := Nod.start hA
  have hlen := fit_len hF
  have hs1 : Below w.heap.size w (szW w) := (Below.refl _ w).alloc (Nat.le_refl _) _
  have HS1 := Lib.hid hs1
  have hX := hN.kept hs1
  have hs2 := Lib.hid (sz_cells (Below.refl (szW w).heap.size (szW w)))
  by_cases hL : ks.length = 4
  rotate_left
  · have hR : loopB E P d ks = false := by unfold loopB; simp [hn, hL]
    rw [hR]
    obtain ⟨k, tx, nn, ty, s4, s5, s6⟩ := d
    simp only at hn
    subst hn
    obtain ⟨c0, c1, c2, c3, c4, c5, c6, c7⟩ := hX.cells
    obtain ⟨L, hLL⟩ : ∃ L, ks.length = L := ⟨_, rfl⟩
    rw [hLL] at c7 hL hlen
    have f0 : ((L : Int) != 4) = true := by simp; omega
    have f1 : ((L : Int) == 4) = false := beq_false_of_ne (by omega)
    obtain ⟨z0, z1, z2, z3⟩ := hs2.out
    have g2 := cell_regrown c2
    have g7 := cell_regrown c7
    have y2 := cell_regrown z2
    clear hA hF hN ih ihb ihs hLL hL hR hX hs1 z0 z1 z2 z3 hs2
    go_enter Tryz.func63, Tryz.ntmps63
    go_wp2_with fail
    refine wp_region_quiet_below (by kernel_rfl) (by kernel_rfl) ?_
    repeat (go_big_quiet_step (fail))
    refine wpQuiet_nil ?_
    intro w4 hw4
    have hb4 := Drw.cls_below (w := szW w) hw4
    clear hw4
    go_wp2
    go_ret
    exact ⟨rfl, HS1.out.trans (hb4.mono HS1.out.size)⟩
  obtain ⟨kb, ko, rfl⟩ := kl_some hN.kl (by omega)
  obtain ⟨pb, hpb⟩ : ∃ x, blockT P (kn 3 ks) = x := ⟨_, rfl⟩
  obtain ⟨p0, hp0⟩ : ∃ x, hasB false false true d = x := ⟨_, rfl⟩
  have H := reg (w := szW w) (f := 38) (args := #[.pointer (some ⟨kb, ko + 3 * 8, none⟩)]) (v := .bool pb) fun W hb => by
    have := ihb 3 (by omega) _ _ _ W (kl_at (hX.kept hb).kl (by omega))
    rw [show ks.getD 3 tr0 = kn 3 ks from rfl, hpb] at this; exact this
  have hHH := fun W q0 q1 q2 q3 => has_4 d b o W q0 q1 q2 q3
  rw [hp0] at hHH
  have HH := Lib.hid hHH
  obtain ⟨x0, hx0⟩ : ∃ x, noneT (kn 0 ks) = x := ⟨_, rfl⟩
  have hHZ0 := fun W (h : KL W (fun _ => True) ks (some ⟨kb, ko, none⟩)) => none_pays _ (fit_kid hF (by omega)) _ _ _ W (kl_at h (show 0 < ks.length by omega))
  rw [show ks.getD 0 tr0 = kn 0 ks from rfl, hx0] at hHZ0
  have HZ0 := Lib.hid hHZ0
  obtain ⟨y0, hy0⟩ : ∃ x, simpleT E (kn 0 ks) = x := ⟨_, rfl⟩
  have hHM0 := fun W (h : KL W (fun _ => True) ks (some ⟨kb, ko, none⟩)) => ihs 0 (by omega) _ _ _ W (kl_at h (show 0 < ks.length by omega))
  rw [show ks.getD 0 tr0 = kn 0 ks from rfl, hy0] at hHM0
  have HM0 := Lib.hid hHM0
  obtain ⟨x1, hx1⟩ : ∃ x, noneT (kn 1 ks) = x := ⟨_, rfl⟩
  have hHZ1 := fun W (h : KL W (fun _ => True) ks (some ⟨kb, ko, none⟩)) => none_pays _ (fit_kid hF (by omega)) _ _ _ W (kl_at h (show 1 < ks.length by omega))
  rw [show ks.getD 1 tr0 = kn 1 ks from rfl, hx1] at hHZ1
  have HZ1 := Lib.hid hHZ1
  obtain ⟨y1, hy1⟩ : ∃ x, E (kn 1 ks) = x := ⟨_, rfl⟩
  have hHE1 := fun W (h : KL W (fun _ => True) ks (some ⟨kb, ko, none⟩)) => ih 1 (by omega) _ _ _ W (kl_at h (show 1 < ks.length by omega))
  rw [show ks.getD 1 tr0 = kn 1 ks from rfl, hy1] at hHE1
  have HE1 := Lib.hid hHE1
  obtain ⟨x2, hx2⟩ : ∃ x, noneT (kn 2 ks) = x := ⟨_, rfl⟩
  have hHZ2 := fun W (h : KL W (fun _ => True) ks (some ⟨kb, ko, none⟩)) => none_pays _ (fit_kid hF (by omega)) _ _ _ W (kl_at h (show 2 < ks.length by omega))
  rw [show ks.getD 2 tr0 = kn 2 ks from rfl, hx2] at hHZ2
  have HZ2 := Lib.hid hHZ2
  obtain ⟨y2, hy2⟩ : ∃ x, simpleT E (kn 2 ks) = x := ⟨_, rfl⟩
  have hHM2 := fun W (h : KL W (fun _ => True) ks (some ⟨kb, ko, none⟩)) => ihs 2 (by omega) _ _ _ W (kl_at h (show 2 < ks.length by omega))
  rw [show ks.getD 2 tr0 = kn 2 ks from rfl, hy2] at hHM2
  have HM2 := Lib.hid hHM2
  have hKC : ∀ W, KL W (fun _ => True) ks (some ⟨kb, ko, none⟩) → W.cell? ⟨kb, ko + 16, none⟩ = some (.int .i64 (kn 2 ks).d.k) := fun W h => by
    have q := (kl_at h (show 2 < ks.length by omega)).cells.choose_spec.choose_spec.2.1
    simp only [Nat.reduceMul] at q
    exact q
  obtain ⟨kk, hkk⟩ : ∃ x, (kn 2 ks).d.k = x := ⟨_, rfl⟩
  rw [hkk] at hKC
  have HKC := Lib.hid hKC
  have hR : loopB E P d ks = (pb && (p0 && ((x0 || y0) && ((x1 || y1) && (x2 || (kk != 6 && y2)))))) := by
    unfold loopB
    simp only [hn]
    simp only [hL, hpb, hp0, hx0, hy0, hx1, hy1, hx2, hy2, hkk]
    simp
  rw [hR]
  have HL := Lib.hid hL
  have HX := Lib.hid hX
  obtain ⟨k, tx, nn, ty, s4, s5, s6⟩ := d
  simp only at hn
  subst hn
  obtain ⟨c0, c1, c2, c3, c4, c5, c6, c7⟩ := hX.cells
  rw [hL] at c7
  obtain ⟨z0, z1, z2, z3⟩ := hs2.out
  have g2 := cell_regrown c2
  have g7 := cell_regrown c7
  have sz2 := cell_regrown z2
  clear hA hF hN ih ihb ihs hL hR hX hs1 z0 z1 z2 z3 hs2 hpb hp0 hHH hx0 hy0 hx1 hy1 hx2 hy2 hHZ0 hHM0 hHZ1 hHE1 hHZ2 hHM2 hkk hKC
  cases pb
  · go_enter Tryz.func63, Tryz.ntmps63
    go_wp2_with fail
    refine wp_region_quiet_below (by kernel_rfl) (by kernel_rfl) ?_
    repeat (go_big_quiet_step (first | exact H.out _ _ | fail))
    refine wpQuiet_nil ?_
    intro w4 hw4
    have hb4 := Drw.cls_below (w := szW w) hw4
    clear hw4
    go_wp2
    go_ret
    exact ⟨rfl, HS1.out.trans (hb4.mono HS1.out.size)⟩
  go_enter Tryz.func63, Tryz.ntmps63
  go_wp2_with fail
  refine wp_region_quiet_below (by kernel_rfl) (by kernel_rfl) ?_
  repeat (go_big_quiet_step (first | exact H.out _ _ | fail))
  refine wpQuiet_nil ?_
  intro w4 hw4
  have hb4 := Drw.cls_below (w := szW w) hw4
  clear hw4
  have HX := Lib.hid (HX.out.kept hb4)
  clear hb4
  clear c0 c1 c2 c3 c4 c5 c6 c7 g2 g7 sz2
  obtain ⟨c0, c1, c2, c3, c4, c5, c6, c7⟩ := HX.out.cells
  rw [HL.out] at c7
  have g7 := cell_regrown c7
  go_wp2_with fail
  refine wp_region_quiet_below (by kernel_rfl) (by kernel_rfl) ?_
  repeat (go_big_quiet_step (fail))
  refine wpQuiet_nil ?_
  intro w5 hw5
  have hb := Drw.cls_below (w := w4) hw5
  clear hw5 g7
  have HX := Lib.hid (HX.out.kept hb)
  clear hb
  clear c0 c1 c2 c3 c4 c5 c6 c7
  obtain ⟨c0, c1, c2, c3, c4, c5, c6, c7⟩ := HX.out.cells
  rw [HL.out] at c7
  go_wp2_with fail
  refine (HH.out _ c0 c1 c2 c3).mono ?_
  rintro e w6 ⟨rfl, rfl⟩
  cases p0
  · go_wp2
    go_ret
    exact ⟨by first | rfl | (rw [e6n]; rfl), HX.out.below⟩
  go_wp2_with fail
  refine (HZ0.out _ HX.out.kl).mono ?_
  rintro e w7 ⟨rfl, hb⟩
  have HX := Lib.hid (HX.out.kept hb)
  clear hb
  clear c0 c1 c2 c3 c4 c5 c6 c7
  obtain ⟨c0, c1, c2, c3, c4, c5, c6, c7⟩ := HX.out.cells
  rw [HL.out] at c7
  cases x0
  · go_wp2_with fail
    refine (HM0.out _ HX.out.kl).mono ?_
    rintro e w7 ⟨rfl, hb⟩
    have HX := Lib.hid (HX.out.kept hb)
    clear hb
    clear c0 c1 c2 c3 c4 c5 c6 c7
    obtain ⟨c0, c1, c2, c3, c4, c5, c6, c7⟩ := HX.out.cells
    rw [HL.out] at c7
    cases y0
    · go_wp2
      go_ret
      exact ⟨by first | rfl | (rw [e6n]; rfl), HX.out.below⟩
    go_wp2_with fail
    refine (HZ1.out _ HX.out.kl).mono ?_
    rintro e w7 ⟨rfl, hb⟩
    have HX := Lib.hid (HX.out.kept hb)
    clear hb
    clear c0 c1 c2 c3 c4 c5 c6 c7
    obtain ⟨c0, c1, c2, c3, c4, c5, c6, c7⟩ := HX.out.cells
    rw [HL.out] at c7
    cases x1
    · go_wp2_with fail
      refine (HE1.out _ HX.out.kl).mono ?_
      rintro e w7 ⟨rfl, hb⟩
      have HX := Lib.hid (HX.out.kept hb)
      clear hb
      clear c0 c1 c2 c3 c4 c5 c6 c7
      obtain ⟨c0, c1, c2, c3, c4, c5, c6, c7⟩ := HX.out.cells
      rw [HL.out] at c7
      cases y1
      · go_wp2
        go_ret
        exact ⟨by first | rfl | (rw [e6n]; rfl), HX.out.below⟩
      go_wp2_with fail
      refine (HZ2.out _ HX.out.kl).mono ?_
      rintro e w7 ⟨rfl, hb⟩
      have HX := Lib.hid (HX.out.kept hb)
      clear hb
      clear c0 c1 c2 c3 c4 c5 c6 c7
      obtain ⟨c0, c1, c2, c3, c4, c5, c6, c7⟩ := HX.out.cells
      rw [HL.out] at c7
      have k0 := HKC.out _ HX.out.kl
      cases x2
      · by_cases h6 : kk = 6
        · subst h6
          go_wp2
          go_ret
          exact ⟨by first | rfl | (rw [e6n]; rfl), HX.out.below⟩
        have e6 : (kk == 6) = false := beq_false_of_ne h6
        have e6n : (kk != 6) = true := by unfold bne; rw [e6]; rfl
        clear h6
        go_wp2_with fail
        refine (HM2.out _ HX.out.kl).mono ?_
        rintro e w7 ⟨rfl, hb⟩
        have HX := Lib.hid (HX.out.kept hb)
        clear hb
        clear c0 c1 c2 c3 c4 c5 c6 c7
        obtain ⟨c0, c1, c2, c3, c4, c5, c6, c7⟩ := HX.out.cells
        rw [HL.out] at c7
        cases y2
        all_goals
          go_wp2
          go_ret
          exact ⟨by first | rfl | (rw [e6n]; rfl), HX.out.below⟩
      · go_wp2
        go_ret
        exact ⟨by first | rfl | (rw [e6n]; rfl), HX.out.below⟩
    · go_wp2_with fail
      refine (HZ2.out _ HX.out.kl).mono ?_
      rintro e w7 ⟨rfl, hb⟩
      have HX := Lib.hid (HX.out.kept hb)
      clear hb
      clear c0 c1 c2 c3 c4 c5 c6 c7
      obtain ⟨c0, c1, c2, c3, c4, c5, c6, c7⟩ := HX.out.cells
      rw [HL.out] at c7
      have k0 := HKC.out _ HX.out.kl
      cases x2
      · by_cases h6 : kk = 6
        · subst h6
          go_wp2
          go_ret
          exact ⟨by first | rfl | (rw [e6n]; rfl), HX.out.below⟩
        have e6 : (kk == 6) = false := beq_false_of_ne h6
        have e6n : (kk != 6) = true := by unfold bne; rw [e6]; rfl
        clear h6
        go_wp2_with fail
        refine (HM2.out _ HX.out.kl).mono ?_
        rintro e w7 ⟨rfl, hb⟩
        have HX := Lib.hid (HX.out.kept hb)
        clear hb
        clear c0 c1 c2 c3 c4 c5 c6 c7
        obtain ⟨c0, c1, c2, c3, c4, c5, c6, c7⟩ := HX.out.cells
        rw [HL.out] at c7
        cases y2
        all_goals
          go_wp2
          go_ret
          exact ⟨by first | rfl | (rw [e6n]; rfl), HX.out.below⟩
      · go_wp2
        go_ret
        exact ⟨by first | rfl | (rw [e6n]; rfl), HX.out.below⟩
  · go_wp2_with fail
    refine (HZ1.out _ HX.out.kl).mono ?_
    rintro e w7 ⟨rfl, hb⟩
    have HX := Lib.hid (HX.out.kept hb)
    clear hb
    clear c0 c1 c2 c3 c4 c5 c6 c7
    obtain ⟨c0, c1, c2, c3, c4, c5, c6, c7⟩ := HX.out.cells
    rw [HL.out] at c7
    cases x1
    · go_wp2_with fail
      refine (HE1.out _ HX.out.kl).mono ?_
      rintro e w7 ⟨rfl, hb⟩
      have HX := Lib.hid (HX.out.kept hb)
      clear hb
      clear c0 c1 c2 c3 c4 c5 c6 c7
      obtain ⟨c0, c1, c2, c3, c4, c5, c6, c7⟩ := HX.out.cells
      rw [HL.out] at c7
      cases y1
      · go_wp2
        go_ret
        exact ⟨by first | rfl | (rw [e6n]; rfl), HX.out.below⟩
      go_wp2_with fail
      refine (HZ2.out _ HX.out.kl).mono ?_
      rintro e w7 ⟨rfl, hb⟩
      have HX := Lib.hid (HX.out.kept hb)
      clear hb
      clear c0 c1 c2 c3 c4 c5 c6 c7
      obtain ⟨c0, c1, c2, c3, c4, c5, c6, c7⟩ := HX.out.cells
      rw [HL.out] at c7
      have k0 := HKC.out _ HX.out.kl
      cases x2
      · by_cases h6 : kk = 6
        · subst h6
          go_wp2
          go_ret
          exact ⟨by first | rfl | (rw [e6n]; rfl), HX.out.below⟩
        have e6 : (kk == 6) = false := beq_false_of_ne h6
        have e6n : (kk != 6) = true := by unfold bne; rw [e6]; rfl
        clear h6
        go_wp2_with fail
        refine (HM2.out _ HX.out.kl).mono ?_
        rintro e w7 ⟨rfl, hb⟩
        have HX := Lib.hid (HX.out.kept hb)
        clear hb
        clear c0 c1 c2 c3 c4 c5 c6 c7
        obtain ⟨c0, c1, c2, c3, c4, c5, c6, c7⟩ := HX.out.cells
        rw [HL.out] at c7
        cases y2
        all_goals
          go_wp2
          go_ret
          exact ⟨by first | rfl | (rw [e6n]; rfl), HX.out.below⟩
      · go_wp2
        go_ret
        exact ⟨by first | rfl | (rw [e6n]; rfl), HX.out.below⟩
    · go_wp2_with fail
      refine (HZ2.out _ HX.out.kl).mono ?_
      rintro e w7 ⟨rfl, hb⟩
      have HX := Lib.hid (HX.out.kept hb)
      clear hb
      clear c0 c1 c2 c3 c4 c5 c6 c7
      obtain ⟨c0, c1, c2, c3, c4, c5, c6, c7⟩ := HX.out.cells
      rw [HL.out] at c7
      have k0 := HKC.out _ HX.out.kl
      cases x2
      · by_cases h6 : kk = 6
        · subst h6
          go_wp2
          go_ret
          exact ⟨by first | rfl | (rw [e6n]; rfl), HX.out.below⟩
        have e6 : (kk == 6) = false := beq_false_of_ne h6
        have e6n : (kk != 6) = true := by unfold bne; rw [e6]; rfl
        clear h6
        go_wp2_with fail
        refine (HM2.out _ HX.out.kl).mono ?_
        rintro e w7 ⟨rfl, hb⟩
        have HX := Lib.hid (HX.out.kept hb)
        clear hb
        clear c0 c1 c2 c3 c4 c5 c6 c7
        obtain ⟨c0, c1, c2, c3, c4, c5, c6, c7⟩ := HX.out.cells
        rw [HL.out] at c7
        cases y2
        all_goals
          go_wp2
          go_ret
          exact ⟨by first | rfl | (rw [e6n]; rfl), HX.out.below⟩
      · go_wp2
        go_ret
        exact ⟨by first | rfl | (rw [e6n]; rfl), HX.out.below⟩
set_option maxHeartbeats 8000000 in
set_option maxRecDepth 100000 in
theorem loop_3 (E P : Tr → Bool) (d : Nd) (ks : List Tr) (hn : d.n = 3) (hF : Fit (.mk d ks)) (ih : ∀ j, j < ks.length → Pays 62 E (ks.getD j tr0)) (ihb : ∀ j, j < ks.length → Pays 38 (blockT P) (ks.getD j tr0)) (ihs : ∀ j, j < ks.length → Pays 66 (simpleT E) (ks.getD j tr0)) (S : Nat → Prop) (b o : Nat) (w : World) (hA : At w S (.mk d ks) b o) :
    Calls Tryz.prog 63 #[.pointer (some ⟨b, o, none⟩)] w fun e w' => e = .returned (.bool (loopB E P d ks)) ∧ Below w.heap.size w w' := by
  obtain ⟨a, c, hN⟩ := Nod.start hA
  have hlen := fit_len hF
  have hs1 : Below w.heap.size w (szW w) := (Below.refl _ w).alloc (Nat.le_refl _) _
  have HS1 := Lib.hid hs1
  have hX := hN.kept hs1
  have hs2 := Lib.hid (sz_cells (Below.refl (szW w).heap.size (szW w)))
  by_cases hL : ks.length = 3
  rotate_left
  · have hR : loopB E P d ks = false := by unfold loopB; simp [hn, hL]
    rw [hR]
    obtain ⟨k, tx, nn, ty, s4, s5, s6⟩ := d
    simp only at hn
    subst hn
    obtain ⟨c0, c1, c2, c3, c4, c5, c6, c7⟩ := hX.cells
    obtain ⟨L, hLL⟩ : ∃ L, ks.length = L := ⟨_, rfl⟩
    rw [hLL] at c7 hL hlen
    have f0 : ((L : Int) != 3) = true := by simp; omega
    have f1 : ((L : Int) == 3) = false := beq_false_of_ne (by omega)
    obtain ⟨z0, z1, z2, z3⟩ := hs2.out
    have g2 := cell_regrown c2
    have g7 := cell_regrown c7
    have y3 := cell_regrown z3
    clear hA hF hN ih ihb ihs hLL hL hR hX hs1 z0 z1 z2 z3 hs2
    go_enter Tryz.func63, Tryz.ntmps63
    go_wp2_with fail
    refine wp_region_quiet_below (by kernel_rfl) (by kernel_rfl) ?_
    repeat (go_big_quiet_step (fail))
    refine wpQuiet_nil ?_
    intro w4 hw4
    have hb4 := Drw.cls_below (w := szW w) hw4
    clear hw4
    go_wp2
    go_ret
    exact ⟨rfl, HS1.out.trans (hb4.mono HS1.out.size)⟩
  obtain ⟨kb, ko, rfl⟩ := kl_some hN.kl (by omega)
  obtain ⟨pb, hpb⟩ : ∃ x, blockT P (kn 2 ks) = x := ⟨_, rfl⟩
  obtain ⟨p0, hp0⟩ : ∃ x, hasB true false true d = x := ⟨_, rfl⟩
  have H := reg (w := szW w) (f := 38) (args := #[.pointer (some ⟨kb, ko + 2 * 8, none⟩)]) (v := .bool pb) fun W hb => by
    have := ihb 2 (by omega) _ _ _ W (kl_at (hX.kept hb).kl (by omega))
    rw [show ks.getD 2 tr0 = kn 2 ks from rfl, hpb] at this; exact this
  have hHH := fun W q0 q1 q2 q3 => has_5 d b o W q0 q1 q2 q3
  rw [hp0] at hHH
  have HH := Lib.hid hHH
  obtain ⟨y1, hy1⟩ : ∃ x, E (kn 1 ks) = x := ⟨_, rfl⟩
  have hHE1 := fun W (h : KL W (fun _ => True) ks (some ⟨kb, ko, none⟩)) => ih 1 (by omega) _ _ _ W (kl_at h (show 1 < ks.length by omega))
  rw [show ks.getD 1 tr0 = kn 1 ks from rfl, hy1] at hHE1
  have HE1 := Lib.hid hHE1
  obtain ⟨x0, hx0⟩ : ∃ x, noneT (kn 0 ks) = x := ⟨_, rfl⟩
  have hHZ0 := fun W (h : KL W (fun _ => True) ks (some ⟨kb, ko, none⟩)) => none_pays _ (fit_kid hF (by omega)) _ _ _ W (kl_at h (show 0 < ks.length by omega))
  rw [show ks.getD 0 tr0 = kn 0 ks from rfl, hx0] at hHZ0
  have HZ0 := Lib.hid hHZ0
  obtain ⟨y0, hy0⟩ : ∃ x, E (kn 0 ks) = x := ⟨_, rfl⟩
  have hHE0 := fun W (h : KL W (fun _ => True) ks (some ⟨kb, ko, none⟩)) => ih 0 (by omega) _ _ _ W (kl_at h (show 0 < ks.length by omega))
  rw [show ks.getD 0 tr0 = kn 0 ks from rfl, hy0] at hHE0
  have HE0 := Lib.hid hHE0
  have hKC : ∀ W, KL W (fun _ => True) ks (some ⟨kb, ko, none⟩) → W.cell? ⟨kb, ko, none⟩ = some (.int .i64 (kn 0 ks).d.k) := fun W h => by
    have q := (kl_at h (show 0 < ks.length by omega)).cells.choose_spec.choose_spec.2.1
    simp only [Nat.zero_mul, Nat.add_zero] at q
    exact q
  obtain ⟨kk, hkk⟩ : ∃ x, (kn 0 ks).d.k = x := ⟨_, rfl⟩
  rw [hkk] at hKC
  have HKC := Lib.hid hKC
  have hR : loopB E P d ks = (pb && (p0 && (y1 && ((d.text.toList.isEmpty && x0) || ((d.text.toList == [58, 61] || d.text.toList == [61]) && (kk == 21 && y0)))))) := by
    unfold loopB
    simp only [hn]
    simp only [hL, hpb, hp0, hy1, hx0, hy0, hkk]
    simp
  rw [hR]
  have HL := Lib.hid hL
  have HX := Lib.hid hX
  obtain ⟨k, tx, nn, ty, s4, s5, s6⟩ := d
  simp only at hn
  subst hn
  obtain ⟨c0, c1, c2, c3, c4, c5, c6, c7⟩ := hX.cells
  rw [hL] at c7
  obtain ⟨z0, z1, z2, z3⟩ := hs2.out
  have g2 := cell_regrown c2
  have g7 := cell_regrown c7
  have sz3 := cell_regrown z3
  clear hA hF hN ih ihb ihs hL hR hX hs1 z0 z1 z2 z3 hs2 hpb hp0 hHH hy1 hx0 hy0 hHE1 hHZ0 hHE0 hkk hKC
  cases pb
  · go_enter Tryz.func63, Tryz.ntmps63
    go_wp2_with fail
    refine wp_region_quiet_below (by kernel_rfl) (by kernel_rfl) ?_
    repeat (go_big_quiet_step (first | exact H.out _ _ | fail))
    refine wpQuiet_nil ?_
    intro w4 hw4
    have hb4 := Drw.cls_below (w := szW w) hw4
    clear hw4
    go_wp2
    go_ret
    exact ⟨rfl, HS1.out.trans (hb4.mono HS1.out.size)⟩
  go_enter Tryz.func63, Tryz.ntmps63
  go_wp2_with fail
  refine wp_region_quiet_below (by kernel_rfl) (by kernel_rfl) ?_
  repeat (go_big_quiet_step (first | exact H.out _ _ | fail))
  refine wpQuiet_nil ?_
  intro w4 hw4
  have hb4 := Drw.cls_below (w := szW w) hw4
  clear hw4
  have HX := Lib.hid (HX.out.kept hb4)
  clear hb4
  clear c0 c1 c2 c3 c4 c5 c6 c7 g2 g7 sz3
  obtain ⟨c0, c1, c2, c3, c4, c5, c6, c7⟩ := HX.out.cells
  rw [HL.out] at c7
  go_wp2_with fail
  refine (HH.out _ c0 c1 c2 c3).mono ?_
  rintro e w6 ⟨rfl, rfl⟩
  cases p0
  · go_wp2
    go_ret
    exact ⟨by first | rfl | (rw [e0, e1, e2, e21]; rfl) | (rw [e0, e1, e21]; rfl) | (rw [e0, e1, e2]; rfl) | (rw [e0, e1]; rfl) | (rw [e0]; rfl), HX.out.below⟩
  go_wp2_with fail
  refine (HE1.out _ HX.out.kl).mono ?_
  rintro e w7 ⟨rfl, hb⟩
  have HX := Lib.hid (HX.out.kept hb)
  clear hb
  clear c0 c1 c2 c3 c4 c5 c6 c7
  obtain ⟨c0, c1, c2, c3, c4, c5, c6, c7⟩ := HX.out.cells
  rw [HL.out] at c7
  cases y1
  · go_wp2
    go_ret
    exact ⟨by first | rfl | (rw [e0, e1, e2, e21]; rfl) | (rw [e0, e1, e21]; rfl) | (rw [e0, e1, e2]; rfl) | (rw [e0, e1]; rfl) | (rw [e0]; rfl), HX.out.below⟩
  cases e0 : tx.toList.isEmpty
  · cases e1 : (tx.toList == [58, 61])
    · cases e2 : (tx.toList == [61])
      · go_wp2
        go_ret
        exact ⟨by first | rfl | (rw [e0, e1, e2, e21]; rfl) | (rw [e0, e1, e21]; rfl) | (rw [e0, e1, e2]; rfl) | (rw [e0, e1]; rfl) | (rw [e0]; rfl), HX.out.below⟩
      · have k0 := HKC.out _ HX.out.kl
        by_cases h21 : kk = 21
        · subst h21
          go_wp2_with fail
          refine (HE0.out _ HX.out.kl).mono ?_
          rintro e w7 ⟨rfl, hb⟩
          have HX := Lib.hid (HX.out.kept hb)
          clear hb
          clear c0 c1 c2 c3 c4 c5 c6 c7
          obtain ⟨c0, c1, c2, c3, c4, c5, c6, c7⟩ := HX.out.cells
          rw [HL.out] at c7
          cases y0
          all_goals
            go_wp2
            go_ret
            exact ⟨by first | rfl | (rw [e0, e1, e2, e21]; rfl) | (rw [e0, e1, e21]; rfl) | (rw [e0, e1, e2]; rfl) | (rw [e0, e1]; rfl) | (rw [e0]; rfl), HX.out.below⟩
        have e21 : (kk == 21) = false := beq_false_of_ne h21
        clear h21
        go_wp2
        go_ret
        exact ⟨by first | rfl | (rw [e0, e1, e2, e21]; rfl) | (rw [e0, e1, e21]; rfl) | (rw [e0, e1, e2]; rfl) | (rw [e0, e1]; rfl) | (rw [e0]; rfl), HX.out.below⟩
    · have k0 := HKC.out _ HX.out.kl
      by_cases h21 : kk = 21
      · subst h21
        go_wp2_with fail
        refine (HE0.out _ HX.out.kl).mono ?_
        rintro e w7 ⟨rfl, hb⟩
        have HX := Lib.hid (HX.out.kept hb)
        clear hb
        clear c0 c1 c2 c3 c4 c5 c6 c7
        obtain ⟨c0, c1, c2, c3, c4, c5, c6, c7⟩ := HX.out.cells
        rw [HL.out] at c7
        cases y0
        all_goals
          go_wp2
          go_ret
          exact ⟨by first | rfl | (rw [e0, e1, e2, e21]; rfl) | (rw [e0, e1, e21]; rfl) | (rw [e0, e1, e2]; rfl) | (rw [e0, e1]; rfl) | (rw [e0]; rfl), HX.out.below⟩
      have e21 : (kk == 21) = false := beq_false_of_ne h21
      clear h21
      go_wp2
      go_ret
      exact ⟨by first | rfl | (rw [e0, e1, e2, e21]; rfl) | (rw [e0, e1, e21]; rfl) | (rw [e0, e1, e2]; rfl) | (rw [e0, e1]; rfl) | (rw [e0]; rfl), HX.out.below⟩
  · have e1 : (tx.toList == [58, 61]) = false := by rw [List.isEmpty_iff.1 e0]; rfl
    have e2 : (tx.toList == [61]) = false := by rw [List.isEmpty_iff.1 e0]; rfl
    go_wp2_with fail
    refine (HZ0.out _ HX.out.kl).mono ?_
    rintro e w7 ⟨rfl, hb⟩
    have HX := Lib.hid (HX.out.kept hb)
    clear hb
    clear c0 c1 c2 c3 c4 c5 c6 c7
    obtain ⟨c0, c1, c2, c3, c4, c5, c6, c7⟩ := HX.out.cells
    rw [HL.out] at c7
    cases x0
    all_goals
      go_wp2
      go_ret
      exact ⟨by first | rfl | (rw [e0, e1, e2, e21]; rfl) | (rw [e0, e1, e21]; rfl) | (rw [e0, e1, e2]; rfl) | (rw [e0, e1]; rfl) | (rw [e0]; rfl), HX.out.below⟩
set_option maxHeartbeats 8000000 in
set_option maxRecDepth 100000 in
theorem loop_none (d : Nd) (ks : List Tr) (hn : d.n < 0 ∨ 3 < d.n) (S : Nat → Prop) (b o : Nat) (w : World) (hA : At w S (.mk d ks) b o) :
    Calls Tryz.prog 63 #[.pointer (some ⟨b, o, none⟩)] w fun e w' => e = .returned (.bool false) ∧ Below w.heap.size w w' := by
  obtain ⟨a, c, hN⟩ := Nod.start hA
  have hs1 : Below w.heap.size w (szW w) := (Below.refl _ w).alloc (Nat.le_refl _) _
  have HS1 := Lib.hid hs1
  have hX := hN.kept hs1
  obtain ⟨k, tx, nn, ty, s4, s5, s6⟩ := d
  obtain ⟨c0, c1, c2, c3, c4, c5, c6, c7⟩ := hX.cells
  have g2 := cell_regrown c2
  simp only at hn
  by_cases h : nn < 0
  · have e0 : decide (nn < 0) = true := decide_eq_true h
    clear hA hN hX hs1 hn h
    go_enter Tryz.func63, Tryz.ntmps63
    go_wp2_with fail
    refine wp_region_quiet_below (by kernel_rfl) (by kernel_rfl) ?_
    repeat (go_big_quiet_step (fail))
    refine wpQuiet_nil ?_
    intro w4 hw4
    have hb4 := Drw.cls_below (w := szW w) hw4
    clear hw4
    go_wp2
    go_ret
    exact ⟨rfl, HS1.out.trans (hb4.mono HS1.out.size)⟩
  · have e0 : decide (nn < 0) = false := decide_eq_false h
    have e1 : decide (3 < nn) = true := by simp; omega
    clear hA hN hX hs1 hn h
    go_enter Tryz.func63, Tryz.ntmps63
    go_wp2_with fail
    refine wp_region_quiet_below (by kernel_rfl) (by kernel_rfl) ?_
    repeat (go_big_quiet_step (fail))
    refine wpQuiet_nil ?_
    intro w4 hw4
    have hb4 := Drw.cls_below (w := szW w) hw4
    clear hw4
    go_wp2
    go_ret
    exact ⟨rfl, HS1.out.trans (hb4.mono HS1.out.size)⟩
end Go.Proofs.YtgodeffkboihlaaGreatDoor.Tqg
