/- tree.simple: Define and Assign. Printed by mklet.py. -/
import Derived.Test.YtgodeffkboihlaaGreatDoorTqc
set_option linter.unusedVariables false
namespace Go.Proofs.YtgodeffkboihlaaGreatDoor.Tqf
open Go.RowKit Go.Sort Tra Trb Trf Trd Tcn Trh Tha Nam Txa Tpr Tyq Txe Txg Txs Txi Txu Txv Txw Tqb Tpt Tqc

theorem enters_target : Enters Tryz.prog 111 := enters_of Tryz.func111 (by kernel_rfl) rfl
theorem enters_blank : Enters Tryz.prog 112 := enters_of Tryz.func112 (by kernel_rfl) rfl
theorem target_pays : ∀ t : Tr, Fit t → Pays 111 targetT t := by
  rintro ⟨d, ks⟩ hF S b o w hA
  exact target_any d ks hF S b o w hA
set_option maxHeartbeats 8000000 in
set_option maxRecDepth 100000 in
theorem let_1_6 (E : Tr → Bool) (d : Nd) (ks : List Tr) (hk : d.k = 6) (hn : d.n = 1) (hF : Fit (.mk d ks)) (ih : ∀ j, j < ks.length → Pays 62 E (ks.getD j tr0)) (S : Nat → Prop) (b o : Nat) (w : World) (hA : At w S (.mk d ks) b o) :
    Calls Tryz.prog 66 #[.pointer (some ⟨b, o, none⟩)] w fun e w' => e = .returned (.bool (letB E d ks 1)) ∧ Below w.heap.size w w' := by
  obtain ⟨a, c, hN⟩ := Nod.start hA
  have hlen := fit_len hF
  have hcap := hN.cap
  by_cases hL : ks.length = 1 + 1
  rotate_left
  · have hR : letB E d ks 1 = false := by unfold letB; rw [beq_false_of_ne hL]; rfl
    rw [hR]
    obtain ⟨k, tx, nn, ty, s4, s5, s6⟩ := d
    simp only at hn hk
    subst hn
    subst hk
    obtain ⟨c0, c1, c2, c3, c4, c5, c6, c7⟩ := hN.cells
    obtain ⟨L, hLL⟩ : ∃ L, ks.length = L := ⟨_, rfl⟩
    rw [hLL] at c7 hL hlen
    have f0 : ((L : Int) != 2) = true := by simp; omega
    have f1 : ((L : Int) == 2) = false := beq_false_of_ne (by omega)
    have g0 := cell_regrown c0
    have g2 := cell_regrown c2
    have g7 := cell_regrown c7
    clear hA hF hN ih hLL hL hcap hR
    go_enter Tryz.func66, Tryz.ntmps66
    go_wp2_with fail
    refine wp_region_quiet_below (by kernel_rfl) (by kernel_rfl) ?_
    repeat (go_big_quiet_step (fail))
    refine wpQuiet_nil ?_
    intro w4 hw4
    have hb4 := Drw.cls_below (w := w) hw4
    clear hw4
    go_wp2
    go_ret
    exact ⟨rfl, hb4⟩
  obtain ⟨kb, ko, rfl⟩ := kl_some hN.kl (by omega)
  obtain ⟨p0, hp0⟩ : ∃ x, hasB false false true d = x := ⟨_, rfl⟩
  obtain ⟨p1, hp1⟩ : ∃ x, (ks.take 1).all targetT = x := ⟨_, rfl⟩
  obtain ⟨p2, hp2⟩ : ∃ x, E (kn 1 ks) = x := ⟨_, rfl⟩
  obtain ⟨p3, hp3⟩ : ∃ x, recvB (kn 1 ks).d = x := ⟨_, rfl⟩
  obtain ⟨bl, hbl⟩ : ∃ x, (ks.take 1).all blankT = x := ⟨_, rfl⟩
  have hR : Hid (letB E d ks 1 = (p0 && (p1 && (p2 && (!(bl && true)))))) := by
    show letB E d ks 1 = _
    unfold letB
    rw [hL, hp0, hp1, hp2, hp3, hbl, hk]
    simp
  have hnl : 1 < ks.length := by omega
  have H := reg (w := w) (f := 24) (args := #[.pointer (some ⟨b, o, none⟩), .int .i64 4]) (v := .bool p0) fun W hb => by
    obtain ⟨x0, x1, x2, x3, _⟩ := (hN.kept hb).cells
    have := same_below (has_4 d b o W x0 x1 x2 x3)
    rw [hp0] at this; exact this
  have H2 := reg (w := w) (f := 25) (args := #[.slice (some ⟨kb, ko, none⟩) 1 c, .func (.func 111) #[] #[]]) (v := .bool p1) fun W hb => by
    have := all_take enters_target (p := targetT) (some ⟨kb, ko, none⟩) c 1 (by omega) hlen (fun j hj => target_pays _ (fit_kid hF (by omega))) W (hN.kept hb).kl
    rw [hp1] at this; exact this
  have H3 : ∀ w4, Below w.heap.size w w4 → Hid (∀ (dd : Nat) (os : Array Obj), Calls Tryz.prog 25 #[.slice (some ⟨kb, ko, none⟩) 1 c, .func (.func 112) #[] #[]] (grow (redrawn w4 dd) os) fun e w'' => e = .returned (.bool bl) ∧ ∃ p : Regrown, w'' = grow (redrawn w4 p.d) p.os) := fun w4 hb4 => reg (w := w4) (f := 25) (args := #[.slice (some ⟨kb, ko, none⟩) 1 c, .func (.func 112) #[] #[]]) (v := .bool bl) fun W hb => by
    have := all_take enters_blank (p := blankT) (some ⟨kb, ko, none⟩) c 1 (by omega) hlen (fun j hj => blank_pays _) W ((hN.kept hb4).kept hb).kl
    rw [hbl] at this; exact this
  have hE := ih 1 hnl
  rw [show ks.getD 1 tr0 = kn 1 ks from rfl] at hE
  unfold Pays at hE
  have hEE := fun W (h : KL W (fun _ => True) ks (some ⟨kb, ko, none⟩)) => hE _ _ _ W (kl_at h hnl)
  rw [hp2] at hEE
  have hRC := fun W (h : KL W (fun _ => True) ks (some ⟨kb, ko, none⟩)) => receive_any (kn 1 ks).d kb (ko + 1 * 8) W (kl_at h hnl).cells.choose_spec.choose_spec.2.1 (kl_at h hnl).cells.choose_spec.choose_spec.2.2.1
  rw [hp3] at hRC
  have HE := Lib.hid hEE
  have HRC := Lib.hid hRC
  have HN := Lib.hid hN
  have HH3 := Lib.hid H3
  obtain ⟨k, tx, nn, ty, s4, s5, s6⟩ := d
  simp only at hn hk
  subst hn
  subst hk
  obtain ⟨c0, c1, c2, c3, c4, c5, c6, c7⟩ := hN.cells
  rw [hL] at c7 hlen hcap
  have HL := Lib.hid hL
  have g0 := cell_regrown c0
  have g2 := cell_regrown c2
  have g7 := cell_regrown c7
  have hmc : 1 ≤ c := by omega
  have hmci : (1 : Int) ≤ (c : Int) := by omega
  have hlt := hN.lt
  clear hA hF hN ih hL hp0 hp1 hp2 hp3 hbl hE hEE hRC hnl H3
  cases p0
  · go_enter Tryz.func66, Tryz.ntmps66
    go_wp2_with fail
    refine wp_region_quiet_below (by kernel_rfl) (by kernel_rfl) ?_
    repeat (go_big_quiet_step (first | exact H.out _ _ | exact H2.out _ _ | fail))
    refine wpQuiet_nil ?_
    intro w4 hw4
    have hb4 := Drw.cls_below (w := w) hw4
    clear hw4
    go_wp2
    go_ret
    exact ⟨by rw [hR.out]; rfl, hb4⟩
  cases p1
  · go_enter Tryz.func66, Tryz.ntmps66
    go_wp2_with fail
    refine wp_region_quiet_below (by kernel_rfl) (by kernel_rfl) ?_
    repeat (go_big_quiet_step (first | exact H.out _ _ | exact H2.out _ _ | fail))
    refine wpQuiet_nil ?_
    intro w4 hw4
    have hb4 := Drw.cls_below (w := w) hw4
    clear hw4
    go_wp2
    go_ret
    exact ⟨by rw [hR.out]; rfl, hb4⟩
  cases p2
  · go_enter Tryz.func66, Tryz.ntmps66
    go_wp2_with fail
    refine wp_region_quiet_below (by kernel_rfl) (by kernel_rfl) ?_
    repeat (go_big_quiet_step (first | exact H.out _ _ | exact H2.out _ _ | fail))
    refine wpQuiet_nil ?_
    intro w4 hw4
    have hb4 := Drw.cls_below (w := w) hw4
    clear hw4
    have HX4 := Lib.hid (HN.out.kept hb4)
    have HB4 := Lib.hid (HH3.out w4 hb4)
    clear c0 c1 c2 c3 c4 c5 c6 c7 g0 g2 g7 hb4
    obtain ⟨c0, c1, c2, c3, c4, c5, c6, c7⟩ := HX4.out.cells
    rw [HL.out] at c7
    have g2 := cell_regrown c2
    have g7 := cell_regrown c7
    go_wp2_with fail
    refine wp_region_quiet_below (by kernel_rfl) (by kernel_rfl) ?_
    repeat (go_big_quiet_step (first | exact HB4.out _ _ | fail))
    refine wpQuiet_nil ?_
    intro w5 hw5
    have hb5 := Drw.cls_below (w := w4) hw5
    have HX5 := Lib.hid (HX4.out.kept hb5)
    clear hw5 hb5 c0 c1 c2 c3 c4 c5 c6 c7 g2 g7
    obtain ⟨c0, c1, c2, c3, c4, c5, c6, c7⟩ := HX5.out.cells
    rw [HL.out] at c7
    have g2 := cell_regrown c2
    have g7 := cell_regrown c7
    go_wp2_with fail
    refine wp_region_quiet_below (by kernel_rfl) (by kernel_rfl) ?_
    repeat (go_big_quiet_step (fail))
    refine wpQuiet_nil ?_
    intro w6 hw6
    have hb6 := Drw.cls_below (w := w5) hw6
    have HX6 := Lib.hid (HX5.out.kept hb6)
    clear hw6 hb6 c0 c1 c2 c3 c4 c5 c6 c7 g2 g7
    go_wp2_with fail
    refine (HE.out _ HX6.out.kl).mono ?_
    rintro e w7 ⟨rfl, hb7⟩
    have HX7 := Lib.hid (HX6.out.kept hb7)
    clear hb7
    obtain ⟨c0, c1, c2, c3, c4, c5, c6, c7⟩ := HX7.out.cells
    go_wp2
    go_ret
    exact ⟨by rw [hR.out]; rfl, HX7.out.below⟩
  cases bl
  all_goals
    go_enter Tryz.func66, Tryz.ntmps66
    go_wp2_with fail
    refine wp_region_quiet_below (by kernel_rfl) (by kernel_rfl) ?_
    repeat (go_big_quiet_step (first | exact H.out _ _ | exact H2.out _ _ | fail))
    refine wpQuiet_nil ?_
    intro w4 hw4
    have hb4 := Drw.cls_below (w := w) hw4
    clear hw4
    have HX4 := Lib.hid (HN.out.kept hb4)
    have HB4 := Lib.hid (HH3.out w4 hb4)
    clear c0 c1 c2 c3 c4 c5 c6 c7 g0 g2 g7 hb4
    obtain ⟨c0, c1, c2, c3, c4, c5, c6, c7⟩ := HX4.out.cells
    rw [HL.out] at c7
    have g2 := cell_regrown c2
    have g7 := cell_regrown c7
    go_wp2_with fail
    refine wp_region_quiet_below (by kernel_rfl) (by kernel_rfl) ?_
    repeat (go_big_quiet_step (first | exact HB4.out _ _ | fail))
    refine wpQuiet_nil ?_
    intro w5 hw5
    have hb5 := Drw.cls_below (w := w4) hw5
    have HX5 := Lib.hid (HX4.out.kept hb5)
    clear hw5 hb5 c0 c1 c2 c3 c4 c5 c6 c7 g2 g7
    obtain ⟨c0, c1, c2, c3, c4, c5, c6, c7⟩ := HX5.out.cells
    rw [HL.out] at c7
    have g2 := cell_regrown c2
    have g7 := cell_regrown c7
    go_wp2_with fail
    refine wp_region_quiet_below (by kernel_rfl) (by kernel_rfl) ?_
    repeat (go_big_quiet_step (fail))
    refine wpQuiet_nil ?_
    intro w6 hw6
    have hb6 := Drw.cls_below (w := w5) hw6
    have HX6 := Lib.hid (HX5.out.kept hb6)
    clear hw6 hb6 c0 c1 c2 c3 c4 c5 c6 c7 g2 g7
    go_wp2_with fail
    refine (HE.out _ HX6.out.kl).mono ?_
    rintro e w7 ⟨rfl, hb7⟩
    have HX7 := Lib.hid (HX6.out.kept hb7)
    clear hb7
    obtain ⟨c0, c1, c2, c3, c4, c5, c6, c7⟩ := HX7.out.cells
    go_wp2
    go_ret
    exact ⟨by rw [hR.out]; rfl, HX7.out.below⟩
set_option maxHeartbeats 8000000 in
set_option maxRecDepth 100000 in
theorem let_1_7 (E : Tr → Bool) (d : Nd) (ks : List Tr) (hk : d.k = 7) (hn : d.n = 1) (hF : Fit (.mk d ks)) (ih : ∀ j, j < ks.length → Pays 62 E (ks.getD j tr0)) (S : Nat → Prop) (b o : Nat) (w : World) (hA : At w S (.mk d ks) b o) :
    Calls Tryz.prog 66 #[.pointer (some ⟨b, o, none⟩)] w fun e w' => e = .returned (.bool (letB E d ks 1)) ∧ Below w.heap.size w w' := by
  obtain ⟨a, c, hN⟩ := Nod.start hA
  have hlen := fit_len hF
  have hcap := hN.cap
  by_cases hL : ks.length = 1 + 1
  rotate_left
  · have hR : letB E d ks 1 = false := by unfold letB; rw [beq_false_of_ne hL]; rfl
    rw [hR]
    obtain ⟨k, tx, nn, ty, s4, s5, s6⟩ := d
    simp only at hn hk
    subst hn
    subst hk
    obtain ⟨c0, c1, c2, c3, c4, c5, c6, c7⟩ := hN.cells
    obtain ⟨L, hLL⟩ : ∃ L, ks.length = L := ⟨_, rfl⟩
    rw [hLL] at c7 hL hlen
    have f0 : ((L : Int) != 2) = true := by simp; omega
    have f1 : ((L : Int) == 2) = false := beq_false_of_ne (by omega)
    have g0 := cell_regrown c0
    have g2 := cell_regrown c2
    have g7 := cell_regrown c7
    clear hA hF hN ih hLL hL hcap hR
    go_enter Tryz.func66, Tryz.ntmps66
    go_wp2_with fail
    refine wp_region_quiet_below (by kernel_rfl) (by kernel_rfl) ?_
    repeat (go_big_quiet_step (fail))
    refine wpQuiet_nil ?_
    intro w4 hw4
    have hb4 := Drw.cls_below (w := w) hw4
    clear hw4
    go_wp2
    go_ret
    exact ⟨rfl, hb4⟩
  obtain ⟨kb, ko, rfl⟩ := kl_some hN.kl (by omega)
  obtain ⟨p0, hp0⟩ : ∃ x, hasB false false true d = x := ⟨_, rfl⟩
  obtain ⟨p1, hp1⟩ : ∃ x, (ks.take 1).all targetT = x := ⟨_, rfl⟩
  obtain ⟨p2, hp2⟩ : ∃ x, E (kn 1 ks) = x := ⟨_, rfl⟩
  obtain ⟨p3, hp3⟩ : ∃ x, recvB (kn 1 ks).d = x := ⟨_, rfl⟩
  obtain ⟨bl, hbl⟩ : ∃ x, (ks.take 1).all blankT = x := ⟨_, rfl⟩
  have hR : Hid (letB E d ks 1 = (p0 && (p1 && (p2 && (!(bl && false)))))) := by
    show letB E d ks 1 = _
    unfold letB
    rw [hL, hp0, hp1, hp2, hp3, hbl, hk]
    simp
  have hnl : 1 < ks.length := by omega
  have H := reg (w := w) (f := 24) (args := #[.pointer (some ⟨b, o, none⟩), .int .i64 4]) (v := .bool p0) fun W hb => by
    obtain ⟨x0, x1, x2, x3, _⟩ := (hN.kept hb).cells
    have := same_below (has_4 d b o W x0 x1 x2 x3)
    rw [hp0] at this; exact this
  have H2 := reg (w := w) (f := 25) (args := #[.slice (some ⟨kb, ko, none⟩) 1 c, .func (.func 111) #[] #[]]) (v := .bool p1) fun W hb => by
    have := all_take enters_target (p := targetT) (some ⟨kb, ko, none⟩) c 1 (by omega) hlen (fun j hj => target_pays _ (fit_kid hF (by omega))) W (hN.kept hb).kl
    rw [hp1] at this; exact this
  have H3 : ∀ w4, Below w.heap.size w w4 → Hid (∀ (dd : Nat) (os : Array Obj), Calls Tryz.prog 25 #[.slice (some ⟨kb, ko, none⟩) 1 c, .func (.func 112) #[] #[]] (grow (redrawn w4 dd) os) fun e w'' => e = .returned (.bool bl) ∧ ∃ p : Regrown, w'' = grow (redrawn w4 p.d) p.os) := fun w4 hb4 => reg (w := w4) (f := 25) (args := #[.slice (some ⟨kb, ko, none⟩) 1 c, .func (.func 112) #[] #[]]) (v := .bool bl) fun W hb => by
    have := all_take enters_blank (p := blankT) (some ⟨kb, ko, none⟩) c 1 (by omega) hlen (fun j hj => blank_pays _) W ((hN.kept hb4).kept hb).kl
    rw [hbl] at this; exact this
  have hE := ih 1 hnl
  rw [show ks.getD 1 tr0 = kn 1 ks from rfl] at hE
  unfold Pays at hE
  have hEE := fun W (h : KL W (fun _ => True) ks (some ⟨kb, ko, none⟩)) => hE _ _ _ W (kl_at h hnl)
  rw [hp2] at hEE
  have hRC := fun W (h : KL W (fun _ => True) ks (some ⟨kb, ko, none⟩)) => receive_any (kn 1 ks).d kb (ko + 1 * 8) W (kl_at h hnl).cells.choose_spec.choose_spec.2.1 (kl_at h hnl).cells.choose_spec.choose_spec.2.2.1
  rw [hp3] at hRC
  have HE := Lib.hid hEE
  have HRC := Lib.hid hRC
  have HN := Lib.hid hN
  have HH3 := Lib.hid H3
  obtain ⟨k, tx, nn, ty, s4, s5, s6⟩ := d
  simp only at hn hk
  subst hn
  subst hk
  obtain ⟨c0, c1, c2, c3, c4, c5, c6, c7⟩ := hN.cells
  rw [hL] at c7 hlen hcap
  have HL := Lib.hid hL
  have g0 := cell_regrown c0
  have g2 := cell_regrown c2
  have g7 := cell_regrown c7
  have hmc : 1 ≤ c := by omega
  have hmci : (1 : Int) ≤ (c : Int) := by omega
  have hlt := hN.lt
  clear hA hF hN ih hL hp0 hp1 hp2 hp3 hbl hE hEE hRC hnl H3
  cases p0
  · go_enter Tryz.func66, Tryz.ntmps66
    go_wp2_with fail
    refine wp_region_quiet_below (by kernel_rfl) (by kernel_rfl) ?_
    repeat (go_big_quiet_step (first | exact H.out _ _ | exact H2.out _ _ | fail))
    refine wpQuiet_nil ?_
    intro w4 hw4
    have hb4 := Drw.cls_below (w := w) hw4
    clear hw4
    go_wp2
    go_ret
    exact ⟨by rw [hR.out]; rfl, hb4⟩
  cases p1
  · go_enter Tryz.func66, Tryz.ntmps66
    go_wp2_with fail
    refine wp_region_quiet_below (by kernel_rfl) (by kernel_rfl) ?_
    repeat (go_big_quiet_step (first | exact H.out _ _ | exact H2.out _ _ | fail))
    refine wpQuiet_nil ?_
    intro w4 hw4
    have hb4 := Drw.cls_below (w := w) hw4
    clear hw4
    go_wp2
    go_ret
    exact ⟨by rw [hR.out]; rfl, hb4⟩
  cases p2
  · go_enter Tryz.func66, Tryz.ntmps66
    go_wp2_with fail
    refine wp_region_quiet_below (by kernel_rfl) (by kernel_rfl) ?_
    repeat (go_big_quiet_step (first | exact H.out _ _ | exact H2.out _ _ | fail))
    refine wpQuiet_nil ?_
    intro w4 hw4
    have hb4 := Drw.cls_below (w := w) hw4
    clear hw4
    have HX4 := Lib.hid (HN.out.kept hb4)
    have HB4 := Lib.hid (HH3.out w4 hb4)
    clear c0 c1 c2 c3 c4 c5 c6 c7 g0 g2 g7 hb4
    obtain ⟨c0, c1, c2, c3, c4, c5, c6, c7⟩ := HX4.out.cells
    rw [HL.out] at c7
    have g2 := cell_regrown c2
    have g7 := cell_regrown c7
    go_wp2_with fail
    refine wp_region_quiet_below (by kernel_rfl) (by kernel_rfl) ?_
    repeat (go_big_quiet_step (first | exact HB4.out _ _ | fail))
    refine wpQuiet_nil ?_
    intro w5 hw5
    have hb5 := Drw.cls_below (w := w4) hw5
    have HX5 := Lib.hid (HX4.out.kept hb5)
    clear hw5 hb5 c0 c1 c2 c3 c4 c5 c6 c7 g2 g7
    obtain ⟨c0, c1, c2, c3, c4, c5, c6, c7⟩ := HX5.out.cells
    rw [HL.out] at c7
    have g2 := cell_regrown c2
    have g7 := cell_regrown c7
    go_wp2_with fail
    refine wp_region_quiet_below (by kernel_rfl) (by kernel_rfl) ?_
    repeat (go_big_quiet_step (fail))
    refine wpQuiet_nil ?_
    intro w6 hw6
    have hb6 := Drw.cls_below (w := w5) hw6
    have HX6 := Lib.hid (HX5.out.kept hb6)
    clear hw6 hb6 c0 c1 c2 c3 c4 c5 c6 c7 g2 g7
    go_wp2_with fail
    refine (HE.out _ HX6.out.kl).mono ?_
    rintro e w7 ⟨rfl, hb7⟩
    have HX7 := Lib.hid (HX6.out.kept hb7)
    clear hb7
    obtain ⟨c0, c1, c2, c3, c4, c5, c6, c7⟩ := HX7.out.cells
    go_wp2
    go_ret
    exact ⟨by rw [hR.out]; rfl, HX7.out.below⟩
  cases bl
  all_goals
    go_enter Tryz.func66, Tryz.ntmps66
    go_wp2_with fail
    refine wp_region_quiet_below (by kernel_rfl) (by kernel_rfl) ?_
    repeat (go_big_quiet_step (first | exact H.out _ _ | exact H2.out _ _ | fail))
    refine wpQuiet_nil ?_
    intro w4 hw4
    have hb4 := Drw.cls_below (w := w) hw4
    clear hw4
    have HX4 := Lib.hid (HN.out.kept hb4)
    have HB4 := Lib.hid (HH3.out w4 hb4)
    clear c0 c1 c2 c3 c4 c5 c6 c7 g0 g2 g7 hb4
    obtain ⟨c0, c1, c2, c3, c4, c5, c6, c7⟩ := HX4.out.cells
    rw [HL.out] at c7
    have g2 := cell_regrown c2
    have g7 := cell_regrown c7
    go_wp2_with fail
    refine wp_region_quiet_below (by kernel_rfl) (by kernel_rfl) ?_
    repeat (go_big_quiet_step (first | exact HB4.out _ _ | fail))
    refine wpQuiet_nil ?_
    intro w5 hw5
    have hb5 := Drw.cls_below (w := w4) hw5
    have HX5 := Lib.hid (HX4.out.kept hb5)
    clear hw5 hb5 c0 c1 c2 c3 c4 c5 c6 c7 g2 g7
    obtain ⟨c0, c1, c2, c3, c4, c5, c6, c7⟩ := HX5.out.cells
    rw [HL.out] at c7
    have g2 := cell_regrown c2
    have g7 := cell_regrown c7
    go_wp2_with fail
    refine wp_region_quiet_below (by kernel_rfl) (by kernel_rfl) ?_
    repeat (go_big_quiet_step (fail))
    refine wpQuiet_nil ?_
    intro w6 hw6
    have hb6 := Drw.cls_below (w := w5) hw6
    have HX6 := Lib.hid (HX5.out.kept hb6)
    clear hw6 hb6 c0 c1 c2 c3 c4 c5 c6 c7 g2 g7
    go_wp2_with fail
    refine (HE.out _ HX6.out.kl).mono ?_
    rintro e w7 ⟨rfl, hb7⟩
    have HX7 := Lib.hid (HX6.out.kept hb7)
    clear hb7
    obtain ⟨c0, c1, c2, c3, c4, c5, c6, c7⟩ := HX7.out.cells
    go_wp2
    go_ret
    exact ⟨by rw [hR.out]; rfl, HX7.out.below⟩
set_option maxHeartbeats 8000000 in
set_option maxRecDepth 100000 in
theorem let_2_6 (E : Tr → Bool) (d : Nd) (ks : List Tr) (hk : d.k = 6) (hn : d.n = 2) (hF : Fit (.mk d ks)) (ih : ∀ j, j < ks.length → Pays 62 E (ks.getD j tr0)) (S : Nat → Prop) (b o : Nat) (w : World) (hA : At w S (.mk d ks) b o) :
    Calls Tryz.prog 66 #[.pointer (some ⟨b, o, none⟩)] w fun e w' => e = .returned (.bool (letB E d ks 2)) ∧ Below w.heap.size w w' := by
  obtain ⟨a, c, hN⟩ := Nod.start hA
  have hlen := fit_len hF
  have hcap := hN.cap
  by_cases hL : ks.length = 2 + 1
  rotate_left
  · have hR : letB E d ks 2 = false := by unfold letB; rw [beq_false_of_ne hL]; rfl
    rw [hR]
    obtain ⟨k, tx, nn, ty, s4, s5, s6⟩ := d
    simp only at hn hk
    subst hn
    subst hk
    obtain ⟨c0, c1, c2, c3, c4, c5, c6, c7⟩ := hN.cells
    obtain ⟨L, hLL⟩ : ∃ L, ks.length = L := ⟨_, rfl⟩
    rw [hLL] at c7 hL hlen
    have f0 : ((L : Int) != 3) = true := by simp; omega
    have f1 : ((L : Int) == 3) = false := beq_false_of_ne (by omega)
    have g0 := cell_regrown c0
    have g2 := cell_regrown c2
    have g7 := cell_regrown c7
    clear hA hF hN ih hLL hL hcap hR
    go_enter Tryz.func66, Tryz.ntmps66
    go_wp2_with fail
    refine wp_region_quiet_below (by kernel_rfl) (by kernel_rfl) ?_
    repeat (go_big_quiet_step (fail))
    refine wpQuiet_nil ?_
    intro w4 hw4
    have hb4 := Drw.cls_below (w := w) hw4
    clear hw4
    go_wp2
    go_ret
    exact ⟨rfl, hb4⟩
  obtain ⟨kb, ko, rfl⟩ := kl_some hN.kl (by omega)
  obtain ⟨p0, hp0⟩ : ∃ x, hasB false false true d = x := ⟨_, rfl⟩
  obtain ⟨p1, hp1⟩ : ∃ x, (ks.take 2).all targetT = x := ⟨_, rfl⟩
  obtain ⟨p2, hp2⟩ : ∃ x, E (kn 2 ks) = x := ⟨_, rfl⟩
  obtain ⟨p3, hp3⟩ : ∃ x, recvB (kn 2 ks).d = x := ⟨_, rfl⟩
  obtain ⟨bl, hbl⟩ : ∃ x, (ks.take 2).all blankT = x := ⟨_, rfl⟩
  have hR : Hid (letB E d ks 2 = (p0 && (p1 && (p2 && (p3 && !(bl && true)))))) := by
    show letB E d ks 2 = _
    unfold letB
    rw [hL, hp0, hp1, hp2, hp3, hbl, hk]
    simp
  have hnl : 2 < ks.length := by omega
  have H := reg (w := w) (f := 24) (args := #[.pointer (some ⟨b, o, none⟩), .int .i64 4]) (v := .bool p0) fun W hb => by
    obtain ⟨x0, x1, x2, x3, _⟩ := (hN.kept hb).cells
    have := same_below (has_4 d b o W x0 x1 x2 x3)
    rw [hp0] at this; exact this
  have H2 := reg (w := w) (f := 25) (args := #[.slice (some ⟨kb, ko, none⟩) 2 c, .func (.func 111) #[] #[]]) (v := .bool p1) fun W hb => by
    have := all_take enters_target (p := targetT) (some ⟨kb, ko, none⟩) c 2 (by omega) hlen (fun j hj => target_pays _ (fit_kid hF (by omega))) W (hN.kept hb).kl
    rw [hp1] at this; exact this
  have H3 : ∀ w4, Below w.heap.size w w4 → Hid (∀ (dd : Nat) (os : Array Obj), Calls Tryz.prog 25 #[.slice (some ⟨kb, ko, none⟩) 2 c, .func (.func 112) #[] #[]] (grow (redrawn w4 dd) os) fun e w'' => e = .returned (.bool bl) ∧ ∃ p : Regrown, w'' = grow (redrawn w4 p.d) p.os) := fun w4 hb4 => reg (w := w4) (f := 25) (args := #[.slice (some ⟨kb, ko, none⟩) 2 c, .func (.func 112) #[] #[]]) (v := .bool bl) fun W hb => by
    have := all_take enters_blank (p := blankT) (some ⟨kb, ko, none⟩) c 2 (by omega) hlen (fun j hj => blank_pays _) W ((hN.kept hb4).kept hb).kl
    rw [hbl] at this; exact this
  have hE := ih 2 hnl
  rw [show ks.getD 2 tr0 = kn 2 ks from rfl] at hE
  unfold Pays at hE
  have hEE := fun W (h : KL W (fun _ => True) ks (some ⟨kb, ko, none⟩)) => hE _ _ _ W (kl_at h hnl)
  rw [hp2] at hEE
  have hRC := fun W (h : KL W (fun _ => True) ks (some ⟨kb, ko, none⟩)) => receive_any (kn 2 ks).d kb (ko + 2 * 8) W (kl_at h hnl).cells.choose_spec.choose_spec.2.1 (kl_at h hnl).cells.choose_spec.choose_spec.2.2.1
  rw [hp3] at hRC
  have HE := Lib.hid hEE
  have HRC := Lib.hid hRC
  have HN := Lib.hid hN
  have HH3 := Lib.hid H3
  obtain ⟨k, tx, nn, ty, s4, s5, s6⟩ := d
  simp only at hn hk
  subst hn
  subst hk
  obtain ⟨c0, c1, c2, c3, c4, c5, c6, c7⟩ := hN.cells
  rw [hL] at c7 hlen hcap
  have HL := Lib.hid hL
  have g0 := cell_regrown c0
  have g2 := cell_regrown c2
  have g7 := cell_regrown c7
  have hmc : 2 ≤ c := by omega
  have hmci : (2 : Int) ≤ (c : Int) := by omega
  have hlt := hN.lt
  clear hA hF hN ih hL hp0 hp1 hp2 hp3 hbl hE hEE hRC hnl H3
  cases p0
  · go_enter Tryz.func66, Tryz.ntmps66
    go_wp2_with fail
    refine wp_region_quiet_below (by kernel_rfl) (by kernel_rfl) ?_
    repeat (go_big_quiet_step (first | exact H.out _ _ | exact H2.out _ _ | fail))
    refine wpQuiet_nil ?_
    intro w4 hw4
    have hb4 := Drw.cls_below (w := w) hw4
    clear hw4
    go_wp2
    go_ret
    exact ⟨by rw [hR.out]; rfl, hb4⟩
  cases p1
  · go_enter Tryz.func66, Tryz.ntmps66
    go_wp2_with fail
    refine wp_region_quiet_below (by kernel_rfl) (by kernel_rfl) ?_
    repeat (go_big_quiet_step (first | exact H.out _ _ | exact H2.out _ _ | fail))
    refine wpQuiet_nil ?_
    intro w4 hw4
    have hb4 := Drw.cls_below (w := w) hw4
    clear hw4
    go_wp2
    go_ret
    exact ⟨by rw [hR.out]; rfl, hb4⟩
  cases p2
  · go_enter Tryz.func66, Tryz.ntmps66
    go_wp2_with fail
    refine wp_region_quiet_below (by kernel_rfl) (by kernel_rfl) ?_
    repeat (go_big_quiet_step (first | exact H.out _ _ | exact H2.out _ _ | fail))
    refine wpQuiet_nil ?_
    intro w4 hw4
    have hb4 := Drw.cls_below (w := w) hw4
    clear hw4
    have HX4 := Lib.hid (HN.out.kept hb4)
    have HB4 := Lib.hid (HH3.out w4 hb4)
    clear c0 c1 c2 c3 c4 c5 c6 c7 g0 g2 g7 hb4
    obtain ⟨c0, c1, c2, c3, c4, c5, c6, c7⟩ := HX4.out.cells
    rw [HL.out] at c7
    have g2 := cell_regrown c2
    have g7 := cell_regrown c7
    go_wp2_with fail
    refine wp_region_quiet_below (by kernel_rfl) (by kernel_rfl) ?_
    repeat (go_big_quiet_step (first | exact HB4.out _ _ | fail))
    refine wpQuiet_nil ?_
    intro w5 hw5
    have hb5 := Drw.cls_below (w := w4) hw5
    have HX5 := Lib.hid (HX4.out.kept hb5)
    clear hw5 hb5 c0 c1 c2 c3 c4 c5 c6 c7 g2 g7
    obtain ⟨c0, c1, c2, c3, c4, c5, c6, c7⟩ := HX5.out.cells
    rw [HL.out] at c7
    have g2 := cell_regrown c2
    have g7 := cell_regrown c7
    go_wp2_with fail
    refine wp_region_quiet_below (by kernel_rfl) (by kernel_rfl) ?_
    repeat (go_big_quiet_step (fail))
    refine wpQuiet_nil ?_
    intro w6 hw6
    have hb6 := Drw.cls_below (w := w5) hw6
    have HX6 := Lib.hid (HX5.out.kept hb6)
    clear hw6 hb6 c0 c1 c2 c3 c4 c5 c6 c7 g2 g7
    go_wp2_with fail
    refine (HE.out _ HX6.out.kl).mono ?_
    rintro e w7 ⟨rfl, hb7⟩
    have HX7 := Lib.hid (HX6.out.kept hb7)
    clear hb7
    obtain ⟨c0, c1, c2, c3, c4, c5, c6, c7⟩ := HX7.out.cells
    go_wp2
    go_ret
    exact ⟨by rw [hR.out]; rfl, HX7.out.below⟩
  cases p3
  · go_enter Tryz.func66, Tryz.ntmps66
    go_wp2_with fail
    refine wp_region_quiet_below (by kernel_rfl) (by kernel_rfl) ?_
    repeat (go_big_quiet_step (first | exact H.out _ _ | exact H2.out _ _ | fail))
    refine wpQuiet_nil ?_
    intro w4 hw4
    have hb4 := Drw.cls_below (w := w) hw4
    clear hw4
    have HX4 := Lib.hid (HN.out.kept hb4)
    have HB4 := Lib.hid (HH3.out w4 hb4)
    clear c0 c1 c2 c3 c4 c5 c6 c7 g0 g2 g7 hb4
    obtain ⟨c0, c1, c2, c3, c4, c5, c6, c7⟩ := HX4.out.cells
    rw [HL.out] at c7
    have g2 := cell_regrown c2
    have g7 := cell_regrown c7
    go_wp2_with fail
    refine wp_region_quiet_below (by kernel_rfl) (by kernel_rfl) ?_
    repeat (go_big_quiet_step (first | exact HB4.out _ _ | fail))
    refine wpQuiet_nil ?_
    intro w5 hw5
    have hb5 := Drw.cls_below (w := w4) hw5
    have HX5 := Lib.hid (HX4.out.kept hb5)
    clear hw5 hb5 c0 c1 c2 c3 c4 c5 c6 c7 g2 g7
    obtain ⟨c0, c1, c2, c3, c4, c5, c6, c7⟩ := HX5.out.cells
    rw [HL.out] at c7
    have g2 := cell_regrown c2
    have g7 := cell_regrown c7
    go_wp2_with fail
    refine wp_region_quiet_below (by kernel_rfl) (by kernel_rfl) ?_
    repeat (go_big_quiet_step (fail))
    refine wpQuiet_nil ?_
    intro w6 hw6
    have hb6 := Drw.cls_below (w := w5) hw6
    have HX6 := Lib.hid (HX5.out.kept hb6)
    clear hw6 hb6 c0 c1 c2 c3 c4 c5 c6 c7 g2 g7
    go_wp2_with fail
    refine (HE.out _ HX6.out.kl).mono ?_
    rintro e w7 ⟨rfl, hb7⟩
    have HX7 := Lib.hid (HX6.out.kept hb7)
    clear hb7
    obtain ⟨c0, c1, c2, c3, c4, c5, c6, c7⟩ := HX7.out.cells
    go_wp2_with fail
    refine (HRC.out _ HX7.out.kl).mono ?_
    rintro e w8 ⟨rfl, rfl⟩
    go_wp2
    go_ret
    exact ⟨by rw [hR.out]; rfl, HX7.out.below⟩
  cases bl
  all_goals
    go_enter Tryz.func66, Tryz.ntmps66
    go_wp2_with fail
    refine wp_region_quiet_below (by kernel_rfl) (by kernel_rfl) ?_
    repeat (go_big_quiet_step (first | exact H.out _ _ | exact H2.out _ _ | fail))
    refine wpQuiet_nil ?_
    intro w4 hw4
    have hb4 := Drw.cls_below (w := w) hw4
    clear hw4
    have HX4 := Lib.hid (HN.out.kept hb4)
    have HB4 := Lib.hid (HH3.out w4 hb4)
    clear c0 c1 c2 c3 c4 c5 c6 c7 g0 g2 g7 hb4
    obtain ⟨c0, c1, c2, c3, c4, c5, c6, c7⟩ := HX4.out.cells
    rw [HL.out] at c7
    have g2 := cell_regrown c2
    have g7 := cell_regrown c7
    go_wp2_with fail
    refine wp_region_quiet_below (by kernel_rfl) (by kernel_rfl) ?_
    repeat (go_big_quiet_step (first | exact HB4.out _ _ | fail))
    refine wpQuiet_nil ?_
    intro w5 hw5
    have hb5 := Drw.cls_below (w := w4) hw5
    have HX5 := Lib.hid (HX4.out.kept hb5)
    clear hw5 hb5 c0 c1 c2 c3 c4 c5 c6 c7 g2 g7
    obtain ⟨c0, c1, c2, c3, c4, c5, c6, c7⟩ := HX5.out.cells
    rw [HL.out] at c7
    have g2 := cell_regrown c2
    have g7 := cell_regrown c7
    go_wp2_with fail
    refine wp_region_quiet_below (by kernel_rfl) (by kernel_rfl) ?_
    repeat (go_big_quiet_step (fail))
    refine wpQuiet_nil ?_
    intro w6 hw6
    have hb6 := Drw.cls_below (w := w5) hw6
    have HX6 := Lib.hid (HX5.out.kept hb6)
    clear hw6 hb6 c0 c1 c2 c3 c4 c5 c6 c7 g2 g7
    go_wp2_with fail
    refine (HE.out _ HX6.out.kl).mono ?_
    rintro e w7 ⟨rfl, hb7⟩
    have HX7 := Lib.hid (HX6.out.kept hb7)
    clear hb7
    obtain ⟨c0, c1, c2, c3, c4, c5, c6, c7⟩ := HX7.out.cells
    go_wp2_with fail
    refine (HRC.out _ HX7.out.kl).mono ?_
    rintro e w8 ⟨rfl, rfl⟩
    go_wp2
    go_ret
    exact ⟨by rw [hR.out]; rfl, HX7.out.below⟩
set_option maxHeartbeats 8000000 in
set_option maxRecDepth 100000 in
theorem let_2_7 (E : Tr → Bool) (d : Nd) (ks : List Tr) (hk : d.k = 7) (hn : d.n = 2) (hF : Fit (.mk d ks)) (ih : ∀ j, j < ks.length → Pays 62 E (ks.getD j tr0)) (S : Nat → Prop) (b o : Nat) (w : World) (hA : At w S (.mk d ks) b o) :
    Calls Tryz.prog 66 #[.pointer (some ⟨b, o, none⟩)] w fun e w' => e = .returned (.bool (letB E d ks 2)) ∧ Below w.heap.size w w' := by
  obtain ⟨a, c, hN⟩ := Nod.start hA
  have hlen := fit_len hF
  have hcap := hN.cap
  by_cases hL : ks.length = 2 + 1
  rotate_left
  · have hR : letB E d ks 2 = false := by unfold letB; rw [beq_false_of_ne hL]; rfl
    rw [hR]
    obtain ⟨k, tx, nn, ty, s4, s5, s6⟩ := d
    simp only at hn hk
    subst hn
    subst hk
    obtain ⟨c0, c1, c2, c3, c4, c5, c6, c7⟩ := hN.cells
    obtain ⟨L, hLL⟩ : ∃ L, ks.length = L := ⟨_, rfl⟩
    rw [hLL] at c7 hL hlen
    have f0 : ((L : Int) != 3) = true := by simp; omega
    have f1 : ((L : Int) == 3) = false := beq_false_of_ne (by omega)
    have g0 := cell_regrown c0
    have g2 := cell_regrown c2
    have g7 := cell_regrown c7
    clear hA hF hN ih hLL hL hcap hR
    go_enter Tryz.func66, Tryz.ntmps66
    go_wp2_with fail
    refine wp_region_quiet_below (by kernel_rfl) (by kernel_rfl) ?_
    repeat (go_big_quiet_step (fail))
    refine wpQuiet_nil ?_
    intro w4 hw4
    have hb4 := Drw.cls_below (w := w) hw4
    clear hw4
    go_wp2
    go_ret
    exact ⟨rfl, hb4⟩
  obtain ⟨kb, ko, rfl⟩ := kl_some hN.kl (by omega)
  obtain ⟨p0, hp0⟩ : ∃ x, hasB false false true d = x := ⟨_, rfl⟩
  obtain ⟨p1, hp1⟩ : ∃ x, (ks.take 2).all targetT = x := ⟨_, rfl⟩
  obtain ⟨p2, hp2⟩ : ∃ x, E (kn 2 ks) = x := ⟨_, rfl⟩
  obtain ⟨p3, hp3⟩ : ∃ x, recvB (kn 2 ks).d = x := ⟨_, rfl⟩
  obtain ⟨bl, hbl⟩ : ∃ x, (ks.take 2).all blankT = x := ⟨_, rfl⟩
  have hR : Hid (letB E d ks 2 = (p0 && (p1 && (p2 && (p3 && !(bl && false)))))) := by
    show letB E d ks 2 = _
    unfold letB
    rw [hL, hp0, hp1, hp2, hp3, hbl, hk]
    simp
  have hnl : 2 < ks.length := by omega
  have H := reg (w := w) (f := 24) (args := #[.pointer (some ⟨b, o, none⟩), .int .i64 4]) (v := .bool p0) fun W hb => by
    obtain ⟨x0, x1, x2, x3, _⟩ := (hN.kept hb).cells
    have := same_below (has_4 d b o W x0 x1 x2 x3)
    rw [hp0] at this; exact this
  have H2 := reg (w := w) (f := 25) (args := #[.slice (some ⟨kb, ko, none⟩) 2 c, .func (.func 111) #[] #[]]) (v := .bool p1) fun W hb => by
    have := all_take enters_target (p := targetT) (some ⟨kb, ko, none⟩) c 2 (by omega) hlen (fun j hj => target_pays _ (fit_kid hF (by omega))) W (hN.kept hb).kl
    rw [hp1] at this; exact this
  have H3 : ∀ w4, Below w.heap.size w w4 → Hid (∀ (dd : Nat) (os : Array Obj), Calls Tryz.prog 25 #[.slice (some ⟨kb, ko, none⟩) 2 c, .func (.func 112) #[] #[]] (grow (redrawn w4 dd) os) fun e w'' => e = .returned (.bool bl) ∧ ∃ p : Regrown, w'' = grow (redrawn w4 p.d) p.os) := fun w4 hb4 => reg (w := w4) (f := 25) (args := #[.slice (some ⟨kb, ko, none⟩) 2 c, .func (.func 112) #[] #[]]) (v := .bool bl) fun W hb => by
    have := all_take enters_blank (p := blankT) (some ⟨kb, ko, none⟩) c 2 (by omega) hlen (fun j hj => blank_pays _) W ((hN.kept hb4).kept hb).kl
    rw [hbl] at this; exact this
  have hE := ih 2 hnl
  rw [show ks.getD 2 tr0 = kn 2 ks from rfl] at hE
  unfold Pays at hE
  have hEE := fun W (h : KL W (fun _ => True) ks (some ⟨kb, ko, none⟩)) => hE _ _ _ W (kl_at h hnl)
  rw [hp2] at hEE
  have hRC := fun W (h : KL W (fun _ => True) ks (some ⟨kb, ko, none⟩)) => receive_any (kn 2 ks).d kb (ko + 2 * 8) W (kl_at h hnl).cells.choose_spec.choose_spec.2.1 (kl_at h hnl).cells.choose_spec.choose_spec.2.2.1
  rw [hp3] at hRC
  have HE := Lib.hid hEE
  have HRC := Lib.hid hRC
  have HN := Lib.hid hN
  have HH3 := Lib.hid H3
  obtain ⟨k, tx, nn, ty, s4, s5, s6⟩ := d
  simp only at hn hk
  subst hn
  subst hk
  obtain ⟨c0, c1, c2, c3, c4, c5, c6, c7⟩ := hN.cells
  rw [hL] at c7 hlen hcap
  have HL := Lib.hid hL
  have g0 := cell_regrown c0
  have g2 := cell_regrown c2
  have g7 := cell_regrown c7
  have hmc : 2 ≤ c := by omega
  have hmci : (2 : Int) ≤ (c : Int) := by omega
  have hlt := hN.lt
  clear hA hF hN ih hL hp0 hp1 hp2 hp3 hbl hE hEE hRC hnl H3
  cases p0
  · go_enter Tryz.func66, Tryz.ntmps66
    go_wp2_with fail
    refine wp_region_quiet_below (by kernel_rfl) (by kernel_rfl) ?_
    repeat (go_big_quiet_step (first | exact H.out _ _ | exact H2.out _ _ | fail))
    refine wpQuiet_nil ?_
    intro w4 hw4
    have hb4 := Drw.cls_below (w := w) hw4
    clear hw4
    go_wp2
    go_ret
    exact ⟨by rw [hR.out]; rfl, hb4⟩
  cases p1
  · go_enter Tryz.func66, Tryz.ntmps66
    go_wp2_with fail
    refine wp_region_quiet_below (by kernel_rfl) (by kernel_rfl) ?_
    repeat (go_big_quiet_step (first | exact H.out _ _ | exact H2.out _ _ | fail))
    refine wpQuiet_nil ?_
    intro w4 hw4
    have hb4 := Drw.cls_below (w := w) hw4
    clear hw4
    go_wp2
    go_ret
    exact ⟨by rw [hR.out]; rfl, hb4⟩
  cases p2
  · go_enter Tryz.func66, Tryz.ntmps66
    go_wp2_with fail
    refine wp_region_quiet_below (by kernel_rfl) (by kernel_rfl) ?_
    repeat (go_big_quiet_step (first | exact H.out _ _ | exact H2.out _ _ | fail))
    refine wpQuiet_nil ?_
    intro w4 hw4
    have hb4 := Drw.cls_below (w := w) hw4
    clear hw4
    have HX4 := Lib.hid (HN.out.kept hb4)
    have HB4 := Lib.hid (HH3.out w4 hb4)
    clear c0 c1 c2 c3 c4 c5 c6 c7 g0 g2 g7 hb4
    obtain ⟨c0, c1, c2, c3, c4, c5, c6, c7⟩ := HX4.out.cells
    rw [HL.out] at c7
    have g2 := cell_regrown c2
    have g7 := cell_regrown c7
    go_wp2_with fail
    refine wp_region_quiet_below (by kernel_rfl) (by kernel_rfl) ?_
    repeat (go_big_quiet_step (first | exact HB4.out _ _ | fail))
    refine wpQuiet_nil ?_
    intro w5 hw5
    have hb5 := Drw.cls_below (w := w4) hw5
    have HX5 := Lib.hid (HX4.out.kept hb5)
    clear hw5 hb5 c0 c1 c2 c3 c4 c5 c6 c7 g2 g7
    obtain ⟨c0, c1, c2, c3, c4, c5, c6, c7⟩ := HX5.out.cells
    rw [HL.out] at c7
    have g2 := cell_regrown c2
    have g7 := cell_regrown c7
    go_wp2_with fail
    refine wp_region_quiet_below (by kernel_rfl) (by kernel_rfl) ?_
    repeat (go_big_quiet_step (fail))
    refine wpQuiet_nil ?_
    intro w6 hw6
    have hb6 := Drw.cls_below (w := w5) hw6
    have HX6 := Lib.hid (HX5.out.kept hb6)
    clear hw6 hb6 c0 c1 c2 c3 c4 c5 c6 c7 g2 g7
    go_wp2_with fail
    refine (HE.out _ HX6.out.kl).mono ?_
    rintro e w7 ⟨rfl, hb7⟩
    have HX7 := Lib.hid (HX6.out.kept hb7)
    clear hb7
    obtain ⟨c0, c1, c2, c3, c4, c5, c6, c7⟩ := HX7.out.cells
    go_wp2
    go_ret
    exact ⟨by rw [hR.out]; rfl, HX7.out.below⟩
  cases p3
  · go_enter Tryz.func66, Tryz.ntmps66
    go_wp2_with fail
    refine wp_region_quiet_below (by kernel_rfl) (by kernel_rfl) ?_
    repeat (go_big_quiet_step (first | exact H.out _ _ | exact H2.out _ _ | fail))
    refine wpQuiet_nil ?_
    intro w4 hw4
    have hb4 := Drw.cls_below (w := w) hw4
    clear hw4
    have HX4 := Lib.hid (HN.out.kept hb4)
    have HB4 := Lib.hid (HH3.out w4 hb4)
    clear c0 c1 c2 c3 c4 c5 c6 c7 g0 g2 g7 hb4
    obtain ⟨c0, c1, c2, c3, c4, c5, c6, c7⟩ := HX4.out.cells
    rw [HL.out] at c7
    have g2 := cell_regrown c2
    have g7 := cell_regrown c7
    go_wp2_with fail
    refine wp_region_quiet_below (by kernel_rfl) (by kernel_rfl) ?_
    repeat (go_big_quiet_step (first | exact HB4.out _ _ | fail))
    refine wpQuiet_nil ?_
    intro w5 hw5
    have hb5 := Drw.cls_below (w := w4) hw5
    have HX5 := Lib.hid (HX4.out.kept hb5)
    clear hw5 hb5 c0 c1 c2 c3 c4 c5 c6 c7 g2 g7
    obtain ⟨c0, c1, c2, c3, c4, c5, c6, c7⟩ := HX5.out.cells
    rw [HL.out] at c7
    have g2 := cell_regrown c2
    have g7 := cell_regrown c7
    go_wp2_with fail
    refine wp_region_quiet_below (by kernel_rfl) (by kernel_rfl) ?_
    repeat (go_big_quiet_step (fail))
    refine wpQuiet_nil ?_
    intro w6 hw6
    have hb6 := Drw.cls_below (w := w5) hw6
    have HX6 := Lib.hid (HX5.out.kept hb6)
    clear hw6 hb6 c0 c1 c2 c3 c4 c5 c6 c7 g2 g7
    go_wp2_with fail
    refine (HE.out _ HX6.out.kl).mono ?_
    rintro e w7 ⟨rfl, hb7⟩
    have HX7 := Lib.hid (HX6.out.kept hb7)
    clear hb7
    obtain ⟨c0, c1, c2, c3, c4, c5, c6, c7⟩ := HX7.out.cells
    go_wp2_with fail
    refine (HRC.out _ HX7.out.kl).mono ?_
    rintro e w8 ⟨rfl, rfl⟩
    go_wp2
    go_ret
    exact ⟨by rw [hR.out]; rfl, HX7.out.below⟩
  cases bl
  all_goals
    go_enter Tryz.func66, Tryz.ntmps66
    go_wp2_with fail
    refine wp_region_quiet_below (by kernel_rfl) (by kernel_rfl) ?_
    repeat (go_big_quiet_step (first | exact H.out _ _ | exact H2.out _ _ | fail))
    refine wpQuiet_nil ?_
    intro w4 hw4
    have hb4 := Drw.cls_below (w := w) hw4
    clear hw4
    have HX4 := Lib.hid (HN.out.kept hb4)
    have HB4 := Lib.hid (HH3.out w4 hb4)
    clear c0 c1 c2 c3 c4 c5 c6 c7 g0 g2 g7 hb4
    obtain ⟨c0, c1, c2, c3, c4, c5, c6, c7⟩ := HX4.out.cells
    rw [HL.out] at c7
    have g2 := cell_regrown c2
    have g7 := cell_regrown c7
    go_wp2_with fail
    refine wp_region_quiet_below (by kernel_rfl) (by kernel_rfl) ?_
    repeat (go_big_quiet_step (first | exact HB4.out _ _ | fail))
    refine wpQuiet_nil ?_
    intro w5 hw5
    have hb5 := Drw.cls_below (w := w4) hw5
    have HX5 := Lib.hid (HX4.out.kept hb5)
    clear hw5 hb5 c0 c1 c2 c3 c4 c5 c6 c7 g2 g7
    obtain ⟨c0, c1, c2, c3, c4, c5, c6, c7⟩ := HX5.out.cells
    rw [HL.out] at c7
    have g2 := cell_regrown c2
    have g7 := cell_regrown c7
    go_wp2_with fail
    refine wp_region_quiet_below (by kernel_rfl) (by kernel_rfl) ?_
    repeat (go_big_quiet_step (fail))
    refine wpQuiet_nil ?_
    intro w6 hw6
    have hb6 := Drw.cls_below (w := w5) hw6
    have HX6 := Lib.hid (HX5.out.kept hb6)
    clear hw6 hb6 c0 c1 c2 c3 c4 c5 c6 c7 g2 g7
    go_wp2_with fail
    refine (HE.out _ HX6.out.kl).mono ?_
    rintro e w7 ⟨rfl, hb7⟩
    have HX7 := Lib.hid (HX6.out.kept hb7)
    clear hb7
    obtain ⟨c0, c1, c2, c3, c4, c5, c6, c7⟩ := HX7.out.cells
    go_wp2_with fail
    refine (HRC.out _ HX7.out.kl).mono ?_
    rintro e w8 ⟨rfl, rfl⟩
    go_wp2
    go_ret
    exact ⟨by rw [hR.out]; rfl, HX7.out.below⟩
set_option maxHeartbeats 8000000 in
set_option maxRecDepth 100000 in
theorem let_none (E : Tr → Bool) (d : Nd) (ks : List Tr) (hk : d.k = 6 ∨ d.k = 7) (hn : d.n ≠ 1 ∧ d.n ≠ 2) (S : Nat → Prop) (b o : Nat) (w : World) (hA : At w S (.mk d ks) b o) :
    Calls Tryz.prog 66 #[.pointer (some ⟨b, o, none⟩)] w fun e w' => e = .returned (.bool false) ∧ Below w.heap.size w w' := by
  obtain ⟨a, c, hN⟩ := Nod.start hA
  obtain ⟨k, tx, nn, ty, s4, s5, s6⟩ := d
  obtain ⟨c0, c1, c2, c3, c4, c5, c6, c7⟩ := hN.cells
  simp only at hn hk
  have e0 : (nn == 1) = false := beq_false_of_ne hn.1
  have e1 : (nn == 2) = false := beq_false_of_ne hn.2
  have e2 : (nn != 1) = true := by unfold bne; rw [e0]; rfl
  have e3 : (nn != 2) = true := by unfold bne; rw [e1]; rfl
  have g0 := cell_regrown c0
  have g2 := cell_regrown c2
  have g7 := cell_regrown c7
  clear hA hN hn
  rcases hk with rfl | rfl
  all_goals
    go_enter Tryz.func66, Tryz.ntmps66
    go_wp2_with fail
    refine wp_region_quiet_below (by kernel_rfl) (by kernel_rfl) ?_
    repeat (go_big_quiet_step (fail))
    refine wpQuiet_nil ?_
    intro w4 hw4
    have hb4 := Drw.cls_below (w := w) hw4
    clear hw4
    go_wp2
    go_ret
    exact ⟨rfl, hb4⟩
end Go.Proofs.YtgodeffkboihlaaGreatDoor.Tqf
