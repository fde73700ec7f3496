/- tree: Txi. Printed by mktree.py. -/
import Derived.Test.YtgodeffkboihlaaGreatDoorTxs
set_option linter.unusedVariables false
namespace Go.Proofs.YtgodeffkboihlaaGreatDoor.Txi
open Go.RowKit Tra Trb Trf Trd Tcn Trh Tha Nam Txa Tpr Tyq Txe Txg Txs
def blockT (P : Tr → Bool) (t : Tr) : Bool := blockB P t.d t.kids
def kn (j : Nat) (ks : List Tr) : Tr := ks.getD j tr0
def ifB (E P : Tr → Bool) (d : Nd) (ks : List Tr) : Bool :=
  decide (2 ≤ ks.length) && (decide (ks.length ≤ 3) && (hasB false false false d && (E (kn 0 ks) && (blockT P (kn 1 ks) && (ks.length == 2 || (((kn 2 ks).d.k == 11 || (kn 2 ks).d.k == 4) && P (kn 2 ks)))))))
set_option maxHeartbeats 8000000 in
set_option maxRecDepth 100000 in
theorem stmt_if (E P : Tr → Bool) (d : Nd) (ks : List Tr) (hF : Fit (.mk d ks)) (hk : d.k = 11) (ih : ∀ j, j < ks.length → Pays 62 E (ks.getD j tr0)) (ihp : ∀ j, j < ks.length → Pays 50 P (ks.getD j tr0)) (ihb : ∀ j, j < ks.length → Pays 38 (blockT P) (ks.getD j tr0)) (S : Nat → Prop) (b o : Nat) (w : World) (hA : At w S (.mk d ks) b o) :
    Calls Tryz.prog 50 #[.pointer (some ⟨b, o, none⟩)] w fun e w' => e = .returned (.bool (ifB E P d ks)) ∧ Below w.heap.size w w' := by
  obtain ⟨a, c, hN⟩ := Nod.start hA
  have hlen := fit_len hF
  have hnd := fit_nd hF
  have HFF := Lib.hid hF
  obtain ⟨k, tx, n, ty, s4, s5, s6⟩ := d
  have hst : tx.size ≤ 1048576 := hnd.text
  have hsy : ty.size ≤ 1048576 := hnd.ty
  simp only at hk
  subst hk
  have HX := Lib.hid hN
  obtain ⟨c0, c1, c2, c3, c4, c5, c6, c7⟩ := HX.out.cells
  have hlt := HX.out.lt
  clear hA hF hN hnd
  cases p0 : decide (2 ≤ ks.length)
  · have HR : Hid (ifB E P ⟨11, tx, n, ty, s4, s5, s6⟩ ks = false) := by
      show _ = _
      unfold ifB
      simp [p0]
    have f0_0 : decide ((ks.length : Int) < 2) = true := by
      have q := of_decide_eq_false p0
      clear HR
      exact decide_eq_true (by omega)
    have f0_1 : decide (ks.length < 2) = true := by
      have q := of_decide_eq_false p0
      clear HR
      exact decide_eq_true (by omega)
    clear p0
    go_enter Tryz.func50, Tryz.ntmps50
    go_wp2
    go_ret
    exact ⟨by rw [HR.out]; rfl, HX.out.below⟩
  have hk0 : 0 < ks.length := by have q := of_decide_eq_true p0; omega
  have hk1 : 1 < ks.length := by have q := of_decide_eq_true p0; omega
  obtain ⟨kb, ko, rfl⟩ := kl_some HX.out.kl hk0
  obtain ⟨u0, hu0⟩ : ∃ u, kn 0 ks = u := ⟨_, rfl⟩
  obtain ⟨u1, hu1⟩ : ∃ u, kn 1 ks = u := ⟨_, rfl⟩
  obtain ⟨u2, hu2⟩ : ∃ u, kn 2 ks = u := ⟨_, rfl⟩
  have hk0at : ∀ {W : World}, KL W (fun _ => True) ks (some ⟨kb, ko, none⟩) → At W (fun _ => True) u0 kb ko := fun h => by
    have := kl_at h hk0
    rw [show ks.getD 0 tr0 = u0 from hu0] at this
    simpa using this
  have hk1at : ∀ {W : World}, KL W (fun _ => True) ks (some ⟨kb, ko, none⟩) → At W (fun _ => True) u1 kb (ko + 8) := fun h => by
    have := kl_at h hk1
    rw [show ks.getD 1 tr0 = u1 from hu1] at this
    simpa using this
  have ih0 := ih 0 hk0
  rw [show ks.getD 0 tr0 = u0 from hu0] at ih0
  unfold Pays at ih0
  have ih1 := ihb 1 hk1
  rw [show ks.getD 1 tr0 = u1 from hu1] at ih1
  unfold Pays at ih1
  cases p1 : decide (ks.length ≤ 3)
  · have HR : Hid (ifB E P ⟨11, tx, n, ty, s4, s5, s6⟩ ks = false) := by
      show _ = _
      unfold ifB
      rw [hu0, hu1, hu2]
      simp [p0, p1]
    have f0_0 : decide ((ks.length : Int) < 2) = false := by
      have q := of_decide_eq_true p0
      clear HR
      exact decide_eq_false (by omega)
    have f0_1 : decide (ks.length < 2) = false := by
      have q := of_decide_eq_true p0
      clear HR
      exact decide_eq_false (by omega)
    have f1_0 : decide (3 < (ks.length : Int)) = true := by
      have q := of_decide_eq_false p1
      clear HR
      exact decide_eq_true (by omega)
    have f1_1 : decide (3 < ks.length) = true := by
      have q := of_decide_eq_false p1
      clear HR
      exact decide_eq_true (by omega)
    clear p0 p1
    go_enter Tryz.func50, Tryz.ntmps50
    go_wp2
    go_ret
    exact ⟨by rw [HR.out]; rfl, HX.out.below⟩
  cases p2 : hasB false false false (⟨11, tx, n, ty, s4, s5, s6⟩ : Nd)
  · have HR : Hid (ifB E P ⟨11, tx, n, ty, s4, s5, s6⟩ ks = false) := by
      show _ = _
      unfold ifB
      rw [hu0, hu1, hu2]
      simp [p0, p1, p2]
    have f0_0 : decide ((ks.length : Int) < 2) = false := by
      have q := of_decide_eq_true p0
      clear HR
      exact decide_eq_false (by omega)
    have f0_1 : decide (ks.length < 2) = false := by
      have q := of_decide_eq_true p0
      clear HR
      exact decide_eq_false (by omega)
    have f1_0 : decide (3 < (ks.length : Int)) = false := by
      have q := of_decide_eq_true p1
      clear HR
      exact decide_eq_false (by omega)
    have f1_1 : decide (3 < ks.length) = false := by
      have q := of_decide_eq_true p1
      clear HR
      exact decide_eq_false (by omega)
    have H2 := fun W q0 q1 q2 q3 => has_0 (⟨11, tx, n, ty, s4, s5, s6⟩ : Nd) b o W q0 q1 q2 q3
    rw [p2] at H2
    have HH2 := Lib.hid H2
    clear H2
    clear p0 p1 p2
    go_enter Tryz.func50, Tryz.ntmps50
    go_wp2_with fail
    refine (HH2.out _ c0 c1 c2 c3).mono ?_
    rintro e w1 ⟨rfl, rfl⟩
    go_wp2
    go_ret
    exact ⟨by rw [HR.out]; rfl, HX.out.below⟩
  cases p3 : E u0
  · have HR : Hid (ifB E P ⟨11, tx, n, ty, s4, s5, s6⟩ ks = false) := by
      show _ = _
      unfold ifB
      rw [hu0, hu1, hu2]
      simp [p0, p1, p2, p3]
    have f0_0 : decide ((ks.length : Int) < 2) = false := by
      have q := of_decide_eq_true p0
      clear HR
      exact decide_eq_false (by omega)
    have f0_1 : decide (ks.length < 2) = false := by
      have q := of_decide_eq_true p0
      clear HR
      exact decide_eq_false (by omega)
    have f1_0 : decide (3 < (ks.length : Int)) = false := by
      have q := of_decide_eq_true p1
      clear HR
      exact decide_eq_false (by omega)
    have f1_1 : decide (3 < ks.length) = false := by
      have q := of_decide_eq_true p1
      clear HR
      exact decide_eq_false (by omega)
    have H2 := fun W q0 q1 q2 q3 => has_0 (⟨11, tx, n, ty, s4, s5, s6⟩ : Nd) b o W q0 q1 q2 q3
    rw [p2] at H2
    have HH2 := Lib.hid H2
    clear H2
    have H3 := ih0
    rw [p3] at H3
    have HH3 := Lib.hid H3
    clear H3
    clear p0 p1 p2 p3
    go_enter Tryz.func50, Tryz.ntmps50
    go_wp2_with fail
    refine (HH2.out _ c0 c1 c2 c3).mono ?_
    rintro e w1 ⟨rfl, rfl⟩
    go_wp2_with fail
    refine (HH3.out _ _ _ _ (hk0at HX.out.kl)).mono ?_
    rintro e w1 ⟨rfl, hb⟩
    have HX := Lib.hid (HX.out.kept hb)
    clear hb hlt c0 c1 c2 c3 c4 c5 c6 c7
    obtain ⟨c0, c1, c2, c3, c4, c5, c6, c7⟩ := HX.out.cells
    have hlt := HX.out.lt
    go_wp2
    go_ret
    exact ⟨by rw [HR.out]; rfl, HX.out.below⟩
  cases p4 : blockT P u1
  · have HR : Hid (ifB E P ⟨11, tx, n, ty, s4, s5, s6⟩ ks = false) := by
      show _ = _
      unfold ifB
      rw [hu0, hu1, hu2]
      simp [p0, p1, p2, p3, p4]
    have f0_0 : decide ((ks.length : Int) < 2) = false := by
      have q := of_decide_eq_true p0
      clear HR
      exact decide_eq_false (by omega)
    have f0_1 : decide (ks.length < 2) = false := by
      have q := of_decide_eq_true p0
      clear HR
      exact decide_eq_false (by omega)
    have f1_0 : decide (3 < (ks.length : Int)) = false := by
      have q := of_decide_eq_true p1
      clear HR
      exact decide_eq_false (by omega)
    have f1_1 : decide (3 < ks.length) = false := by
      have q := of_decide_eq_true p1
      clear HR
      exact decide_eq_false (by omega)
    have H2 := fun W q0 q1 q2 q3 => has_0 (⟨11, tx, n, ty, s4, s5, s6⟩ : Nd) b o W q0 q1 q2 q3
    rw [p2] at H2
    have HH2 := Lib.hid H2
    clear H2
    have H3 := ih0
    rw [p3] at H3
    have HH3 := Lib.hid H3
    clear H3
    have H4 := ih1
    rw [p4] at H4
    have HH4 := Lib.hid H4
    clear H4
    clear p0 p1 p2 p3 p4
    go_enter Tryz.func50, Tryz.ntmps50
    go_wp2_with fail
    refine (HH2.out _ c0 c1 c2 c3).mono ?_
    rintro e w1 ⟨rfl, rfl⟩
    go_wp2_with fail
    refine (HH3.out _ _ _ _ (hk0at HX.out.kl)).mono ?_
    rintro e w1 ⟨rfl, hb⟩
    have HX := Lib.hid (HX.out.kept hb)
    clear hb hlt c0 c1 c2 c3 c4 c5 c6 c7
    obtain ⟨c0, c1, c2, c3, c4, c5, c6, c7⟩ := HX.out.cells
    have hlt := HX.out.lt
    go_wp2_with fail
    refine (HH4.out _ _ _ _ (hk1at HX.out.kl)).mono ?_
    rintro e w1 ⟨rfl, hb⟩
    have HX := Lib.hid (HX.out.kept hb)
    clear hb hlt c0 c1 c2 c3 c4 c5 c6 c7
    obtain ⟨c0, c1, c2, c3, c4, c5, c6, c7⟩ := HX.out.cells
    have hlt := HX.out.lt
    go_wp2
    go_ret
    exact ⟨by rw [HR.out]; rfl, HX.out.below⟩
  cases p5 : (ks.length == 2)
  rotate_left
  · have HR : Hid (ifB E P ⟨11, tx, n, ty, s4, s5, s6⟩ ks = true) := by
      show _ = _
      unfold ifB
      rw [hu0, hu1, hu2]
      simp [p0, p1, p2, p3, p4, p5]
    have f0_0 : decide ((ks.length : Int) < 2) = false := by
      have q := of_decide_eq_true p0
      clear HR
      exact decide_eq_false (by omega)
    have f0_1 : decide (ks.length < 2) = false := by
      have q := of_decide_eq_true p0
      clear HR
      exact decide_eq_false (by omega)
    have f1_0 : decide (3 < (ks.length : Int)) = false := by
      have q := of_decide_eq_true p1
      clear HR
      exact decide_eq_false (by omega)
    have f1_1 : decide (3 < ks.length) = false := by
      have q := of_decide_eq_true p1
      clear HR
      exact decide_eq_false (by omega)
    have H2 := fun W q0 q1 q2 q3 => has_0 (⟨11, tx, n, ty, s4, s5, s6⟩ : Nd) b o W q0 q1 q2 q3
    rw [p2] at H2
    have HH2 := Lib.hid H2
    clear H2
    have H3 := ih0
    rw [p3] at H3
    have HH3 := Lib.hid H3
    clear H3
    have H4 := ih1
    rw [p4] at H4
    have HH4 := Lib.hid H4
    clear H4
    have f5_0 : ((ks.length : Int) == 2) = true := by
      have q := p5
      clear HR
      simp [] at q ⊢
      first | assumption | omega
    clear p0 p1 p2 p3 p4 p5
    go_enter Tryz.func50, Tryz.ntmps50
    go_wp2_with fail
    refine (HH2.out _ c0 c1 c2 c3).mono ?_
    rintro e w1 ⟨rfl, rfl⟩
    go_wp2_with fail
    refine (HH3.out _ _ _ _ (hk0at HX.out.kl)).mono ?_
    rintro e w1 ⟨rfl, hb⟩
    have HX := Lib.hid (HX.out.kept hb)
    clear hb hlt c0 c1 c2 c3 c4 c5 c6 c7
    obtain ⟨c0, c1, c2, c3, c4, c5, c6, c7⟩ := HX.out.cells
    have hlt := HX.out.lt
    go_wp2_with fail
    refine (HH4.out _ _ _ _ (hk1at HX.out.kl)).mono ?_
    rintro e w1 ⟨rfl, hb⟩
    have HX := Lib.hid (HX.out.kept hb)
    clear hb hlt c0 c1 c2 c3 c4 c5 c6 c7
    obtain ⟨c0, c1, c2, c3, c4, c5, c6, c7⟩ := HX.out.cells
    have hlt := HX.out.lt
    go_wp2
    go_ret
    exact ⟨by rw [HR.out]; rfl, HX.out.below⟩
  have hk2 : 2 < ks.length := by have q := of_decide_eq_true p0; have q2 : ks.length ≠ 2 := by simpa using p5
                                 omega
  have hk2at : ∀ {W : World}, KL W (fun _ => True) ks (some ⟨kb, ko, none⟩) → At W (fun _ => True) u2 kb (ko + 16) := fun h => by
    have := kl_at h hk2
    rw [show ks.getD 2 tr0 = u2 from hu2] at this
    simpa using this
  have ih2 := ihp 2 hk2
  rw [show ks.getD 2 tr0 = u2 from hu2] at ih2
  unfold Pays at ih2
  obtain ⟨d0, ks0⟩ := u2
  obtain ⟨k0, tx0, n0, ty0, s40, s50, s60⟩ := d0
  obtain ⟨xa, xc, -, kc0, -, -, -, -, -, -, -⟩ := (hk2at HX.out.kl).cells
  simp only [Tr.d] at kc0
  cases p6 : (k0 == 11)
  rotate_left
  · cases p7 : P (Tr.mk ⟨k0, tx0, n0, ty0, s40, s50, s60⟩ ks0)
    · have HR : Hid (ifB E P ⟨11, tx, n, ty, s4, s5, s6⟩ ks = false) := by
        show _ = _
        unfold ifB
        rw [hu0, hu1, hu2]
        simp [p0, p1, p2, p3, p4, p5, p6, p7, Tr.d]
      have f0_0 : decide ((ks.length : Int) < 2) = false := by
        have q := of_decide_eq_true p0
        clear HR
        exact decide_eq_false (by omega)
      have f0_1 : decide (ks.length < 2) = false := by
        have q := of_decide_eq_true p0
        clear HR
        exact decide_eq_false (by omega)
      have f1_0 : decide (3 < (ks.length : Int)) = false := by
        have q := of_decide_eq_true p1
        clear HR
        exact decide_eq_false (by omega)
      have f1_1 : decide (3 < ks.length) = false := by
        have q := of_decide_eq_true p1
        clear HR
        exact decide_eq_false (by omega)
      have H2 := fun W q0 q1 q2 q3 => has_0 (⟨11, tx, n, ty, s4, s5, s6⟩ : Nd) b o W q0 q1 q2 q3
      rw [p2] at H2
      have HH2 := Lib.hid H2
      clear H2
      have H3 := ih0
      rw [p3] at H3
      have HH3 := Lib.hid H3
      clear H3
      have H4 := ih1
      rw [p4] at H4
      have HH4 := Lib.hid H4
      clear H4
      have f5_0 : ((ks.length : Int) == 2) = false := by
        have q := p5
        clear HR
        simp [] at q ⊢
        first | assumption | omega
      have f6_0 : (k0 == 11) = true := by
        have q := p6
        clear HR
        simp [] at q ⊢
        first | assumption | omega
      have H7 := ih2
      rw [p7] at H7
      have HH7 := Lib.hid H7
      clear H7
      clear p0 p1 p2 p3 p4 p5 p6 p7
      clear kc0
      go_enter Tryz.func50, Tryz.ntmps50
      go_wp2_with fail
      refine (HH2.out _ c0 c1 c2 c3).mono ?_
      rintro e w1 ⟨rfl, rfl⟩
      go_wp2_with fail
      refine (HH3.out _ _ _ _ (hk0at HX.out.kl)).mono ?_
      rintro e w1 ⟨rfl, hb⟩
      have HX := Lib.hid (HX.out.kept hb)
      clear hb hlt c0 c1 c2 c3 c4 c5 c6 c7
      obtain ⟨c0, c1, c2, c3, c4, c5, c6, c7⟩ := HX.out.cells
      have hlt := HX.out.lt
      go_wp2_with fail
      refine (HH4.out _ _ _ _ (hk1at HX.out.kl)).mono ?_
      rintro e w1 ⟨rfl, hb⟩
      have HX := Lib.hid (HX.out.kept hb)
      clear hb hlt c0 c1 c2 c3 c4 c5 c6 c7
      obtain ⟨c0, c1, c2, c3, c4, c5, c6, c7⟩ := HX.out.cells
      have hlt := HX.out.lt
      obtain ⟨xa, xc, -, kc0, -, -, -, -, -, -, -⟩ := (hk2at HX.out.kl).cells
      simp only [Tr.d] at kc0
      go_wp2_with fail
      refine (HH7.out _ _ _ _ (hk2at HX.out.kl)).mono ?_
      rintro e w1 ⟨rfl, hb⟩
      clear kc0
      have HX := Lib.hid (HX.out.kept hb)
      clear hb hlt c0 c1 c2 c3 c4 c5 c6 c7
      obtain ⟨c0, c1, c2, c3, c4, c5, c6, c7⟩ := HX.out.cells
      have hlt := HX.out.lt
      go_wp2
      go_ret
      exact ⟨by rw [HR.out]; rfl, HX.out.below⟩
    have HR : Hid (ifB E P ⟨11, tx, n, ty, s4, s5, s6⟩ ks = true) := by
      show _ = _
      unfold ifB
      rw [hu0, hu1, hu2]
      simp [p0, p1, p2, p3, p4, p5, p6, p7, Tr.d]
    have f0_0 : decide ((ks.length : Int) < 2) = false := by
      have q := of_decide_eq_true p0
      clear HR
      exact decide_eq_false (by omega)
    have f0_1 : decide (ks.length < 2) = false := by
      have q := of_decide_eq_true p0
      clear HR
      exact decide_eq_false (by omega)
    have f1_0 : decide (3 < (ks.length : Int)) = false := by
      have q := of_decide_eq_true p1
      clear HR
      exact decide_eq_false (by omega)
    have f1_1 : decide (3 < ks.length) = false := by
      have q := of_decide_eq_true p1
      clear HR
      exact decide_eq_false (by omega)
    have H2 := fun W q0 q1 q2 q3 => has_0 (⟨11, tx, n, ty, s4, s5, s6⟩ : Nd) b o W q0 q1 q2 q3
    rw [p2] at H2
    have HH2 := Lib.hid H2
    clear H2
    have H3 := ih0
    rw [p3] at H3
    have HH3 := Lib.hid H3
    clear H3
    have H4 := ih1
    rw [p4] at H4
    have HH4 := Lib.hid H4
    clear H4
    have f5_0 : ((ks.length : Int) == 2) = false := by
      have q := p5
      clear HR
      simp [] at q ⊢
      first | assumption | omega
    have f6_0 : (k0 == 11) = true := by
      have q := p6
      clear HR
      simp [] at q ⊢
      first | assumption | omega
    have H7 := ih2
    rw [p7] at H7
    have HH7 := Lib.hid H7
    clear H7
    clear p0 p1 p2 p3 p4 p5 p6 p7
    clear kc0
    go_enter Tryz.func50, Tryz.ntmps50
    go_wp2_with fail
    refine (HH2.out _ c0 c1 c2 c3).mono ?_
    rintro e w1 ⟨rfl, rfl⟩
    go_wp2_with fail
    refine (HH3.out _ _ _ _ (hk0at HX.out.kl)).mono ?_
    rintro e w1 ⟨rfl, hb⟩
    have HX := Lib.hid (HX.out.kept hb)
    clear hb hlt c0 c1 c2 c3 c4 c5 c6 c7
    obtain ⟨c0, c1, c2, c3, c4, c5, c6, c7⟩ := HX.out.cells
    have hlt := HX.out.lt
    go_wp2_with fail
    refine (HH4.out _ _ _ _ (hk1at HX.out.kl)).mono ?_
    rintro e w1 ⟨rfl, hb⟩
    have HX := Lib.hid (HX.out.kept hb)
    clear hb hlt c0 c1 c2 c3 c4 c5 c6 c7
    obtain ⟨c0, c1, c2, c3, c4, c5, c6, c7⟩ := HX.out.cells
    have hlt := HX.out.lt
    obtain ⟨xa, xc, -, kc0, -, -, -, -, -, -, -⟩ := (hk2at HX.out.kl).cells
    simp only [Tr.d] at kc0
    go_wp2_with fail
    refine (HH7.out _ _ _ _ (hk2at HX.out.kl)).mono ?_
    rintro e w1 ⟨rfl, hb⟩
    clear kc0
    have HX := Lib.hid (HX.out.kept hb)
    clear hb hlt c0 c1 c2 c3 c4 c5 c6 c7
    obtain ⟨c0, c1, c2, c3, c4, c5, c6, c7⟩ := HX.out.cells
    have hlt := HX.out.lt
    go_wp2
    go_ret
    exact ⟨by rw [HR.out]; rfl, HX.out.below⟩
  cases p7 : (k0 == 4)
  · have HR : Hid (ifB E P ⟨11, tx, n, ty, s4, s5, s6⟩ ks = false) := by
      show _ = _
      unfold ifB
      rw [hu0, hu1, hu2]
      simp [p0, p1, p2, p3, p4, p5, p6, p7, Tr.d]
    have f0_0 : decide ((ks.length : Int) < 2) = false := by
      have q := of_decide_eq_true p0
      clear HR
      exact decide_eq_false (by omega)
    have f0_1 : decide (ks.length < 2) = false := by
      have q := of_decide_eq_true p0
      clear HR
      exact decide_eq_false (by omega)
    have f1_0 : decide (3 < (ks.length : Int)) = false := by
      have q := of_decide_eq_true p1
      clear HR
      exact decide_eq_false (by omega)
    have f1_1 : decide (3 < ks.length) = false := by
      have q := of_decide_eq_true p1
      clear HR
      exact decide_eq_false (by omega)
    have H2 := fun W q0 q1 q2 q3 => has_0 (⟨11, tx, n, ty, s4, s5, s6⟩ : Nd) b o W q0 q1 q2 q3
    rw [p2] at H2
    have HH2 := Lib.hid H2
    clear H2
    have H3 := ih0
    rw [p3] at H3
    have HH3 := Lib.hid H3
    clear H3
    have H4 := ih1
    rw [p4] at H4
    have HH4 := Lib.hid H4
    clear H4
    have f5_0 : ((ks.length : Int) == 2) = false := by
      have q := p5
      clear HR
      simp [] at q ⊢
      first | assumption | omega
    have f6_0 : (k0 == 11) = false := by
      have q := p6
      clear HR
      simp [] at q ⊢
      first | assumption | omega
    have f7_0 : (k0 == 4) = false := by
      have q := p7
      clear HR
      simp [] at q ⊢
      first | assumption | omega
    clear p0 p1 p2 p3 p4 p5 p6 p7
    clear kc0
    go_enter Tryz.func50, Tryz.ntmps50
    go_wp2_with fail
    refine (HH2.out _ c0 c1 c2 c3).mono ?_
    rintro e w1 ⟨rfl, rfl⟩
    go_wp2_with fail
    refine (HH3.out _ _ _ _ (hk0at HX.out.kl)).mono ?_
    rintro e w1 ⟨rfl, hb⟩
    have HX := Lib.hid (HX.out.kept hb)
    clear hb hlt c0 c1 c2 c3 c4 c5 c6 c7
    obtain ⟨c0, c1, c2, c3, c4, c5, c6, c7⟩ := HX.out.cells
    have hlt := HX.out.lt
    go_wp2_with fail
    refine (HH4.out _ _ _ _ (hk1at HX.out.kl)).mono ?_
    rintro e w1 ⟨rfl, hb⟩
    have HX := Lib.hid (HX.out.kept hb)
    clear hb hlt c0 c1 c2 c3 c4 c5 c6 c7
    obtain ⟨c0, c1, c2, c3, c4, c5, c6, c7⟩ := HX.out.cells
    have hlt := HX.out.lt
    obtain ⟨xa, xc, -, kc0, -, -, -, -, -, -, -⟩ := (hk2at HX.out.kl).cells
    simp only [Tr.d] at kc0
    go_wp2
    go_ret
    exact ⟨by rw [HR.out]; rfl, HX.out.below⟩
  cases p8 : P (Tr.mk ⟨k0, tx0, n0, ty0, s40, s50, s60⟩ ks0)
  · have HR : Hid (ifB E P ⟨11, tx, n, ty, s4, s5, s6⟩ ks = false) := by
      show _ = _
      unfold ifB
      rw [hu0, hu1, hu2]
      simp [p0, p1, p2, p3, p4, p5, p6, p7, p8, Tr.d]
    have f0_0 : decide ((ks.length : Int) < 2) = false := by
      have q := of_decide_eq_true p0
      clear HR
      exact decide_eq_false (by omega)
    have f0_1 : decide (ks.length < 2) = false := by
      have q := of_decide_eq_true p0
      clear HR
      exact decide_eq_false (by omega)
    have f1_0 : decide (3 < (ks.length : Int)) = false := by
      have q := of_decide_eq_true p1
      clear HR
      exact decide_eq_false (by omega)
    have f1_1 : decide (3 < ks.length) = false := by
      have q := of_decide_eq_true p1
      clear HR
      exact decide_eq_false (by omega)
    have H2 := fun W q0 q1 q2 q3 => has_0 (⟨11, tx, n, ty, s4, s5, s6⟩ : Nd) b o W q0 q1 q2 q3
    rw [p2] at H2
    have HH2 := Lib.hid H2
    clear H2
    have H3 := ih0
    rw [p3] at H3
    have HH3 := Lib.hid H3
    clear H3
    have H4 := ih1
    rw [p4] at H4
    have HH4 := Lib.hid H4
    clear H4
    have f5_0 : ((ks.length : Int) == 2) = false := by
      have q := p5
      clear HR
      simp [] at q ⊢
      first | assumption | omega
    have f6_0 : (k0 == 11) = false := by
      have q := p6
      clear HR
      simp [] at q ⊢
      first | assumption | omega
    have f7_0 : (k0 == 4) = true := by
      have q := p7
      clear HR
      simp [] at q ⊢
      first | assumption | omega
    have H8 := ih2
    rw [p8] at H8
    have HH8 := Lib.hid H8
    clear H8
    clear p0 p1 p2 p3 p4 p5 p6 p7 p8
    clear kc0
    go_enter Tryz.func50, Tryz.ntmps50
    go_wp2_with fail
    refine (HH2.out _ c0 c1 c2 c3).mono ?_
    rintro e w1 ⟨rfl, rfl⟩
    go_wp2_with fail
    refine (HH3.out _ _ _ _ (hk0at HX.out.kl)).mono ?_
    rintro e w1 ⟨rfl, hb⟩
    have HX := Lib.hid (HX.out.kept hb)
    clear hb hlt c0 c1 c2 c3 c4 c5 c6 c7
    obtain ⟨c0, c1, c2, c3, c4, c5, c6, c7⟩ := HX.out.cells
    have hlt := HX.out.lt
    go_wp2_with fail
    refine (HH4.out _ _ _ _ (hk1at HX.out.kl)).mono ?_
    rintro e w1 ⟨rfl, hb⟩
    have HX := Lib.hid (HX.out.kept hb)
    clear hb hlt c0 c1 c2 c3 c4 c5 c6 c7
    obtain ⟨c0, c1, c2, c3, c4, c5, c6, c7⟩ := HX.out.cells
    have hlt := HX.out.lt
    obtain ⟨xa, xc, -, kc0, -, -, -, -, -, -, -⟩ := (hk2at HX.out.kl).cells
    simp only [Tr.d] at kc0
    go_wp2_with fail
    refine (HH8.out _ _ _ _ (hk2at HX.out.kl)).mono ?_
    rintro e w1 ⟨rfl, hb⟩
    clear kc0
    have HX := Lib.hid (HX.out.kept hb)
    clear hb hlt c0 c1 c2 c3 c4 c5 c6 c7
    obtain ⟨c0, c1, c2, c3, c4, c5, c6, c7⟩ := HX.out.cells
    have hlt := HX.out.lt
    go_wp2
    go_ret
    exact ⟨by rw [HR.out]; rfl, HX.out.below⟩
  have HR : Hid (ifB E P ⟨11, tx, n, ty, s4, s5, s6⟩ ks = true) := by
    show _ = _
    unfold ifB
    rw [hu0, hu1, hu2]
    simp [p0, p1, p2, p3, p4, p5, p6, p7, p8, Tr.d]
  have f0_0 : decide ((ks.length : Int) < 2) = false := by
    have q := of_decide_eq_true p0
    clear HR
    exact decide_eq_false (by omega)
  have f0_1 : decide (ks.length < 2) = false := by
    have q := of_decide_eq_true p0
    clear HR
    exact decide_eq_false (by omega)
  have f1_0 : decide (3 < (ks.length : Int)) = false := by
    have q := of_decide_eq_true p1
    clear HR
    exact decide_eq_false (by omega)
  have f1_1 : decide (3 < ks.length) = false := by
    have q := of_decide_eq_true p1
    clear HR
    exact decide_eq_false (by omega)
  have H2 := fun W q0 q1 q2 q3 => has_0 (⟨11, tx, n, ty, s4, s5, s6⟩ : Nd) b o W q0 q1 q2 q3
  rw [p2] at H2
  have HH2 := Lib.hid H2
  clear H2
  have H3 := ih0
  rw [p3] at H3
  have HH3 := Lib.hid H3
  clear H3
  have H4 := ih1
  rw [p4] at H4
  have HH4 := Lib.hid H4
  clear H4
  have f5_0 : ((ks.length : Int) == 2) = false := by
    have q := p5
    clear HR
    simp [] at q ⊢
    first | assumption | omega
  have f6_0 : (k0 == 11) = false := by
    have q := p6
    clear HR
    simp [] at q ⊢
    first | assumption | omega
  have f7_0 : (k0 == 4) = true := by
    have q := p7
    clear HR
    simp [] at q ⊢
    first | assumption | omega
  have H8 := ih2
  rw [p8] at H8
  have HH8 := Lib.hid H8
  clear H8
  clear p0 p1 p2 p3 p4 p5 p6 p7 p8
  clear kc0
  go_enter Tryz.func50, Tryz.ntmps50
  go_wp2_with fail
  refine (HH2.out _ c0 c1 c2 c3).mono ?_
  rintro e w1 ⟨rfl, rfl⟩
  go_wp2_with fail
  refine (HH3.out _ _ _ _ (hk0at HX.out.kl)).mono ?_
  rintro e w1 ⟨rfl, hb⟩
  have HX := Lib.hid (HX.out.kept hb)
  clear hb hlt c0 c1 c2 c3 c4 c5 c6 c7
  obtain ⟨c0, c1, c2, c3, c4, c5, c6, c7⟩ := HX.out.cells
  have hlt := HX.out.lt
  go_wp2_with fail
  refine (HH4.out _ _ _ _ (hk1at HX.out.kl)).mono ?_
  rintro e w1 ⟨rfl, hb⟩
  have HX := Lib.hid (HX.out.kept hb)
  clear hb hlt c0 c1 c2 c3 c4 c5 c6 c7
  obtain ⟨c0, c1, c2, c3, c4, c5, c6, c7⟩ := HX.out.cells
  have hlt := HX.out.lt
  obtain ⟨xa, xc, -, kc0, -, -, -, -, -, -, -⟩ := (hk2at HX.out.kl).cells
  simp only [Tr.d] at kc0
  go_wp2_with fail
  refine (HH8.out _ _ _ _ (hk2at HX.out.kl)).mono ?_
  rintro e w1 ⟨rfl, hb⟩
  clear kc0
  have HX := Lib.hid (HX.out.kept hb)
  clear hb hlt c0 c1 c2 c3 c4 c5 c6 c7
  obtain ⟨c0, c1, c2, c3, c4, c5, c6, c7⟩ := HX.out.cells
  have hlt := HX.out.lt
  go_wp2
  go_ret
  exact ⟨by rw [HR.out]; rfl, HX.out.below⟩
end Go.Proofs.YtgodeffkboihlaaGreatDoor.Txi
