/- tree: Txu. Printed by mktree.py. -/
import Derived.Test.YtgodeffkboihlaaGreatDoorTxi
set_option linter.unusedVariables false
namespace Go.Proofs.YtgodeffkboihlaaGreatDoor.Txu
open Go.RowKit Tra Trb Trf Trd Tcn Trh Tha Nam Txa Tpr Tyq Txe Txg Txs Txi
theorem enters_param : Enters Tryz.prog 39 := enters_of Tryz.func39 (by kernel_rfl) rfl
def paramT (t : Tr) : Bool := paramB t.d t.kids
def funcB (P : Tr → Bool) (d : Nd) (ks : List Tr) : Bool := d.k == 2 && (properB d.text && (decide (0 < ks.length) && (hasB true true false d && ((d.ty.toList.isEmpty || typeB d.ty) && (blockT P (kn (ks.length - 1) ks) && (ks.take (ks.length - 1)).all paramT)))))
theorem param_pays : ∀ t : Tr, Fit t → Pays 39 paramT t := by
  rintro ⟨d, ks⟩ hF S b o w hA
  exact param_any d ks hF S b o w hA
set_option maxHeartbeats 8000000 in
set_option maxRecDepth 100000 in
theorem func_any (P : Tr → Bool) (d : Nd) (ks : List Tr) (hF : Fit (.mk d ks)) (ihb : ∀ j, j < ks.length → Pays 38 (blockT P) (ks.getD j tr0)) (S : Nat → Prop) (b o : Nat) (w : World) (hA : At w S (.mk d ks) b o) :
    Calls Tryz.prog 26 #[.pointer (some ⟨b, o, none⟩)] w fun e w' => e = .returned (.bool (funcB P d ks)) ∧ Below w.heap.size w w' := by
  obtain ⟨a, c, hN⟩ := Nod.start hA
  have hlen := fit_len hF
  have hnd := fit_nd hF
  have HFF := Lib.hid hF
  obtain ⟨k, tx, n, ty, s4, s5, s6⟩ := d
  have hst : tx.size ≤ 1048576 := hnd.text
  have hsy : ty.size ≤ 1048576 := hnd.ty
  have HX := Lib.hid hN
  obtain ⟨c0, c1, c2, c3, c4, c5, c6, c7⟩ := HX.out.cells
  have hlt := HX.out.lt
  clear hA hF hN hnd
  cases p0 : (k == 2)
  · have HR : Hid (funcB P ⟨k, tx, n, ty, s4, s5, s6⟩ ks = false) := by
      show _ = _
      unfold funcB
      simp [p0]
    have f0_0 : (k == 2) = false := by
      have q := p0
      clear HR
      simp [] at q ⊢
      first | assumption | omega
    have f0_1 : (k != 2) = true := by
      have q := p0
      clear HR
      simp [] at q ⊢
      first | assumption | omega
    clear p0
    go_enter Tryz.func26, Tryz.ntmps26
    go_wp2
    go_ret
    exact ⟨by rw [HR.out]; rfl, HX.out.below⟩
  cases p1 : properB tx
  · have HR : Hid (funcB P ⟨k, tx, n, ty, s4, s5, s6⟩ ks = false) := by
      show _ = _
      unfold funcB
      simp [p0, p1]
    have f0_0 : (k == 2) = true := by
      have q := p0
      clear HR
      simp [] at q ⊢
      first | assumption | omega
    have f0_1 : (k != 2) = false := by
      have q := p0
      clear HR
      simp [] at q ⊢
      first | assumption | omega
    have H1 := fun W => proper_any tx W hst
    rw [p1] at H1
    have HH1 := Lib.hid H1
    clear H1
    clear p0 p1
    go_enter Tryz.func26, Tryz.ntmps26
    go_wp2_with fail
    refine (HH1.out _).mono ?_
    rintro e w1 ⟨rfl, hb⟩
    have HX := Lib.hid (HX.out.kept hb)
    clear hb hlt c0 c1 c2 c3 c4 c5 c6 c7
    obtain ⟨c0, c1, c2, c3, c4, c5, c6, c7⟩ := HX.out.cells
    have hlt := HX.out.lt
    go_wp2
    go_ret
    exact ⟨by rw [HR.out]; rfl, HX.out.below⟩
  cases p2 : decide (0 < ks.length)
  · have HR : Hid (funcB P ⟨k, tx, n, ty, s4, s5, s6⟩ ks = false) := by
      show _ = _
      unfold funcB
      simp [p0, p1, p2]
    have f0_0 : (k == 2) = true := by
      have q := p0
      clear HR
      simp [] at q ⊢
      first | assumption | omega
    have f0_1 : (k != 2) = false := by
      have q := p0
      clear HR
      simp [] at q ⊢
      first | assumption | omega
    have H1 := fun W => proper_any tx W hst
    rw [p1] at H1
    have HH1 := Lib.hid H1
    clear H1
    have f2_0 : ((ks.length : Int) == 0) = true := by
      have q := of_decide_eq_false p2
      clear HR
      have z : ks.length = 0 := by omega
      rw [z]; rfl
    clear p0 p1 p2
    go_enter Tryz.func26, Tryz.ntmps26
    go_wp2_with fail
    refine (HH1.out _).mono ?_
    rintro e w1 ⟨rfl, hb⟩
    have HX := Lib.hid (HX.out.kept hb)
    clear hb hlt c0 c1 c2 c3 c4 c5 c6 c7
    obtain ⟨c0, c1, c2, c3, c4, c5, c6, c7⟩ := HX.out.cells
    have hlt := HX.out.lt
    go_wp2
    go_ret
    exact ⟨by rw [HR.out]; rfl, HX.out.below⟩
  obtain ⟨m, hm⟩ : ∃ m, ks.length = m + 1 := ⟨ks.length - 1, by have q := of_decide_eq_true p2; omega⟩
  have hm1 : m < ks.length := by omega
  have hlm : ks.length - 1 = m := by omega
  obtain ⟨kb, ko, rfl⟩ := kl_some HX.out.kl (by omega)
  obtain ⟨u1, hu1⟩ : ∃ u, kn m ks = u := ⟨_, rfl⟩
  have hk1at : ∀ {W : World}, KL W (fun _ => True) ks (some ⟨kb, ko, none⟩) → At W (fun _ => True) u1 kb (ko + m * 8) := fun h => by
    have := kl_at h hm1
    rw [show ks.getD m tr0 = u1 from hu1] at this
    exact this
  have ih1 := ihb m hm1
  rw [show ks.getD m tr0 = u1 from hu1] at ih1
  unfold Pays at ih1
  obtain ⟨al, hal⟩ : ∃ r, (ks.take m).all paramT = r := ⟨_, rfl⟩
  have hpa := fun W (h : KL W (fun _ => True) ks (some ⟨kb, ko, none⟩)) => all_take enters_param (p := paramT) (some ⟨kb, ko, none⟩) c m (by omega) hlen (fun j hj => param_pays _ (fit_kid HFF.out (by omega))) W h
  rw [hal] at hpa
  have HPA := Lib.hid hpa
  clear hpa
  cases p3 : hasB true true false (⟨k, tx, n, ty, s4, s5, s6⟩ : Nd)
  · have HR : Hid (funcB P ⟨k, tx, n, ty, s4, s5, s6⟩ ks = false) := by
      show _ = _
      unfold funcB
      rw [hlm, hu1, hal]
      simp [p0, p1, p2, p3]
    have f0_0 : (k == 2) = true := by
      have q := p0
      clear HR
      simp [] at q ⊢
      first | assumption | omega
    have f0_1 : (k != 2) = false := by
      have q := p0
      clear HR
      simp [] at q ⊢
      first | assumption | omega
    have H1 := fun W => proper_any tx W hst
    rw [p1] at H1
    have HH1 := Lib.hid H1
    clear H1
    have f2_0 : ((ks.length : Int) == 0) = false := by
      have q := of_decide_eq_true p2
      clear HR
      exact beq_false_of_ne (by omega)
    have H3 := fun W q0 q1 q2 q3 => has_3 (⟨k, tx, n, ty, s4, s5, s6⟩ : Nd) b o W q0 q1 q2 q3
    rw [p3] at H3
    have HH3 := Lib.hid H3
    clear H3
    have hcap := HX.out.cap
    have hmc : m ≤ c := by omega
    have hsub : (ks.length : Int) - 1 = (m : Int) := by omega
    clear p0 p1 p2 p3
    go_enter Tryz.func26, Tryz.ntmps26
    go_wp2_with fail
    refine (HH1.out _).mono ?_
    rintro e w1 ⟨rfl, hb⟩
    have HX := Lib.hid (HX.out.kept hb)
    clear hb hlt c0 c1 c2 c3 c4 c5 c6 c7
    obtain ⟨c0, c1, c2, c3, c4, c5, c6, c7⟩ := HX.out.cells
    have hlt := HX.out.lt
    go_wp2_with fail
    refine (HH3.out _ c0 c1 c2 c3).mono ?_
    rintro e w1 ⟨rfl, rfl⟩
    go_wp2
    go_ret
    exact ⟨by rw [HR.out]; rfl, HX.out.below⟩
  cases e0 : ty.toList.isEmpty
  rotate_left
  · cases p4 : blockT P u1
    · have HR : Hid (funcB P ⟨k, tx, n, ty, s4, s5, s6⟩ ks = false) := by
        show _ = _
        unfold funcB
        rw [hlm, hu1, hal]
        simp [p0, p1, p2, p3, p4, e0]
      have f0_0 : (k == 2) = true := by
        have q := p0
        clear HR
        simp [] at q ⊢
        first | assumption | omega
      have f0_1 : (k != 2) = false := by
        have q := p0
        clear HR
        simp [] at q ⊢
        first | assumption | omega
      have H1 := fun W => proper_any tx W hst
      rw [p1] at H1
      have HH1 := Lib.hid H1
      clear H1
      have f2_0 : ((ks.length : Int) == 0) = false := by
        have q := of_decide_eq_true p2
        clear HR
        exact beq_false_of_ne (by omega)
      have H3 := fun W q0 q1 q2 q3 => has_3 (⟨k, tx, n, ty, s4, s5, s6⟩ : Nd) b o W q0 q1 q2 q3
      rw [p3] at H3
      have HH3 := Lib.hid H3
      clear H3
      have H4 := ih1
      rw [p4] at H4
      have HH4 := Lib.hid H4
      clear H4
      have hcap := HX.out.cap
      have hmc : m ≤ c := by omega
      have hsub : (ks.length : Int) - 1 = (m : Int) := by omega
      clear p0 p1 p2 p3 p4
      go_enter Tryz.func26, Tryz.ntmps26
      go_wp2_with fail
      refine (HH1.out _).mono ?_
      rintro e w1 ⟨rfl, hb⟩
      have HX := Lib.hid (HX.out.kept hb)
      clear hb hlt c0 c1 c2 c3 c4 c5 c6 c7
      obtain ⟨c0, c1, c2, c3, c4, c5, c6, c7⟩ := HX.out.cells
      have hlt := HX.out.lt
      go_wp2_with fail
      refine (HH3.out _ c0 c1 c2 c3).mono ?_
      rintro e w1 ⟨rfl, rfl⟩
      go_wp2_with fail
      refine (HH4.out _ _ _ _ (hk1at HX.out.kl)).mono ?_
      rintro e w1 ⟨rfl, hb⟩
      have HX := Lib.hid (HX.out.kept hb)
      clear hb hlt c0 c1 c2 c3 c4 c5 c6 c7
      obtain ⟨c0, c1, c2, c3, c4, c5, c6, c7⟩ := HX.out.cells
      have hlt := HX.out.lt
      go_wp2
      go_ret
      exact ⟨by rw [HR.out]; rfl, HX.out.below⟩
    cases al
    · have HR : Hid (funcB P ⟨k, tx, n, ty, s4, s5, s6⟩ ks = false) := by
        show _ = _
        unfold funcB
        rw [hlm, hu1, hal]
        simp [p0, p1, p2, p3, p4, e0]
      have f0_0 : (k == 2) = true := by
        have q := p0
        clear HR
        simp [] at q ⊢
        first | assumption | omega
      have f0_1 : (k != 2) = false := by
        have q := p0
        clear HR
        simp [] at q ⊢
        first | assumption | omega
      have H1 := fun W => proper_any tx W hst
      rw [p1] at H1
      have HH1 := Lib.hid H1
      clear H1
      have f2_0 : ((ks.length : Int) == 0) = false := by
        have q := of_decide_eq_true p2
        clear HR
        exact beq_false_of_ne (by omega)
      have H3 := fun W q0 q1 q2 q3 => has_3 (⟨k, tx, n, ty, s4, s5, s6⟩ : Nd) b o W q0 q1 q2 q3
      rw [p3] at H3
      have HH3 := Lib.hid H3
      clear H3
      have H4 := ih1
      rw [p4] at H4
      have HH4 := Lib.hid H4
      clear H4
      have hcap := HX.out.cap
      have hmc : m ≤ c := by omega
      have hsub : (ks.length : Int) - 1 = (m : Int) := by omega
      clear p0 p1 p2 p3 p4
      go_enter Tryz.func26, Tryz.ntmps26
      go_wp2_with fail
      refine (HH1.out _).mono ?_
      rintro e w1 ⟨rfl, hb⟩
      have HX := Lib.hid (HX.out.kept hb)
      clear hb hlt c0 c1 c2 c3 c4 c5 c6 c7
      obtain ⟨c0, c1, c2, c3, c4, c5, c6, c7⟩ := HX.out.cells
      have hlt := HX.out.lt
      go_wp2_with fail
      refine (HH3.out _ c0 c1 c2 c3).mono ?_
      rintro e w1 ⟨rfl, rfl⟩
      go_wp2_with fail
      refine (HH4.out _ _ _ _ (hk1at HX.out.kl)).mono ?_
      rintro e w1 ⟨rfl, hb⟩
      have HX := Lib.hid (HX.out.kept hb)
      clear hb hlt c0 c1 c2 c3 c4 c5 c6 c7
      obtain ⟨c0, c1, c2, c3, c4, c5, c6, c7⟩ := HX.out.cells
      have hlt := HX.out.lt
      go_wp2_with fail
      refine (HPA.out _ HX.out.kl).mono ?_
      rintro e w1 ⟨rfl, hb⟩
      have HX := Lib.hid (HX.out.kept hb)
      clear hb hlt c0 c1 c2 c3 c4 c5 c6 c7
      obtain ⟨c0, c1, c2, c3, c4, c5, c6, c7⟩ := HX.out.cells
      have hlt := HX.out.lt
      go_wp2
      go_ret
      exact ⟨by rw [HR.out]; rfl, HX.out.below⟩
    · have HR : Hid (funcB P ⟨k, tx, n, ty, s4, s5, s6⟩ ks = true) := by
        show _ = _
        unfold funcB
        rw [hlm, hu1, hal]
        simp [p0, p1, p2, p3, p4, e0]
      have f0_0 : (k == 2) = true := by
        have q := p0
        clear HR
        simp [] at q ⊢
        first | assumption | omega
      have f0_1 : (k != 2) = false := by
        have q := p0
        clear HR
        simp [] at q ⊢
        first | assumption | omega
      have H1 := fun W => proper_any tx W hst
      rw [p1] at H1
      have HH1 := Lib.hid H1
      clear H1
      have f2_0 : ((ks.length : Int) == 0) = false := by
        have q := of_decide_eq_true p2
        clear HR
        exact beq_false_of_ne (by omega)
      have H3 := fun W q0 q1 q2 q3 => has_3 (⟨k, tx, n, ty, s4, s5, s6⟩ : Nd) b o W q0 q1 q2 q3
      rw [p3] at H3
      have HH3 := Lib.hid H3
      clear H3
      have H4 := ih1
      rw [p4] at H4
      have HH4 := Lib.hid H4
      clear H4
      have hcap := HX.out.cap
      have hmc : m ≤ c := by omega
      have hsub : (ks.length : Int) - 1 = (m : Int) := by omega
      clear p0 p1 p2 p3 p4
      go_enter Tryz.func26, Tryz.ntmps26
      go_wp2_with fail
      refine (HH1.out _).mono ?_
      rintro e w1 ⟨rfl, hb⟩
      have HX := Lib.hid (HX.out.kept hb)
      clear hb hlt c0 c1 c2 c3 c4 c5 c6 c7
      obtain ⟨c0, c1, c2, c3, c4, c5, c6, c7⟩ := HX.out.cells
      have hlt := HX.out.lt
      go_wp2_with fail
      refine (HH3.out _ c0 c1 c2 c3).mono ?_
      rintro e w1 ⟨rfl, rfl⟩
      go_wp2_with fail
      refine (HH4.out _ _ _ _ (hk1at HX.out.kl)).mono ?_
      rintro e w1 ⟨rfl, hb⟩
      have HX := Lib.hid (HX.out.kept hb)
      clear hb hlt c0 c1 c2 c3 c4 c5 c6 c7
      obtain ⟨c0, c1, c2, c3, c4, c5, c6, c7⟩ := HX.out.cells
      have hlt := HX.out.lt
      go_wp2_with fail
      refine (HPA.out _ HX.out.kl).mono ?_
      rintro e w1 ⟨rfl, hb⟩
      have HX := Lib.hid (HX.out.kept hb)
      clear hb hlt c0 c1 c2 c3 c4 c5 c6 c7
      obtain ⟨c0, c1, c2, c3, c4, c5, c6, c7⟩ := HX.out.cells
      have hlt := HX.out.lt
      go_wp2
      go_ret
      exact ⟨by rw [HR.out]; rfl, HX.out.below⟩
  cases p4 : typeB ty
  · have HR : Hid (funcB P ⟨k, tx, n, ty, s4, s5, s6⟩ ks = false) := by
      show _ = _
      unfold funcB
      rw [hlm, hu1, hal]
      simp [p0, p1, p2, p3, p4, e0]
    have f0_0 : (k == 2) = true := by
      have q := p0
      clear HR
      simp [] at q ⊢
      first | assumption | omega
    have f0_1 : (k != 2) = false := by
      have q := p0
      clear HR
      simp [] at q ⊢
      first | assumption | omega
    have H1 := fun W => proper_any tx W hst
    rw [p1] at H1
    have HH1 := Lib.hid H1
    clear H1
    have f2_0 : ((ks.length : Int) == 0) = false := by
      have q := of_decide_eq_true p2
      clear HR
      exact beq_false_of_ne (by omega)
    have H3 := fun W q0 q1 q2 q3 => has_3 (⟨k, tx, n, ty, s4, s5, s6⟩ : Nd) b o W q0 q1 q2 q3
    rw [p3] at H3
    have HH3 := Lib.hid H3
    clear H3
    have H4 := fun W => Tyq.right_any ty W (by omega)
    rw [p4] at H4
    have HH4 := Lib.hid H4
    clear H4
    have hcap := HX.out.cap
    have hmc : m ≤ c := by omega
    have hsub : (ks.length : Int) - 1 = (m : Int) := by omega
    clear p0 p1 p2 p3 p4
    go_enter Tryz.func26, Tryz.ntmps26
    go_wp2_with fail
    refine (HH1.out _).mono ?_
    rintro e w1 ⟨rfl, hb⟩
    have HX := Lib.hid (HX.out.kept hb)
    clear hb hlt c0 c1 c2 c3 c4 c5 c6 c7
    obtain ⟨c0, c1, c2, c3, c4, c5, c6, c7⟩ := HX.out.cells
    have hlt := HX.out.lt
    go_wp2_with fail
    refine (HH3.out _ c0 c1 c2 c3).mono ?_
    rintro e w1 ⟨rfl, rfl⟩
    go_wp2_with fail
    refine (HH4.out _).mono ?_
    rintro e w1 ⟨rfl, rfl⟩
    go_wp2
    go_ret
    exact ⟨by rw [HR.out]; rfl, HX.out.below⟩
  cases p5 : blockT P u1
  · have HR : Hid (funcB P ⟨k, tx, n, ty, s4, s5, s6⟩ ks = false) := by
      show _ = _
      unfold funcB
      rw [hlm, hu1, hal]
      simp [p0, p1, p2, p3, p4, p5, e0]
    have f0_0 : (k == 2) = true := by
      have q := p0
      clear HR
      simp [] at q ⊢
      first | assumption | omega
    have f0_1 : (k != 2) = false := by
      have q := p0
      clear HR
      simp [] at q ⊢
      first | assumption | omega
    have H1 := fun W => proper_any tx W hst
    rw [p1] at H1
    have HH1 := Lib.hid H1
    clear H1
    have f2_0 : ((ks.length : Int) == 0) = false := by
      have q := of_decide_eq_true p2
      clear HR
      exact beq_false_of_ne (by omega)
    have H3 := fun W q0 q1 q2 q3 => has_3 (⟨k, tx, n, ty, s4, s5, s6⟩ : Nd) b o W q0 q1 q2 q3
    rw [p3] at H3
    have HH3 := Lib.hid H3
    clear H3
    have H4 := fun W => Tyq.right_any ty W (by omega)
    rw [p4] at H4
    have HH4 := Lib.hid H4
    clear H4
    have H5 := ih1
    rw [p5] at H5
    have HH5 := Lib.hid H5
    clear H5
    have hcap := HX.out.cap
    have hmc : m ≤ c := by omega
    have hsub : (ks.length : Int) - 1 = (m : Int) := by omega
    clear p0 p1 p2 p3 p4 p5
    go_enter Tryz.func26, Tryz.ntmps26
    go_wp2_with fail
    refine (HH1.out _).mono ?_
    rintro e w1 ⟨rfl, hb⟩
    have HX := Lib.hid (HX.out.kept hb)
    clear hb hlt c0 c1 c2 c3 c4 c5 c6 c7
    obtain ⟨c0, c1, c2, c3, c4, c5, c6, c7⟩ := HX.out.cells
    have hlt := HX.out.lt
    go_wp2_with fail
    refine (HH3.out _ c0 c1 c2 c3).mono ?_
    rintro e w1 ⟨rfl, rfl⟩
    go_wp2_with fail
    refine (HH4.out _).mono ?_
    rintro e w1 ⟨rfl, rfl⟩
    go_wp2_with fail
    refine (HH5.out _ _ _ _ (hk1at HX.out.kl)).mono ?_
    rintro e w1 ⟨rfl, hb⟩
    have HX := Lib.hid (HX.out.kept hb)
    clear hb hlt c0 c1 c2 c3 c4 c5 c6 c7
    obtain ⟨c0, c1, c2, c3, c4, c5, c6, c7⟩ := HX.out.cells
    have hlt := HX.out.lt
    go_wp2
    go_ret
    exact ⟨by rw [HR.out]; rfl, HX.out.below⟩
  cases al
  · have HR : Hid (funcB P ⟨k, tx, n, ty, s4, s5, s6⟩ ks = false) := by
      show _ = _
      unfold funcB
      rw [hlm, hu1, hal]
      simp [p0, p1, p2, p3, p4, p5, e0]
    have f0_0 : (k == 2) = true := by
      have q := p0
      clear HR
      simp [] at q ⊢
      first | assumption | omega
    have f0_1 : (k != 2) = false := by
      have q := p0
      clear HR
      simp [] at q ⊢
      first | assumption | omega
    have H1 := fun W => proper_any tx W hst
    rw [p1] at H1
    have HH1 := Lib.hid H1
    clear H1
    have f2_0 : ((ks.length : Int) == 0) = false := by
      have q := of_decide_eq_true p2
      clear HR
      exact beq_false_of_ne (by omega)
    have H3 := fun W q0 q1 q2 q3 => has_3 (⟨k, tx, n, ty, s4, s5, s6⟩ : Nd) b o W q0 q1 q2 q3
    rw [p3] at H3
    have HH3 := Lib.hid H3
    clear H3
    have H4 := fun W => Tyq.right_any ty W (by omega)
    rw [p4] at H4
    have HH4 := Lib.hid H4
    clear H4
    have H5 := ih1
    rw [p5] at H5
    have HH5 := Lib.hid H5
    clear H5
    have hcap := HX.out.cap
    have hmc : m ≤ c := by omega
    have hsub : (ks.length : Int) - 1 = (m : Int) := by omega
    clear p0 p1 p2 p3 p4 p5
    go_enter Tryz.func26, Tryz.ntmps26
    go_wp2_with fail
    refine (HH1.out _).mono ?_
    rintro e w1 ⟨rfl, hb⟩
    have HX := Lib.hid (HX.out.kept hb)
    clear hb hlt c0 c1 c2 c3 c4 c5 c6 c7
    obtain ⟨c0, c1, c2, c3, c4, c5, c6, c7⟩ := HX.out.cells
    have hlt := HX.out.lt
    go_wp2_with fail
    refine (HH3.out _ c0 c1 c2 c3).mono ?_
    rintro e w1 ⟨rfl, rfl⟩
    go_wp2_with fail
    refine (HH4.out _).mono ?_
    rintro e w1 ⟨rfl, rfl⟩
    go_wp2_with fail
    refine (HH5.out _ _ _ _ (hk1at HX.out.kl)).mono ?_
    rintro e w1 ⟨rfl, hb⟩
    have HX := Lib.hid (HX.out.kept hb)
    clear hb hlt c0 c1 c2 c3 c4 c5 c6 c7
    obtain ⟨c0, c1, c2, c3, c4, c5, c6, c7⟩ := HX.out.cells
    have hlt := HX.out.lt
    go_wp2_with fail
    refine (HPA.out _ HX.out.kl).mono ?_
    rintro e w1 ⟨rfl, hb⟩
    have HX := Lib.hid (HX.out.kept hb)
    clear hb hlt c0 c1 c2 c3 c4 c5 c6 c7
    obtain ⟨c0, c1, c2, c3, c4, c5, c6, c7⟩ := HX.out.cells
    have hlt := HX.out.lt
    go_wp2
    go_ret
    exact ⟨by rw [HR.out]; rfl, HX.out.below⟩
  · have HR : Hid (funcB P ⟨k, tx, n, ty, s4, s5, s6⟩ ks = true) := by
      show _ = _
      unfold funcB
      rw [hlm, hu1, hal]
      simp [p0, p1, p2, p3, p4, p5, e0]
    have f0_0 : (k == 2) = true := by
      have q := p0
      clear HR
      simp [] at q ⊢
      first | assumption | omega
    have f0_1 : (k != 2) = false := by
      have q := p0
      clear HR
      simp [] at q ⊢
      first | assumption | omega
    have H1 := fun W => proper_any tx W hst
    rw [p1] at H1
    have HH1 := Lib.hid H1
    clear H1
    have f2_0 : ((ks.length : Int) == 0) = false := by
      have q := of_decide_eq_true p2
      clear HR
      exact beq_false_of_ne (by omega)
    have H3 := fun W q0 q1 q2 q3 => has_3 (⟨k, tx, n, ty, s4, s5, s6⟩ : Nd) b o W q0 q1 q2 q3
    rw [p3] at H3
    have HH3 := Lib.hid H3
    clear H3
    have H4 := fun W => Tyq.right_any ty W (by omega)
    rw [p4] at H4
    have HH4 := Lib.hid H4
    clear H4
    have H5 := ih1
    rw [p5] at H5
    have HH5 := Lib.hid H5
    clear H5
    have hcap := HX.out.cap
    have hmc : m ≤ c := by omega
    have hsub : (ks.length : Int) - 1 = (m : Int) := by omega
    clear p0 p1 p2 p3 p4 p5
    go_enter Tryz.func26, Tryz.ntmps26
    go_wp2_with fail
    refine (HH1.out _).mono ?_
    rintro e w1 ⟨rfl, hb⟩
    have HX := Lib.hid (HX.out.kept hb)
    clear hb hlt c0 c1 c2 c3 c4 c5 c6 c7
    obtain ⟨c0, c1, c2, c3, c4, c5, c6, c7⟩ := HX.out.cells
    have hlt := HX.out.lt
    go_wp2_with fail
    refine (HH3.out _ c0 c1 c2 c3).mono ?_
    rintro e w1 ⟨rfl, rfl⟩
    go_wp2_with fail
    refine (HH4.out _).mono ?_
    rintro e w1 ⟨rfl, rfl⟩
    go_wp2_with fail
    refine (HH5.out _ _ _ _ (hk1at HX.out.kl)).mono ?_
    rintro e w1 ⟨rfl, hb⟩
    have HX := Lib.hid (HX.out.kept hb)
    clear hb hlt c0 c1 c2 c3 c4 c5 c6 c7
    obtain ⟨c0, c1, c2, c3, c4, c5, c6, c7⟩ := HX.out.cells
    have hlt := HX.out.lt
    go_wp2_with fail
    refine (HPA.out _ HX.out.kl).mono ?_
    rintro e w1 ⟨rfl, hb⟩
    have HX := Lib.hid (HX.out.kept hb)
    clear hb hlt c0 c1 c2 c3 c4 c5 c6 c7
    obtain ⟨c0, c1, c2, c3, c4, c5, c6, c7⟩ := HX.out.cells
    have hlt := HX.out.lt
    go_wp2
    go_ret
    exact ⟨by rw [HR.out]; rfl, HX.out.below⟩
end Go.Proofs.YtgodeffkboihlaaGreatDoor.Txu
