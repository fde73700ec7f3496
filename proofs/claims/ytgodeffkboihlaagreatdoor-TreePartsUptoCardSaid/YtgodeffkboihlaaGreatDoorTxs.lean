/- tree: Txs. Printed by mktree.py. -/
import Derived.Test.YtgodeffkboihlaaGreatDoorTxg
set_option linter.unusedVariables false
namespace Go.Proofs.YtgodeffkboihlaaGreatDoor.Txs
open Go.RowKit Tra Trb Trf Trd Tcn Trh Tha Nam Txa Tpr Tyq Txe Txg
theorem enters_stmt : Enters Tryz.prog 50 := enters_of Tryz.func50 (by kernel_rfl) rfl
set_option maxHeartbeats 8000000 in
set_option maxRecDepth 100000 in
theorem none_any (d : Nd) (ks : List Tr) (hF : Fit (.mk d ks)) (S : Nat → Prop) (b o : Nat) (w : World) (hA : At w S (.mk d ks) b o) :
    Calls Tryz.prog 104 #[.pointer (some ⟨b, o, none⟩)] w fun e w' => e = .returned (.bool (noneB d ks)) ∧ Below w.heap.size w w' := by
  obtain ⟨a, c, hN⟩ := Nod.start hA
  have hlen := fit_len hF
  have hnd := fit_nd hF
  have HFF := Lib.hid hF
  obtain ⟨k, tx, n, ty, s4, s5, s6⟩ := d
  have hst : tx.size ≤ 1048576 := hnd.text
  have hsy : ty.size ≤ 1048576 := hnd.ty
  have HX := Lib.hid hN
  obtain ⟨c0, c1, c2, c3, c4, c5, c6, c7⟩ := HX.out.cells
  have hlt := HX.out.lt
  clear hA hF hN hnd
  cases p0 : (k == 0)
  · have HR : Hid (noneB ⟨k, tx, n, ty, s4, s5, s6⟩ ks = false) := by
      show _ = _
      unfold noneB
      simp [p0]
    have f0_0 : (k == 0) = false := by
      have q := p0
      clear HR
      simp [] at q ⊢
      first | assumption | omega
    clear p0
    go_enter Tryz.func104, Tryz.ntmps104
    go_wp2
    go_ret
    exact ⟨by rw [HR.out]; rfl, HX.out.below⟩
  cases p1 : zero ks
  · have HR : Hid (noneB ⟨k, tx, n, ty, s4, s5, s6⟩ ks = false) := by
      show _ = _
      unfold noneB
      simp [p0, p1]
    have f0_0 : (k == 0) = true := by
      have q := p0
      clear HR
      simp [] at q ⊢
      first | assumption | omega
    have f1_0 : ((ks.length : Int) == 0) = false := by
      have q := p1
      clear HR
      simp [zero] at q ⊢
      first | assumption | omega
    clear p0 p1
    go_enter Tryz.func104, Tryz.ntmps104
    go_wp2
    go_ret
    exact ⟨by rw [HR.out]; rfl, HX.out.below⟩
  cases p2 : hasB false false false (⟨k, tx, n, ty, s4, s5, s6⟩ : Nd)
  · have HR : Hid (noneB ⟨k, tx, n, ty, s4, s5, s6⟩ ks = false) := by
      show _ = _
      unfold noneB
      simp [p0, p1, p2]
    have f0_0 : (k == 0) = true := by
      have q := p0
      clear HR
      simp [] at q ⊢
      first | assumption | omega
    have f1_0 : ((ks.length : Int) == 0) = true := by
      have q := p1
      clear HR
      simp [zero] at q ⊢
      first | assumption | omega
    have H2 := fun W q0 q1 q2 q3 => has_0 (⟨k, tx, n, ty, s4, s5, s6⟩ : Nd) b o W q0 q1 q2 q3
    rw [p2] at H2
    have HH2 := Lib.hid H2
    clear H2
    clear p0 p1 p2
    go_enter Tryz.func104, Tryz.ntmps104
    go_wp2_with fail
    refine (HH2.out _ c0 c1 c2 c3).mono ?_
    rintro e w1 ⟨rfl, rfl⟩
    go_wp2
    go_ret
    exact ⟨by rw [HR.out]; rfl, HX.out.below⟩
  have HR : Hid (noneB ⟨k, tx, n, ty, s4, s5, s6⟩ ks = true) := by
    show _ = _
    unfold noneB
    simp [p0, p1, p2]
  have f0_0 : (k == 0) = true := by
    have q := p0
    clear HR
    simp [] at q ⊢
    first | assumption | omega
  have f1_0 : ((ks.length : Int) == 0) = true := by
    have q := p1
    clear HR
    simp [zero] at q ⊢
    first | assumption | omega
  have H2 := fun W q0 q1 q2 q3 => has_0 (⟨k, tx, n, ty, s4, s5, s6⟩ : Nd) b o W q0 q1 q2 q3
  rw [p2] at H2
  have HH2 := Lib.hid H2
  clear H2
  clear p0 p1 p2
  go_enter Tryz.func104, Tryz.ntmps104
  go_wp2_with fail
  refine (HH2.out _ c0 c1 c2 c3).mono ?_
  rintro e w1 ⟨rfl, rfl⟩
  go_wp2
  go_ret
  exact ⟨by rw [HR.out]; rfl, HX.out.below⟩
set_option maxHeartbeats 8000000 in
set_option maxRecDepth 100000 in
theorem target_any (d : Nd) (ks : List Tr) (hF : Fit (.mk d ks)) (S : Nat → Prop) (b o : Nat) (w : World) (hA : At w S (.mk d ks) b o) :
    Calls Tryz.prog 111 #[.pointer (some ⟨b, o, none⟩)] w fun e w' => e = .returned (.bool (targetB d ks)) ∧ Below w.heap.size w w' := by
  obtain ⟨a, c, hN⟩ := Nod.start hA
  have hlen := fit_len hF
  have hnd := fit_nd hF
  have HFF := Lib.hid hF
  obtain ⟨k, tx, n, ty, s4, s5, s6⟩ := d
  have hst : tx.size ≤ 1048576 := hnd.text
  have hsy : ty.size ≤ 1048576 := hnd.ty
  have HX := Lib.hid hN
  obtain ⟨c0, c1, c2, c3, c4, c5, c6, c7⟩ := HX.out.cells
  have hlt := HX.out.lt
  clear hA hF hN hnd
  cases p0 : (k == 21)
  · have HR : Hid (targetB ⟨k, tx, n, ty, s4, s5, s6⟩ ks = false) := by
      show _ = _
      unfold targetB
      simp [p0]
    have f0_0 : (k == 21) = false := by
      have q := p0
      clear HR
      simp [] at q ⊢
      first | assumption | omega
    clear p0
    go_enter Tryz.func111, Tryz.ntmps111
    go_wp2
    go_ret
    exact ⟨by rw [HR.out]; rfl, HX.out.below⟩
  cases p1 : isName tx
  · have HR : Hid (targetB ⟨k, tx, n, ty, s4, s5, s6⟩ ks = false) := by
      show _ = _
      unfold targetB
      simp [p0, p1]
    have f0_0 : (k == 21) = true := by
      have q := p0
      clear HR
      simp [] at q ⊢
      first | assumption | omega
    have H1 := fun W => name_any tx W (by omega)
    rw [p1] at H1
    have HH1 := Lib.hid H1
    clear H1
    clear p0 p1
    go_enter Tryz.func111, Tryz.ntmps111
    go_wp2_with fail
    refine (HH1.out _).mono ?_
    rintro e w1 ⟨rfl, hb⟩
    have HX := Lib.hid (HX.out.kept hb)
    clear hb hlt c0 c1 c2 c3 c4 c5 c6 c7
    obtain ⟨c0, c1, c2, c3, c4, c5, c6, c7⟩ := HX.out.cells
    have hlt := HX.out.lt
    go_wp2
    go_ret
    exact ⟨by rw [HR.out]; rfl, HX.out.below⟩
  cases p2 : zero ks
  · have HR : Hid (targetB ⟨k, tx, n, ty, s4, s5, s6⟩ ks = false) := by
      show _ = _
      unfold targetB
      simp [p0, p1, p2]
    have f0_0 : (k == 21) = true := by
      have q := p0
      clear HR
      simp [] at q ⊢
      first | assumption | omega
    have H1 := fun W => name_any tx W (by omega)
    rw [p1] at H1
    have HH1 := Lib.hid H1
    clear H1
    have f2_0 : ((ks.length : Int) == 0) = false := by
      have q := p2
      clear HR
      simp [zero] at q ⊢
      first | assumption | omega
    clear p0 p1 p2
    go_enter Tryz.func111, Tryz.ntmps111
    go_wp2_with fail
    refine (HH1.out _).mono ?_
    rintro e w1 ⟨rfl, hb⟩
    have HX := Lib.hid (HX.out.kept hb)
    clear hb hlt c0 c1 c2 c3 c4 c5 c6 c7
    obtain ⟨c0, c1, c2, c3, c4, c5, c6, c7⟩ := HX.out.cells
    have hlt := HX.out.lt
    go_wp2
    go_ret
    exact ⟨by rw [HR.out]; rfl, HX.out.below⟩
  cases p3 : hasB true false false (⟨k, tx, n, ty, s4, s5, s6⟩ : Nd)
  · have HR : Hid (targetB ⟨k, tx, n, ty, s4, s5, s6⟩ ks = false) := by
      show _ = _
      unfold targetB
      simp [p0, p1, p2, p3]
    have f0_0 : (k == 21) = true := by
      have q := p0
      clear HR
      simp [] at q ⊢
      first | assumption | omega
    have H1 := fun W => name_any tx W (by omega)
    rw [p1] at H1
    have HH1 := Lib.hid H1
    clear H1
    have f2_0 : ((ks.length : Int) == 0) = true := by
      have q := p2
      clear HR
      simp [zero] at q ⊢
      first | assumption | omega
    have H3 := fun W q0 q1 q2 q3 => has_1 (⟨k, tx, n, ty, s4, s5, s6⟩ : Nd) b o W q0 q1 q2 q3
    rw [p3] at H3
    have HH3 := Lib.hid H3
    clear H3
    clear p0 p1 p2 p3
    go_enter Tryz.func111, Tryz.ntmps111
    go_wp2_with fail
    refine (HH1.out _).mono ?_
    rintro e w1 ⟨rfl, hb⟩
    have HX := Lib.hid (HX.out.kept hb)
    clear hb hlt c0 c1 c2 c3 c4 c5 c6 c7
    obtain ⟨c0, c1, c2, c3, c4, c5, c6, c7⟩ := HX.out.cells
    have hlt := HX.out.lt
    go_wp2_with fail
    refine (HH3.out _ c0 c1 c2 c3).mono ?_
    rintro e w1 ⟨rfl, rfl⟩
    go_wp2
    go_ret
    exact ⟨by rw [HR.out]; rfl, HX.out.below⟩
  have HR : Hid (targetB ⟨k, tx, n, ty, s4, s5, s6⟩ ks = true) := by
    show _ = _
    unfold targetB
    simp [p0, p1, p2, p3]
  have f0_0 : (k == 21) = true := by
    have q := p0
    clear HR
    simp [] at q ⊢
    first | assumption | omega
  have H1 := fun W => name_any tx W (by omega)
  rw [p1] at H1
  have HH1 := Lib.hid H1
  clear H1
  have f2_0 : ((ks.length : Int) == 0) = true := by
    have q := p2
    clear HR
    simp [zero] at q ⊢
    first | assumption | omega
  have H3 := fun W q0 q1 q2 q3 => has_1 (⟨k, tx, n, ty, s4, s5, s6⟩ : Nd) b o W q0 q1 q2 q3
  rw [p3] at H3
  have HH3 := Lib.hid H3
  clear H3
  clear p0 p1 p2 p3
  go_enter Tryz.func111, Tryz.ntmps111
  go_wp2_with fail
  refine (HH1.out _).mono ?_
  rintro e w1 ⟨rfl, hb⟩
  have HX := Lib.hid (HX.out.kept hb)
  clear hb hlt c0 c1 c2 c3 c4 c5 c6 c7
  obtain ⟨c0, c1, c2, c3, c4, c5, c6, c7⟩ := HX.out.cells
  have hlt := HX.out.lt
  go_wp2_with fail
  refine (HH3.out _ c0 c1 c2 c3).mono ?_
  rintro e w1 ⟨rfl, rfl⟩
  go_wp2
  go_ret
  exact ⟨by rw [HR.out]; rfl, HX.out.below⟩
set_option maxHeartbeats 8000000 in
set_option maxRecDepth 100000 in
theorem block_any (P : Tr → Bool) (d : Nd) (ks : List Tr) (hF : Fit (.mk d ks)) (ihp : ∀ j, j < ks.length → Pays 50 P (ks.getD j tr0)) (S : Nat → Prop) (b o : Nat) (w : World) (hA : At w S (.mk d ks) b o) :
    Calls Tryz.prog 38 #[.pointer (some ⟨b, o, none⟩)] w fun e w' => e = .returned (.bool (blockB P d ks)) ∧ Below w.heap.size w w' := by
  obtain ⟨a, c, hN⟩ := Nod.start hA
  have hlen := fit_len hF
  have hnd := fit_nd hF
  have HFF := Lib.hid hF
  obtain ⟨k, tx, n, ty, s4, s5, s6⟩ := d
  have hst : tx.size ≤ 1048576 := hnd.text
  have hsy : ty.size ≤ 1048576 := hnd.ty
  have HX := Lib.hid hN
  obtain ⟨c0, c1, c2, c3, c4, c5, c6, c7⟩ := HX.out.cells
  have hlt := HX.out.lt
  clear hA hF hN hnd
  cases p0 : (k == 4)
  · have HR : Hid (blockB P ⟨k, tx, n, ty, s4, s5, s6⟩ ks = false) := by
      show _ = _
      unfold blockB
      simp [p0]
    have f0_0 : (k == 4) = false := by
      have q := p0
      clear HR
      simp [] at q ⊢
      first | assumption | omega
    clear p0
    go_enter Tryz.func38, Tryz.ntmps38
    go_wp2
    go_ret
    exact ⟨by rw [HR.out]; rfl, HX.out.below⟩
  cases p1 : hasB false false false (⟨k, tx, n, ty, s4, s5, s6⟩ : Nd)
  · have HR : Hid (blockB P ⟨k, tx, n, ty, s4, s5, s6⟩ ks = false) := by
      show _ = _
      unfold blockB
      simp [p0, p1]
    have f0_0 : (k == 4) = true := by
      have q := p0
      clear HR
      simp [] at q ⊢
      first | assumption | omega
    have H1 := fun W q0 q1 q2 q3 => has_0 (⟨k, tx, n, ty, s4, s5, s6⟩ : Nd) b o W q0 q1 q2 q3
    rw [p1] at H1
    have HH1 := Lib.hid H1
    clear H1
    clear p0 p1
    go_enter Tryz.func38, Tryz.ntmps38
    go_wp2_with fail
    refine (HH1.out _ c0 c1 c2 c3).mono ?_
    rintro e w1 ⟨rfl, rfl⟩
    go_wp2
    go_ret
    exact ⟨by rw [HR.out]; rfl, HX.out.below⟩
  cases p2 : ks.all P
  · have HR : Hid (blockB P ⟨k, tx, n, ty, s4, s5, s6⟩ ks = false) := by
      show _ = _
      unfold blockB
      simp [p0, p1, p2]
    have f0_0 : (k == 4) = true := by
      have q := p0
      clear HR
      simp [] at q ⊢
      first | assumption | omega
    have H1 := fun W q0 q1 q2 q3 => has_0 (⟨k, tx, n, ty, s4, s5, s6⟩ : Nd) b o W q0 q1 q2 q3
    rw [p1] at H1
    have HH1 := Lib.hid H1
    clear H1
    have H2 := fun W h => all_of enters_stmt a c hlen ihp (S := fun _ => True) W h
    rw [p2] at H2
    have HH2 := Lib.hid H2
    clear H2
    clear p0 p1 p2
    go_enter Tryz.func38, Tryz.ntmps38
    go_wp2_with fail
    refine (HH1.out _ c0 c1 c2 c3).mono ?_
    rintro e w1 ⟨rfl, rfl⟩
    go_wp2_with fail
    refine (HH2.out _ HX.out.kl).mono ?_
    rintro e w1 ⟨rfl, hb⟩
    have HX := Lib.hid (HX.out.kept hb)
    clear hb hlt c0 c1 c2 c3 c4 c5 c6 c7
    obtain ⟨c0, c1, c2, c3, c4, c5, c6, c7⟩ := HX.out.cells
    have hlt := HX.out.lt
    go_wp2
    go_ret
    exact ⟨by rw [HR.out]; rfl, HX.out.below⟩
  have HR : Hid (blockB P ⟨k, tx, n, ty, s4, s5, s6⟩ ks = true) := by
    show _ = _
    unfold blockB
    simp [p0, p1, p2]
  have f0_0 : (k == 4) = true := by
    have q := p0
    clear HR
    simp [] at q ⊢
    first | assumption | omega
  have H1 := fun W q0 q1 q2 q3 => has_0 (⟨k, tx, n, ty, s4, s5, s6⟩ : Nd) b o W q0 q1 q2 q3
  rw [p1] at H1
  have HH1 := Lib.hid H1
  clear H1
  have H2 := fun W h => all_of enters_stmt a c hlen ihp (S := fun _ => True) W h
  rw [p2] at H2
  have HH2 := Lib.hid H2
  clear H2
  clear p0 p1 p2
  go_enter Tryz.func38, Tryz.ntmps38
  go_wp2_with fail
  refine (HH1.out _ c0 c1 c2 c3).mono ?_
  rintro e w1 ⟨rfl, rfl⟩
  go_wp2_with fail
  refine (HH2.out _ HX.out.kl).mono ?_
  rintro e w1 ⟨rfl, hb⟩
  have HX := Lib.hid (HX.out.kept hb)
  clear hb hlt c0 c1 c2 c3 c4 c5 c6 c7
  obtain ⟨c0, c1, c2, c3, c4, c5, c6, c7⟩ := HX.out.cells
  have hlt := HX.out.lt
  go_wp2
  go_ret
  exact ⟨by rw [HR.out]; rfl, HX.out.below⟩
set_option maxHeartbeats 8000000 in
set_option maxRecDepth 100000 in
theorem param_any (d : Nd) (ks : List Tr) (hF : Fit (.mk d ks)) (S : Nat → Prop) (b o : Nat) (w : World) (hA : At w S (.mk d ks) b o) :
    Calls Tryz.prog 39 #[.pointer (some ⟨b, o, none⟩)] w fun e w' => e = .returned (.bool (paramB d ks)) ∧ Below w.heap.size w w' := by
  obtain ⟨a, c, hN⟩ := Nod.start hA
  have hlen := fit_len hF
  have hnd := fit_nd hF
  have HFF := Lib.hid hF
  obtain ⟨k, tx, n, ty, s4, s5, s6⟩ := d
  have hst : tx.size ≤ 1048576 := hnd.text
  have hsy : ty.size ≤ 1048576 := hnd.ty
  have HX := Lib.hid hN
  obtain ⟨c0, c1, c2, c3, c4, c5, c6, c7⟩ := HX.out.cells
  have hlt := HX.out.lt
  clear hA hF hN hnd
  cases p0 : (k == 3)
  · have HR : Hid (paramB ⟨k, tx, n, ty, s4, s5, s6⟩ ks = false) := by
      show _ = _
      unfold paramB
      simp [p0]
    have f0_0 : (k == 3) = false := by
      have q := p0
      clear HR
      simp [] at q ⊢
      first | assumption | omega
    clear p0
    go_enter Tryz.func39, Tryz.ntmps39
    go_wp2
    go_ret
    exact ⟨by rw [HR.out]; rfl, HX.out.below⟩
  cases p1 : properB tx
  · have HR : Hid (paramB ⟨k, tx, n, ty, s4, s5, s6⟩ ks = false) := by
      show _ = _
      unfold paramB
      simp [p0, p1]
    have f0_0 : (k == 3) = true := by
      have q := p0
      clear HR
      simp [] at q ⊢
      first | assumption | omega
    have H1 := fun W => proper_any tx W hst
    rw [p1] at H1
    have HH1 := Lib.hid H1
    clear H1
    clear p0 p1
    go_enter Tryz.func39, Tryz.ntmps39
    go_wp2_with fail
    refine (HH1.out _).mono ?_
    rintro e w1 ⟨rfl, hb⟩
    have HX := Lib.hid (HX.out.kept hb)
    clear hb hlt c0 c1 c2 c3 c4 c5 c6 c7
    obtain ⟨c0, c1, c2, c3, c4, c5, c6, c7⟩ := HX.out.cells
    have hlt := HX.out.lt
    go_wp2
    go_ret
    exact ⟨by rw [HR.out]; rfl, HX.out.below⟩
  cases p2 : typeB ty
  · have HR : Hid (paramB ⟨k, tx, n, ty, s4, s5, s6⟩ ks = false) := by
      show _ = _
      unfold paramB
      simp [p0, p1, p2]
    have f0_0 : (k == 3) = true := by
      have q := p0
      clear HR
      simp [] at q ⊢
      first | assumption | omega
    have H1 := fun W => proper_any tx W hst
    rw [p1] at H1
    have HH1 := Lib.hid H1
    clear H1
    have H2 := fun W => Tyq.right_any ty W (by omega)
    rw [p2] at H2
    have HH2 := Lib.hid H2
    clear H2
    clear p0 p1 p2
    go_enter Tryz.func39, Tryz.ntmps39
    go_wp2_with fail
    refine (HH1.out _).mono ?_
    rintro e w1 ⟨rfl, hb⟩
    have HX := Lib.hid (HX.out.kept hb)
    clear hb hlt c0 c1 c2 c3 c4 c5 c6 c7
    obtain ⟨c0, c1, c2, c3, c4, c5, c6, c7⟩ := HX.out.cells
    have hlt := HX.out.lt
    go_wp2_with fail
    refine (HH2.out _).mono ?_
    rintro e w1 ⟨rfl, rfl⟩
    go_wp2
    go_ret
    exact ⟨by rw [HR.out]; rfl, HX.out.below⟩
  cases p3 : zero ks
  · have HR : Hid (paramB ⟨k, tx, n, ty, s4, s5, s6⟩ ks = false) := by
      show _ = _
      unfold paramB
      simp [p0, p1, p2, p3]
    have f0_0 : (k == 3) = true := by
      have q := p0
      clear HR
      simp [] at q ⊢
      first | assumption | omega
    have H1 := fun W => proper_any tx W hst
    rw [p1] at H1
    have HH1 := Lib.hid H1
    clear H1
    have H2 := fun W => Tyq.right_any ty W (by omega)
    rw [p2] at H2
    have HH2 := Lib.hid H2
    clear H2
    have f3_0 : ((ks.length : Int) == 0) = false := by
      have q := p3
      clear HR
      simp [zero] at q ⊢
      first | assumption | omega
    clear p0 p1 p2 p3
    go_enter Tryz.func39, Tryz.ntmps39
    go_wp2_with fail
    refine (HH1.out _).mono ?_
    rintro e w1 ⟨rfl, hb⟩
    have HX := Lib.hid (HX.out.kept hb)
    clear hb hlt c0 c1 c2 c3 c4 c5 c6 c7
    obtain ⟨c0, c1, c2, c3, c4, c5, c6, c7⟩ := HX.out.cells
    have hlt := HX.out.lt
    go_wp2_with fail
    refine (HH2.out _).mono ?_
    rintro e w1 ⟨rfl, rfl⟩
    go_wp2
    go_ret
    exact ⟨by rw [HR.out]; rfl, HX.out.below⟩
  cases p4 : hasB true true false (⟨k, tx, n, ty, s4, s5, s6⟩ : Nd)
  · have HR : Hid (paramB ⟨k, tx, n, ty, s4, s5, s6⟩ ks = false) := by
      show _ = _
      unfold paramB
      simp [p0, p1, p2, p3, p4]
    have f0_0 : (k == 3) = true := by
      have q := p0
      clear HR
      simp [] at q ⊢
      first | assumption | omega
    have H1 := fun W => proper_any tx W hst
    rw [p1] at H1
    have HH1 := Lib.hid H1
    clear H1
    have H2 := fun W => Tyq.right_any ty W (by omega)
    rw [p2] at H2
    have HH2 := Lib.hid H2
    clear H2
    have f3_0 : ((ks.length : Int) == 0) = true := by
      have q := p3
      clear HR
      simp [zero] at q ⊢
      first | assumption | omega
    have H4 := fun W q0 q1 q2 q3 => has_3 (⟨k, tx, n, ty, s4, s5, s6⟩ : Nd) b o W q0 q1 q2 q3
    rw [p4] at H4
    have HH4 := Lib.hid H4
    clear H4
    clear p0 p1 p2 p3 p4
    go_enter Tryz.func39, Tryz.ntmps39
    go_wp2_with fail
    refine (HH1.out _).mono ?_
    rintro e w1 ⟨rfl, hb⟩
    have HX := Lib.hid (HX.out.kept hb)
    clear hb hlt c0 c1 c2 c3 c4 c5 c6 c7
    obtain ⟨c0, c1, c2, c3, c4, c5, c6, c7⟩ := HX.out.cells
    have hlt := HX.out.lt
    go_wp2_with fail
    refine (HH2.out _).mono ?_
    rintro e w1 ⟨rfl, rfl⟩
    go_wp2_with fail
    refine (HH4.out _ c0 c1 c2 c3).mono ?_
    rintro e w1 ⟨rfl, rfl⟩
    go_wp2
    go_ret
    exact ⟨by rw [HR.out]; rfl, HX.out.below⟩
  have HR : Hid (paramB ⟨k, tx, n, ty, s4, s5, s6⟩ ks = true) := by
    show _ = _
    unfold paramB
    simp [p0, p1, p2, p3, p4]
  have f0_0 : (k == 3) = true := by
    have q := p0
    clear HR
    simp [] at q ⊢
    first | assumption | omega
  have H1 := fun W => proper_any tx W hst
  rw [p1] at H1
  have HH1 := Lib.hid H1
  clear H1
  have H2 := fun W => Tyq.right_any ty W (by omega)
  rw [p2] at H2
  have HH2 := Lib.hid H2
  clear H2
  have f3_0 : ((ks.length : Int) == 0) = true := by
    have q := p3
    clear HR
    simp [zero] at q ⊢
    first | assumption | omega
  have H4 := fun W q0 q1 q2 q3 => has_3 (⟨k, tx, n, ty, s4, s5, s6⟩ : Nd) b o W q0 q1 q2 q3
  rw [p4] at H4
  have HH4 := Lib.hid H4
  clear H4
  clear p0 p1 p2 p3 p4
  go_enter Tryz.func39, Tryz.ntmps39
  go_wp2_with fail
  refine (HH1.out _).mono ?_
  rintro e w1 ⟨rfl, hb⟩
  have HX := Lib.hid (HX.out.kept hb)
  clear hb hlt c0 c1 c2 c3 c4 c5 c6 c7
  obtain ⟨c0, c1, c2, c3, c4, c5, c6, c7⟩ := HX.out.cells
  have hlt := HX.out.lt
  go_wp2_with fail
  refine (HH2.out _).mono ?_
  rintro e w1 ⟨rfl, rfl⟩
  go_wp2_with fail
  refine (HH4.out _ c0 c1 c2 c3).mono ?_
  rintro e w1 ⟨rfl, rfl⟩
  go_wp2
  go_ret
  exact ⟨by rw [HR.out]; rfl, HX.out.below⟩
set_option maxHeartbeats 8000000 in
set_option maxRecDepth 100000 in
theorem simple_send (E : Tr → Bool) (d : Nd) (ks : List Tr) (hF : Fit (.mk d ks)) (hk : d.k = 9) (ih : ∀ j, j < ks.length → Pays 62 E (ks.getD j tr0)) (S : Nat → Prop) (b o : Nat) (w : World) (hA : At w S (.mk d ks) b o) :
    Calls Tryz.prog 66 #[.pointer (some ⟨b, o, none⟩)] w fun e w' => e = .returned (.bool (sendB E d ks)) ∧ Below w.heap.size w w' := by
  obtain ⟨a, c, hN⟩ := Nod.start hA
  have hlen := fit_len hF
  have hnd := fit_nd hF
  have HFF := Lib.hid hF
  obtain ⟨k, tx, n, ty, s4, s5, s6⟩ := d
  have hst : tx.size ≤ 1048576 := hnd.text
  have hsy : ty.size ≤ 1048576 := hnd.ty
  simp only at hk
  subst hk
  have HX := Lib.hid hN
  obtain ⟨c0, c1, c2, c3, c4, c5, c6, c7⟩ := HX.out.cells
  have hlt := HX.out.lt
  clear hA hF hN hnd
  cases p0 : (ks.length == 2)
  · have HR : Hid (sendB E ⟨9, tx, n, ty, s4, s5, s6⟩ ks = false) := by
      show _ = _
      unfold sendB
      simp [p0]
    have f0_0 : ((ks.length : Int) == 2) = false := by
      have q := p0
      clear HR
      simp [] at q ⊢
      first | assumption | omega
    clear p0
    go_enter Tryz.func66, Tryz.ntmps66
    go_wp2
    go_ret
    exact ⟨by rw [HR.out]; rfl, HX.out.below⟩
  cases p1 : hasB false false false (⟨9, tx, n, ty, s4, s5, s6⟩ : Nd)
  · have HR : Hid (sendB E ⟨9, tx, n, ty, s4, s5, s6⟩ ks = false) := by
      show _ = _
      unfold sendB
      simp [p0, p1]
    have f0_0 : ((ks.length : Int) == 2) = true := by
      have q := p0
      clear HR
      simp [] at q ⊢
      first | assumption | omega
    have H1 := fun W q0 q1 q2 q3 => has_0 (⟨9, tx, n, ty, s4, s5, s6⟩ : Nd) b o W q0 q1 q2 q3
    rw [p1] at H1
    have HH1 := Lib.hid H1
    clear H1
    clear p0 p1
    go_enter Tryz.func66, Tryz.ntmps66
    go_wp2_with fail
    refine (HH1.out _ c0 c1 c2 c3).mono ?_
    rintro e w1 ⟨rfl, rfl⟩
    go_wp2
    go_ret
    exact ⟨by rw [HR.out]; rfl, HX.out.below⟩
  cases p2 : ks.all E
  · have HR : Hid (sendB E ⟨9, tx, n, ty, s4, s5, s6⟩ ks = false) := by
      show _ = _
      unfold sendB
      simp [p0, p1, p2]
    have f0_0 : ((ks.length : Int) == 2) = true := by
      have q := p0
      clear HR
      simp [] at q ⊢
      first | assumption | omega
    have H1 := fun W q0 q1 q2 q3 => has_0 (⟨9, tx, n, ty, s4, s5, s6⟩ : Nd) b o W q0 q1 q2 q3
    rw [p1] at H1
    have HH1 := Lib.hid H1
    clear H1
    have H2 := fun W h => all_of enters_expr a c hlen ih (S := fun _ => True) W h
    rw [p2] at H2
    have HH2 := Lib.hid H2
    clear H2
    clear p0 p1 p2
    go_enter Tryz.func66, Tryz.ntmps66
    go_wp2_with fail
    refine (HH1.out _ c0 c1 c2 c3).mono ?_
    rintro e w1 ⟨rfl, rfl⟩
    go_wp2_with fail
    refine (HH2.out _ HX.out.kl).mono ?_
    rintro e w1 ⟨rfl, hb⟩
    have HX := Lib.hid (HX.out.kept hb)
    clear hb hlt c0 c1 c2 c3 c4 c5 c6 c7
    obtain ⟨c0, c1, c2, c3, c4, c5, c6, c7⟩ := HX.out.cells
    have hlt := HX.out.lt
    go_wp2
    go_ret
    exact ⟨by rw [HR.out]; rfl, HX.out.below⟩
  have HR : Hid (sendB E ⟨9, tx, n, ty, s4, s5, s6⟩ ks = true) := by
    show _ = _
    unfold sendB
    simp [p0, p1, p2]
  have f0_0 : ((ks.length : Int) == 2) = true := by
    have q := p0
    clear HR
    simp [] at q ⊢
    first | assumption | omega
  have H1 := fun W q0 q1 q2 q3 => has_0 (⟨9, tx, n, ty, s4, s5, s6⟩ : Nd) b o W q0 q1 q2 q3
  rw [p1] at H1
  have HH1 := Lib.hid H1
  clear H1
  have H2 := fun W h => all_of enters_expr a c hlen ih (S := fun _ => True) W h
  rw [p2] at H2
  have HH2 := Lib.hid H2
  clear H2
  clear p0 p1 p2
  go_enter Tryz.func66, Tryz.ntmps66
  go_wp2_with fail
  refine (HH1.out _ c0 c1 c2 c3).mono ?_
  rintro e w1 ⟨rfl, rfl⟩
  go_wp2_with fail
  refine (HH2.out _ HX.out.kl).mono ?_
  rintro e w1 ⟨rfl, hb⟩
  have HX := Lib.hid (HX.out.kept hb)
  clear hb hlt c0 c1 c2 c3 c4 c5 c6 c7
  obtain ⟨c0, c1, c2, c3, c4, c5, c6, c7⟩ := HX.out.cells
  have hlt := HX.out.lt
  go_wp2
  go_ret
  exact ⟨by rw [HR.out]; rfl, HX.out.below⟩
set_option maxHeartbeats 8000000 in
set_option maxRecDepth 100000 in
theorem stmt_var (E : Tr → Bool) (d : Nd) (ks : List Tr) (hF : Fit (.mk d ks)) (hk : d.k = 5) (ih : ∀ j, j < ks.length → Pays 62 E (ks.getD j tr0)) (S : Nat → Prop) (b o : Nat) (w : World) (hA : At w S (.mk d ks) b o) :
    Calls Tryz.prog 50 #[.pointer (some ⟨b, o, none⟩)] w fun e w' => e = .returned (.bool (varB E d ks)) ∧ Below w.heap.size w w' := by
  obtain ⟨a, c, hN⟩ := Nod.start hA
  have hlen := fit_len hF
  have hnd := fit_nd hF
  have HFF := Lib.hid hF
  obtain ⟨k, tx, n, ty, s4, s5, s6⟩ := d
  have hst : tx.size ≤ 1048576 := hnd.text
  have hsy : ty.size ≤ 1048576 := hnd.ty
  simp only at hk
  subst hk
  have HX := Lib.hid hN
  obtain ⟨c0, c1, c2, c3, c4, c5, c6, c7⟩ := HX.out.cells
  have hlt := HX.out.lt
  clear hA hF hN hnd
  cases p0 : properB tx
  · have HR : Hid (varB E ⟨5, tx, n, ty, s4, s5, s6⟩ ks = false) := by
      show _ = _
      unfold varB
      simp [p0]
    have H0 := fun W => proper_any tx W hst
    rw [p0] at H0
    have HH0 := Lib.hid H0
    clear H0
    clear p0
    go_enter Tryz.func50, Tryz.ntmps50
    go_wp2_with fail
    refine (HH0.out _).mono ?_
    rintro e w1 ⟨rfl, hb⟩
    have HX := Lib.hid (HX.out.kept hb)
    clear hb hlt c0 c1 c2 c3 c4 c5 c6 c7
    obtain ⟨c0, c1, c2, c3, c4, c5, c6, c7⟩ := HX.out.cells
    have hlt := HX.out.lt
    go_wp2
    go_ret
    exact ⟨by rw [HR.out]; rfl, HX.out.below⟩
  cases p1 : typeB ty
  · have HR : Hid (varB E ⟨5, tx, n, ty, s4, s5, s6⟩ ks = false) := by
      show _ = _
      unfold varB
      simp [p0, p1]
    have H0 := fun W => proper_any tx W hst
    rw [p0] at H0
    have HH0 := Lib.hid H0
    clear H0
    have H1 := fun W => Tyq.right_any ty W (by omega)
    rw [p1] at H1
    have HH1 := Lib.hid H1
    clear H1
    clear p0 p1
    go_enter Tryz.func50, Tryz.ntmps50
    go_wp2_with fail
    refine (HH0.out _).mono ?_
    rintro e w1 ⟨rfl, hb⟩
    have HX := Lib.hid (HX.out.kept hb)
    clear hb hlt c0 c1 c2 c3 c4 c5 c6 c7
    obtain ⟨c0, c1, c2, c3, c4, c5, c6, c7⟩ := HX.out.cells
    have hlt := HX.out.lt
    go_wp2_with fail
    refine (HH1.out _).mono ?_
    rintro e w1 ⟨rfl, rfl⟩
    go_wp2
    go_ret
    exact ⟨by rw [HR.out]; rfl, HX.out.below⟩
  cases p2 : decide (ks.length ≤ 1)
  · have HR : Hid (varB E ⟨5, tx, n, ty, s4, s5, s6⟩ ks = false) := by
      show _ = _
      unfold varB
      simp [p0, p1, p2]
    have H0 := fun W => proper_any tx W hst
    rw [p0] at H0
    have HH0 := Lib.hid H0
    clear H0
    have H1 := fun W => Tyq.right_any ty W (by omega)
    rw [p1] at H1
    have HH1 := Lib.hid H1
    clear H1
    have f2_0 : decide ((ks.length : Int) ≤ 1) = false := by
      have q := of_decide_eq_false p2
      clear HR
      exact decide_eq_false (by omega)
    have f2_1 : decide (ks.length ≤ 1) = false := by
      have q := of_decide_eq_false p2
      clear HR
      exact decide_eq_false (by omega)
    clear p0 p1 p2
    go_enter Tryz.func50, Tryz.ntmps50
    go_wp2_with fail
    refine (HH0.out _).mono ?_
    rintro e w1 ⟨rfl, hb⟩
    have HX := Lib.hid (HX.out.kept hb)
    clear hb hlt c0 c1 c2 c3 c4 c5 c6 c7
    obtain ⟨c0, c1, c2, c3, c4, c5, c6, c7⟩ := HX.out.cells
    have hlt := HX.out.lt
    go_wp2_with fail
    refine (HH1.out _).mono ?_
    rintro e w1 ⟨rfl, rfl⟩
    go_wp2
    go_ret
    exact ⟨by rw [HR.out]; rfl, HX.out.below⟩
  cases p3 : hasB true true false (⟨5, tx, n, ty, s4, s5, s6⟩ : Nd)
  · have HR : Hid (varB E ⟨5, tx, n, ty, s4, s5, s6⟩ ks = false) := by
      show _ = _
      unfold varB
      simp [p0, p1, p2, p3]
    have H0 := fun W => proper_any tx W hst
    rw [p0] at H0
    have HH0 := Lib.hid H0
    clear H0
    have H1 := fun W => Tyq.right_any ty W (by omega)
    rw [p1] at H1
    have HH1 := Lib.hid H1
    clear H1
    have f2_0 : decide ((ks.length : Int) ≤ 1) = true := by
      have q := of_decide_eq_true p2
      clear HR
      exact decide_eq_true (by omega)
    have f2_1 : decide (ks.length ≤ 1) = true := by
      have q := of_decide_eq_true p2
      clear HR
      exact decide_eq_true (by omega)
    have H3 := fun W q0 q1 q2 q3 => has_3 (⟨5, tx, n, ty, s4, s5, s6⟩ : Nd) b o W q0 q1 q2 q3
    rw [p3] at H3
    have HH3 := Lib.hid H3
    clear H3
    clear p0 p1 p2 p3
    go_enter Tryz.func50, Tryz.ntmps50
    go_wp2_with fail
    refine (HH0.out _).mono ?_
    rintro e w1 ⟨rfl, hb⟩
    have HX := Lib.hid (HX.out.kept hb)
    clear hb hlt c0 c1 c2 c3 c4 c5 c6 c7
    obtain ⟨c0, c1, c2, c3, c4, c5, c6, c7⟩ := HX.out.cells
    have hlt := HX.out.lt
    go_wp2_with fail
    refine (HH1.out _).mono ?_
    rintro e w1 ⟨rfl, rfl⟩
    go_wp2_with fail
    refine (HH3.out _ c0 c1 c2 c3).mono ?_
    rintro e w1 ⟨rfl, rfl⟩
    go_wp2
    go_ret
    exact ⟨by rw [HR.out]; rfl, HX.out.below⟩
  cases p4 : ks.all E
  · have HR : Hid (varB E ⟨5, tx, n, ty, s4, s5, s6⟩ ks = false) := by
      show _ = _
      unfold varB
      simp [p0, p1, p2, p3, p4]
    have H0 := fun W => proper_any tx W hst
    rw [p0] at H0
    have HH0 := Lib.hid H0
    clear H0
    have H1 := fun W => Tyq.right_any ty W (by omega)
    rw [p1] at H1
    have HH1 := Lib.hid H1
    clear H1
    have f2_0 : decide ((ks.length : Int) ≤ 1) = true := by
      have q := of_decide_eq_true p2
      clear HR
      exact decide_eq_true (by omega)
    have f2_1 : decide (ks.length ≤ 1) = true := by
      have q := of_decide_eq_true p2
      clear HR
      exact decide_eq_true (by omega)
    have H3 := fun W q0 q1 q2 q3 => has_3 (⟨5, tx, n, ty, s4, s5, s6⟩ : Nd) b o W q0 q1 q2 q3
    rw [p3] at H3
    have HH3 := Lib.hid H3
    clear H3
    have H4 := fun W h => all_of enters_expr a c hlen ih (S := fun _ => True) W h
    rw [p4] at H4
    have HH4 := Lib.hid H4
    clear H4
    clear p0 p1 p2 p3 p4
    go_enter Tryz.func50, Tryz.ntmps50
    go_wp2_with fail
    refine (HH0.out _).mono ?_
    rintro e w1 ⟨rfl, hb⟩
    have HX := Lib.hid (HX.out.kept hb)
    clear hb hlt c0 c1 c2 c3 c4 c5 c6 c7
    obtain ⟨c0, c1, c2, c3, c4, c5, c6, c7⟩ := HX.out.cells
    have hlt := HX.out.lt
    go_wp2_with fail
    refine (HH1.out _).mono ?_
    rintro e w1 ⟨rfl, rfl⟩
    go_wp2_with fail
    refine (HH3.out _ c0 c1 c2 c3).mono ?_
    rintro e w1 ⟨rfl, rfl⟩
    go_wp2_with fail
    refine (HH4.out _ HX.out.kl).mono ?_
    rintro e w1 ⟨rfl, hb⟩
    have HX := Lib.hid (HX.out.kept hb)
    clear hb hlt c0 c1 c2 c3 c4 c5 c6 c7
    obtain ⟨c0, c1, c2, c3, c4, c5, c6, c7⟩ := HX.out.cells
    have hlt := HX.out.lt
    go_wp2
    go_ret
    exact ⟨by rw [HR.out]; rfl, HX.out.below⟩
  have HR : Hid (varB E ⟨5, tx, n, ty, s4, s5, s6⟩ ks = true) := by
    show _ = _
    unfold varB
    simp [p0, p1, p2, p3, p4]
  have H0 := fun W => proper_any tx W hst
  rw [p0] at H0
  have HH0 := Lib.hid H0
  clear H0
  have H1 := fun W => Tyq.right_any ty W (by omega)
  rw [p1] at H1
  have HH1 := Lib.hid H1
  clear H1
  have f2_0 : decide ((ks.length : Int) ≤ 1) = true := by
    have q := of_decide_eq_true p2
    clear HR
    exact decide_eq_true (by omega)
  have f2_1 : decide (ks.length ≤ 1) = true := by
    have q := of_decide_eq_true p2
    clear HR
    exact decide_eq_true (by omega)
  have H3 := fun W q0 q1 q2 q3 => has_3 (⟨5, tx, n, ty, s4, s5, s6⟩ : Nd) b o W q0 q1 q2 q3
  rw [p3] at H3
  have HH3 := Lib.hid H3
  clear H3
  have H4 := fun W h => all_of enters_expr a c hlen ih (S := fun _ => True) W h
  rw [p4] at H4
  have HH4 := Lib.hid H4
  clear H4
  clear p0 p1 p2 p3 p4
  go_enter Tryz.func50, Tryz.ntmps50
  go_wp2_with fail
  refine (HH0.out _).mono ?_
  rintro e w1 ⟨rfl, hb⟩
  have HX := Lib.hid (HX.out.kept hb)
  clear hb hlt c0 c1 c2 c3 c4 c5 c6 c7
  obtain ⟨c0, c1, c2, c3, c4, c5, c6, c7⟩ := HX.out.cells
  have hlt := HX.out.lt
  go_wp2_with fail
  refine (HH1.out _).mono ?_
  rintro e w1 ⟨rfl, rfl⟩
  go_wp2_with fail
  refine (HH3.out _ c0 c1 c2 c3).mono ?_
  rintro e w1 ⟨rfl, rfl⟩
  go_wp2_with fail
  refine (HH4.out _ HX.out.kl).mono ?_
  rintro e w1 ⟨rfl, hb⟩
  have HX := Lib.hid (HX.out.kept hb)
  clear hb hlt c0 c1 c2 c3 c4 c5 c6 c7
  obtain ⟨c0, c1, c2, c3, c4, c5, c6, c7⟩ := HX.out.cells
  have hlt := HX.out.lt
  go_wp2
  go_ret
  exact ⟨by rw [HR.out]; rfl, HX.out.below⟩
set_option maxHeartbeats 8000000 in
set_option maxRecDepth 100000 in
theorem stmt_ret (E : Tr → Bool) (d : Nd) (ks : List Tr) (hF : Fit (.mk d ks)) (hk : d.k = 18) (ih : ∀ j, j < ks.length → Pays 62 E (ks.getD j tr0)) (S : Nat → Prop) (b o : Nat) (w : World) (hA : At w S (.mk d ks) b o) :
    Calls Tryz.prog 50 #[.pointer (some ⟨b, o, none⟩)] w fun e w' => e = .returned (.bool (retB E d ks)) ∧ Below w.heap.size w w' := by
  obtain ⟨a, c, hN⟩ := Nod.start hA
  have hlen := fit_len hF
  have hnd := fit_nd hF
  have HFF := Lib.hid hF
  obtain ⟨k, tx, n, ty, s4, s5, s6⟩ := d
  have hst : tx.size ≤ 1048576 := hnd.text
  have hsy : ty.size ≤ 1048576 := hnd.ty
  simp only at hk
  subst hk
  have HX := Lib.hid hN
  obtain ⟨c0, c1, c2, c3, c4, c5, c6, c7⟩ := HX.out.cells
  have hlt := HX.out.lt
  clear hA hF hN hnd
  cases p0 : decide (ks.length ≤ 1)
  · have HR : Hid (retB E ⟨18, tx, n, ty, s4, s5, s6⟩ ks = false) := by
      show _ = _
      unfold retB
      simp [p0]
    have f0_0 : decide ((ks.length : Int) ≤ 1) = false := by
      have q := of_decide_eq_false p0
      clear HR
      exact decide_eq_false (by omega)
    have f0_1 : decide (ks.length ≤ 1) = false := by
      have q := of_decide_eq_false p0
      clear HR
      exact decide_eq_false (by omega)
    clear p0
    go_enter Tryz.func50, Tryz.ntmps50
    go_wp2
    go_ret
    exact ⟨by rw [HR.out]; rfl, HX.out.below⟩
  cases p1 : hasB false false false (⟨18, tx, n, ty, s4, s5, s6⟩ : Nd)
  · have HR : Hid (retB E ⟨18, tx, n, ty, s4, s5, s6⟩ ks = false) := by
      show _ = _
      unfold retB
      simp [p0, p1]
    have f0_0 : decide ((ks.length : Int) ≤ 1) = true := by
      have q := of_decide_eq_true p0
      clear HR
      exact decide_eq_true (by omega)
    have f0_1 : decide (ks.length ≤ 1) = true := by
      have q := of_decide_eq_true p0
      clear HR
      exact decide_eq_true (by omega)
    have H1 := fun W q0 q1 q2 q3 => has_0 (⟨18, tx, n, ty, s4, s5, s6⟩ : Nd) b o W q0 q1 q2 q3
    rw [p1] at H1
    have HH1 := Lib.hid H1
    clear H1
    clear p0 p1
    go_enter Tryz.func50, Tryz.ntmps50
    go_wp2_with fail
    refine (HH1.out _ c0 c1 c2 c3).mono ?_
    rintro e w1 ⟨rfl, rfl⟩
    go_wp2
    go_ret
    exact ⟨by rw [HR.out]; rfl, HX.out.below⟩
  cases p2 : ks.all E
  · have HR : Hid (retB E ⟨18, tx, n, ty, s4, s5, s6⟩ ks = false) := by
      show _ = _
      unfold retB
      simp [p0, p1, p2]
    have f0_0 : decide ((ks.length : Int) ≤ 1) = true := by
      have q := of_decide_eq_true p0
      clear HR
      exact decide_eq_true (by omega)
    have f0_1 : decide (ks.length ≤ 1) = true := by
      have q := of_decide_eq_true p0
      clear HR
      exact decide_eq_true (by omega)
    have H1 := fun W q0 q1 q2 q3 => has_0 (⟨18, tx, n, ty, s4, s5, s6⟩ : Nd) b o W q0 q1 q2 q3
    rw [p1] at H1
    have HH1 := Lib.hid H1
    clear H1
    have H2 := fun W h => all_of enters_expr a c hlen ih (S := fun _ => True) W h
    rw [p2] at H2
    have HH2 := Lib.hid H2
    clear H2
    clear p0 p1 p2
    go_enter Tryz.func50, Tryz.ntmps50
    go_wp2_with fail
    refine (HH1.out _ c0 c1 c2 c3).mono ?_
    rintro e w1 ⟨rfl, rfl⟩
    go_wp2_with fail
    refine (HH2.out _ HX.out.kl).mono ?_
    rintro e w1 ⟨rfl, hb⟩
    have HX := Lib.hid (HX.out.kept hb)
    clear hb hlt c0 c1 c2 c3 c4 c5 c6 c7
    obtain ⟨c0, c1, c2, c3, c4, c5, c6, c7⟩ := HX.out.cells
    have hlt := HX.out.lt
    go_wp2
    go_ret
    exact ⟨by rw [HR.out]; rfl, HX.out.below⟩
  have HR : Hid (retB E ⟨18, tx, n, ty, s4, s5, s6⟩ ks = true) := by
    show _ = _
    unfold retB
    simp [p0, p1, p2]
  have f0_0 : decide ((ks.length : Int) ≤ 1) = true := by
    have q := of_decide_eq_true p0
    clear HR
    exact decide_eq_true (by omega)
  have f0_1 : decide (ks.length ≤ 1) = true := by
    have q := of_decide_eq_true p0
    clear HR
    exact decide_eq_true (by omega)
  have H1 := fun W q0 q1 q2 q3 => has_0 (⟨18, tx, n, ty, s4, s5, s6⟩ : Nd) b o W q0 q1 q2 q3
  rw [p1] at H1
  have HH1 := Lib.hid H1
  clear H1
  have H2 := fun W h => all_of enters_expr a c hlen ih (S := fun _ => True) W h
  rw [p2] at H2
  have HH2 := Lib.hid H2
  clear H2
  clear p0 p1 p2
  go_enter Tryz.func50, Tryz.ntmps50
  go_wp2_with fail
  refine (HH1.out _ c0 c1 c2 c3).mono ?_
  rintro e w1 ⟨rfl, rfl⟩
  go_wp2_with fail
  refine (HH2.out _ HX.out.kl).mono ?_
  rintro e w1 ⟨rfl, hb⟩
  have HX := Lib.hid (HX.out.kept hb)
  clear hb hlt c0 c1 c2 c3 c4 c5 c6 c7
  obtain ⟨c0, c1, c2, c3, c4, c5, c6, c7⟩ := HX.out.cells
  have hlt := HX.out.lt
  go_wp2
  go_ret
  exact ⟨by rw [HR.out]; rfl, HX.out.below⟩
set_option maxHeartbeats 8000000 in
set_option maxRecDepth 100000 in
theorem stmt_break (d : Nd) (ks : List Tr) (hF : Fit (.mk d ks)) (hk : d.k = 19) (S : Nat → Prop) (b o : Nat) (w : World) (hA : At w S (.mk d ks) b o) :
    Calls Tryz.prog 50 #[.pointer (some ⟨b, o, none⟩)] w fun e w' => e = .returned (.bool (brkB d ks)) ∧ Below w.heap.size w w' := by
  obtain ⟨a, c, hN⟩ := Nod.start hA
  have hlen := fit_len hF
  have hnd := fit_nd hF
  have HFF := Lib.hid hF
  obtain ⟨k, tx, n, ty, s4, s5, s6⟩ := d
  have hst : tx.size ≤ 1048576 := hnd.text
  have hsy : ty.size ≤ 1048576 := hnd.ty
  simp only at hk
  subst hk
  have HX := Lib.hid hN
  obtain ⟨c0, c1, c2, c3, c4, c5, c6, c7⟩ := HX.out.cells
  have hlt := HX.out.lt
  clear hA hF hN hnd
  cases p0 : zero ks
  · have HR : Hid (brkB ⟨19, tx, n, ty, s4, s5, s6⟩ ks = false) := by
      show _ = _
      unfold brkB
      simp [p0]
    have f0_0 : ((ks.length : Int) == 0) = false := by
      have q := p0
      clear HR
      simp [zero] at q ⊢
      first | assumption | omega
    clear p0
    go_enter Tryz.func50, Tryz.ntmps50
    go_wp2
    go_ret
    exact ⟨by rw [HR.out]; rfl, HX.out.below⟩
  cases p1 : hasB false false false (⟨19, tx, n, ty, s4, s5, s6⟩ : Nd)
  · have HR : Hid (brkB ⟨19, tx, n, ty, s4, s5, s6⟩ ks = false) := by
      show _ = _
      unfold brkB
      simp [p0, p1]
    have f0_0 : ((ks.length : Int) == 0) = true := by
      have q := p0
      clear HR
      simp [zero] at q ⊢
      first | assumption | omega
    have H1 := fun W q0 q1 q2 q3 => has_0 (⟨19, tx, n, ty, s4, s5, s6⟩ : Nd) b o W q0 q1 q2 q3
    rw [p1] at H1
    have HH1 := Lib.hid H1
    clear H1
    clear p0 p1
    go_enter Tryz.func50, Tryz.ntmps50
    go_wp2_with fail
    refine (HH1.out _ c0 c1 c2 c3).mono ?_
    rintro e w1 ⟨rfl, rfl⟩
    go_wp2
    go_ret
    exact ⟨by rw [HR.out]; rfl, HX.out.below⟩
  have HR : Hid (brkB ⟨19, tx, n, ty, s4, s5, s6⟩ ks = true) := by
    show _ = _
    unfold brkB
    simp [p0, p1]
  have f0_0 : ((ks.length : Int) == 0) = true := by
    have q := p0
    clear HR
    simp [zero] at q ⊢
    first | assumption | omega
  have H1 := fun W q0 q1 q2 q3 => has_0 (⟨19, tx, n, ty, s4, s5, s6⟩ : Nd) b o W q0 q1 q2 q3
  rw [p1] at H1
  have HH1 := Lib.hid H1
  clear H1
  clear p0 p1
  go_enter Tryz.func50, Tryz.ntmps50
  go_wp2_with fail
  refine (HH1.out _ c0 c1 c2 c3).mono ?_
  rintro e w1 ⟨rfl, rfl⟩
  go_wp2
  go_ret
  exact ⟨by rw [HR.out]; rfl, HX.out.below⟩
set_option maxHeartbeats 8000000 in
set_option maxRecDepth 100000 in
theorem stmt_continue (d : Nd) (ks : List Tr) (hF : Fit (.mk d ks)) (hk : d.k = 20) (S : Nat → Prop) (b o : Nat) (w : World) (hA : At w S (.mk d ks) b o) :
    Calls Tryz.prog 50 #[.pointer (some ⟨b, o, none⟩)] w fun e w' => e = .returned (.bool (brkB d ks)) ∧ Below w.heap.size w w' := by
  obtain ⟨a, c, hN⟩ := Nod.start hA
  have hlen := fit_len hF
  have hnd := fit_nd hF
  have HFF := Lib.hid hF
  obtain ⟨k, tx, n, ty, s4, s5, s6⟩ := d
  have hst : tx.size ≤ 1048576 := hnd.text
  have hsy : ty.size ≤ 1048576 := hnd.ty
  simp only at hk
  subst hk
  have HX := Lib.hid hN
  obtain ⟨c0, c1, c2, c3, c4, c5, c6, c7⟩ := HX.out.cells
  have hlt := HX.out.lt
  clear hA hF hN hnd
  cases p0 : zero ks
  · have HR : Hid (brkB ⟨20, tx, n, ty, s4, s5, s6⟩ ks = false) := by
      show _ = _
      unfold brkB
      simp [p0]
    have f0_0 : ((ks.length : Int) == 0) = false := by
      have q := p0
      clear HR
      simp [zero] at q ⊢
      first | assumption | omega
    clear p0
    go_enter Tryz.func50, Tryz.ntmps50
    go_wp2
    go_ret
    exact ⟨by rw [HR.out]; rfl, HX.out.below⟩
  cases p1 : hasB false false false (⟨20, tx, n, ty, s4, s5, s6⟩ : Nd)
  · have HR : Hid (brkB ⟨20, tx, n, ty, s4, s5, s6⟩ ks = false) := by
      show _ = _
      unfold brkB
      simp [p0, p1]
    have f0_0 : ((ks.length : Int) == 0) = true := by
      have q := p0
      clear HR
      simp [zero] at q ⊢
      first | assumption | omega
    have H1 := fun W q0 q1 q2 q3 => has_0 (⟨20, tx, n, ty, s4, s5, s6⟩ : Nd) b o W q0 q1 q2 q3
    rw [p1] at H1
    have HH1 := Lib.hid H1
    clear H1
    clear p0 p1
    go_enter Tryz.func50, Tryz.ntmps50
    go_wp2_with fail
    refine (HH1.out _ c0 c1 c2 c3).mono ?_
    rintro e w1 ⟨rfl, rfl⟩
    go_wp2
    go_ret
    exact ⟨by rw [HR.out]; rfl, HX.out.below⟩
  have HR : Hid (brkB ⟨20, tx, n, ty, s4, s5, s6⟩ ks = true) := by
    show _ = _
    unfold brkB
    simp [p0, p1]
  have f0_0 : ((ks.length : Int) == 0) = true := by
    have q := p0
    clear HR
    simp [zero] at q ⊢
    first | assumption | omega
  have H1 := fun W q0 q1 q2 q3 => has_0 (⟨20, tx, n, ty, s4, s5, s6⟩ : Nd) b o W q0 q1 q2 q3
  rw [p1] at H1
  have HH1 := Lib.hid H1
  clear H1
  clear p0 p1
  go_enter Tryz.func50, Tryz.ntmps50
  go_wp2_with fail
  refine (HH1.out _ c0 c1 c2 c3).mono ?_
  rintro e w1 ⟨rfl, rfl⟩
  go_wp2
  go_ret
  exact ⟨by rw [HR.out]; rfl, HX.out.below⟩
set_option maxHeartbeats 8000000 in
set_option maxRecDepth 100000 in
theorem stmt_go (E : Tr → Bool) (d : Nd) (ks : List Tr) (hF : Fit (.mk d ks)) (hk : d.k = 17) (ih : ∀ j, j < ks.length → Pays 62 E (ks.getD j tr0)) (S : Nat → Prop) (b o : Nat) (w : World) (hA : At w S (.mk d ks) b o) :
    Calls Tryz.prog 50 #[.pointer (some ⟨b, o, none⟩)] w fun e w' => e = .returned (.bool (goB E d ks)) ∧ Below w.heap.size w w' := by
  obtain ⟨a, c, hN⟩ := Nod.start hA
  have hlen := fit_len hF
  have hnd := fit_nd hF
  have HFF := Lib.hid hF
  obtain ⟨k, tx, n, ty, s4, s5, s6⟩ := d
  have hst : tx.size ≤ 1048576 := hnd.text
  have hsy : ty.size ≤ 1048576 := hnd.ty
  simp only at hk
  subst hk
  have HX := Lib.hid hN
  obtain ⟨c0, c1, c2, c3, c4, c5, c6, c7⟩ := HX.out.cells
  have hlt := HX.out.lt
  clear hA hF hN hnd
  cases p0 : (ks.length == 1)
  · have HR : Hid (goB E ⟨17, tx, n, ty, s4, s5, s6⟩ ks = false) := by
      show _ = _
      unfold goB
      simp [p0]
    have f0_0 : ((ks.length : Int) == 1) = false := by
      have q := p0
      clear HR
      simp [] at q ⊢
      first | assumption | omega
    clear p0
    go_enter Tryz.func50, Tryz.ntmps50
    go_wp2
    go_ret
    exact ⟨by rw [HR.out]; rfl, HX.out.below⟩
  have hk0 : 0 < ks.length := by simp at p0; omega
  obtain ⟨kb, ko, rfl⟩ := kl_some HX.out.kl hk0
  obtain ⟨u0, hu0⟩ : ∃ u, ks.getD 0 tr0 = u := ⟨_, rfl⟩
  have hkat : ∀ {W : World}, KL W (fun _ => True) ks (some ⟨kb, ko, none⟩) → At W (fun _ => True) u0 kb ko := fun h => by
    have := kl_at h hk0
    rw [hu0] at this
    simpa using this
  have ih0 := ih 0 hk0
  have hF0 := fit_kid HFF.out hk0
  rw [hu0] at ih0 hF0
  unfold Pays at ih0
  obtain ⟨d0, ks0⟩ := u0
  have hnd0 := fit_nd hF0
  obtain ⟨k0, tx0, n0, ty0, s40, s50, s60⟩ := d0
  have hst0 : tx0.size ≤ 1048576 := hnd0.text
  clear hF0 hnd0
  obtain ⟨xa, xc, -, kc0, kc1, -, -, -, -, -, -⟩ := (hkat HX.out.kl).cells
  simp only [Tr.d] at kc0 kc1
  cases p1 : hasB false false false (⟨17, tx, n, ty, s4, s5, s6⟩ : Nd)
  · have HR : Hid (goB E ⟨17, tx, n, ty, s4, s5, s6⟩ ks = false) := by
      show _ = _
      unfold goB
      try unfold kd
      rw [hu0]
      simp [Tr.d, p0, p1]
    have f0_0 : ((ks.length : Int) == 1) = true := by
      have q := p0
      clear HR
      simp [] at q ⊢
      first | assumption | omega
    have H1 := fun W q0 q1 q2 q3 => has_0 (⟨17, tx, n, ty, s4, s5, s6⟩ : Nd) b o W q0 q1 q2 q3
    rw [p1] at H1
    have HH1 := Lib.hid H1
    clear H1
    clear p0 p1
    go_enter Tryz.func50, Tryz.ntmps50
    go_wp2_with fail
    refine (HH1.out _ c0 c1 c2 c3).mono ?_
    rintro e w1 ⟨rfl, rfl⟩
    go_wp2
    go_ret
    exact ⟨by rw [HR.out]; rfl, HX.out.below⟩
  cases p2 : (k0 == 28)
  · have HR : Hid (goB E ⟨17, tx, n, ty, s4, s5, s6⟩ ks = false) := by
      show _ = _
      unfold goB
      try unfold kd
      rw [hu0]
      simp [Tr.d, p0, p1, p2]
    have f0_0 : ((ks.length : Int) == 1) = true := by
      have q := p0
      clear HR
      simp [] at q ⊢
      first | assumption | omega
    have H1 := fun W q0 q1 q2 q3 => has_0 (⟨17, tx, n, ty, s4, s5, s6⟩ : Nd) b o W q0 q1 q2 q3
    rw [p1] at H1
    have HH1 := Lib.hid H1
    clear H1
    have f2_0 : (k0 == 28) = false := by
      have q := p2
      clear HR
      simp [] at q ⊢
      first | assumption | omega
    clear p0 p1 p2
    go_enter Tryz.func50, Tryz.ntmps50
    go_wp2_with fail
    refine (HH1.out _ c0 c1 c2 c3).mono ?_
    rintro e w1 ⟨rfl, rfl⟩
    go_wp2
    go_ret
    exact ⟨by rw [HR.out]; rfl, HX.out.below⟩
  cases p3 : properB tx0
  · have HR : Hid (goB E ⟨17, tx, n, ty, s4, s5, s6⟩ ks = false) := by
      show _ = _
      unfold goB
      try unfold kd
      rw [hu0]
      simp [Tr.d, p0, p1, p2, p3]
    have f0_0 : ((ks.length : Int) == 1) = true := by
      have q := p0
      clear HR
      simp [] at q ⊢
      first | assumption | omega
    have H1 := fun W q0 q1 q2 q3 => has_0 (⟨17, tx, n, ty, s4, s5, s6⟩ : Nd) b o W q0 q1 q2 q3
    rw [p1] at H1
    have HH1 := Lib.hid H1
    clear H1
    have f2_0 : (k0 == 28) = true := by
      have q := p2
      clear HR
      simp [] at q ⊢
      first | assumption | omega
    have H3 := fun W => proper_any tx0 W hst0
    rw [p3] at H3
    have HH3 := Lib.hid H3
    clear H3
    clear p0 p1 p2 p3
    go_enter Tryz.func50, Tryz.ntmps50
    go_wp2_with fail
    refine (HH1.out _ c0 c1 c2 c3).mono ?_
    rintro e w1 ⟨rfl, rfl⟩
    go_wp2_with fail
    refine (HH3.out _).mono ?_
    rintro e w1 ⟨rfl, hb⟩
    have HX := Lib.hid (HX.out.kept hb)
    clear hb hlt kc0 kc1 c0 c1 c2 c3 c4 c5 c6 c7
    obtain ⟨c0, c1, c2, c3, c4, c5, c6, c7⟩ := HX.out.cells
    have hlt := HX.out.lt
    obtain ⟨xa, xc, -, kc0, kc1, -, -, -, -, -, -⟩ := (hkat HX.out.kl).cells
    simp only [Tr.d] at kc0 kc1
    go_wp2
    go_ret
    exact ⟨by rw [HR.out]; rfl, HX.out.below⟩
  cases p4 : E (Tr.mk ⟨k0, tx0, n0, ty0, s40, s50, s60⟩ ks0)
  · have HR : Hid (goB E ⟨17, tx, n, ty, s4, s5, s6⟩ ks = false) := by
      show _ = _
      unfold goB
      try unfold kd
      rw [hu0]
      simp [Tr.d, p0, p1, p2, p3, p4]
    have f0_0 : ((ks.length : Int) == 1) = true := by
      have q := p0
      clear HR
      simp [] at q ⊢
      first | assumption | omega
    have H1 := fun W q0 q1 q2 q3 => has_0 (⟨17, tx, n, ty, s4, s5, s6⟩ : Nd) b o W q0 q1 q2 q3
    rw [p1] at H1
    have HH1 := Lib.hid H1
    clear H1
    have f2_0 : (k0 == 28) = true := by
      have q := p2
      clear HR
      simp [] at q ⊢
      first | assumption | omega
    have H3 := fun W => proper_any tx0 W hst0
    rw [p3] at H3
    have HH3 := Lib.hid H3
    clear H3
    have H4 := ih0
    rw [p4] at H4
    have HH4 := Lib.hid H4
    clear H4
    clear p0 p1 p2 p3 p4
    go_enter Tryz.func50, Tryz.ntmps50
    go_wp2_with fail
    refine (HH1.out _ c0 c1 c2 c3).mono ?_
    rintro e w1 ⟨rfl, rfl⟩
    go_wp2_with fail
    refine (HH3.out _).mono ?_
    rintro e w1 ⟨rfl, hb⟩
    have HX := Lib.hid (HX.out.kept hb)
    clear hb hlt kc0 kc1 c0 c1 c2 c3 c4 c5 c6 c7
    obtain ⟨c0, c1, c2, c3, c4, c5, c6, c7⟩ := HX.out.cells
    have hlt := HX.out.lt
    obtain ⟨xa, xc, -, kc0, kc1, -, -, -, -, -, -⟩ := (hkat HX.out.kl).cells
    simp only [Tr.d] at kc0 kc1
    go_wp2_with fail
    refine (HH4.out _ _ _ _ (hkat HX.out.kl)).mono ?_
    rintro e w1 ⟨rfl, hb⟩
    have HX := Lib.hid (HX.out.kept hb)
    clear hb hlt kc0 kc1 c0 c1 c2 c3 c4 c5 c6 c7
    obtain ⟨c0, c1, c2, c3, c4, c5, c6, c7⟩ := HX.out.cells
    have hlt := HX.out.lt
    obtain ⟨xa, xc, -, kc0, kc1, -, -, -, -, -, -⟩ := (hkat HX.out.kl).cells
    simp only [Tr.d] at kc0 kc1
    go_wp2
    go_ret
    exact ⟨by rw [HR.out]; rfl, HX.out.below⟩
  have HR : Hid (goB E ⟨17, tx, n, ty, s4, s5, s6⟩ ks = true) := by
    show _ = _
    unfold goB
    try unfold kd
    rw [hu0]
    simp [Tr.d, p0, p1, p2, p3, p4]
  have f0_0 : ((ks.length : Int) == 1) = true := by
    have q := p0
    clear HR
    simp [] at q ⊢
    first | assumption | omega
  have H1 := fun W q0 q1 q2 q3 => has_0 (⟨17, tx, n, ty, s4, s5, s6⟩ : Nd) b o W q0 q1 q2 q3
  rw [p1] at H1
  have HH1 := Lib.hid H1
  clear H1
  have f2_0 : (k0 == 28) = true := by
    have q := p2
    clear HR
    simp [] at q ⊢
    first | assumption | omega
  have H3 := fun W => proper_any tx0 W hst0
  rw [p3] at H3
  have HH3 := Lib.hid H3
  clear H3
  have H4 := ih0
  rw [p4] at H4
  have HH4 := Lib.hid H4
  clear H4
  clear p0 p1 p2 p3 p4
  go_enter Tryz.func50, Tryz.ntmps50
  go_wp2_with fail
  refine (HH1.out _ c0 c1 c2 c3).mono ?_
  rintro e w1 ⟨rfl, rfl⟩
  go_wp2_with fail
  refine (HH3.out _).mono ?_
  rintro e w1 ⟨rfl, hb⟩
  have HX := Lib.hid (HX.out.kept hb)
  clear hb hlt kc0 kc1 c0 c1 c2 c3 c4 c5 c6 c7
  obtain ⟨c0, c1, c2, c3, c4, c5, c6, c7⟩ := HX.out.cells
  have hlt := HX.out.lt
  obtain ⟨xa, xc, -, kc0, kc1, -, -, -, -, -, -⟩ := (hkat HX.out.kl).cells
  simp only [Tr.d] at kc0 kc1
  go_wp2_with fail
  refine (HH4.out _ _ _ _ (hkat HX.out.kl)).mono ?_
  rintro e w1 ⟨rfl, hb⟩
  have HX := Lib.hid (HX.out.kept hb)
  clear hb hlt kc0 kc1 c0 c1 c2 c3 c4 c5 c6 c7
  obtain ⟨c0, c1, c2, c3, c4, c5, c6, c7⟩ := HX.out.cells
  have hlt := HX.out.lt
  obtain ⟨xa, xc, -, kc0, kc1, -, -, -, -, -, -⟩ := (hkat HX.out.kl).cells
  simp only [Tr.d] at kc0 kc1
  go_wp2
  go_ret
  exact ⟨by rw [HR.out]; rfl, HX.out.below⟩
set_option maxHeartbeats 8000000 in
set_option maxRecDepth 100000 in
theorem simple_step (E : Tr → Bool) (d : Nd) (ks : List Tr) (hF : Fit (.mk d ks)) (hk : d.k = 8) (ih : ∀ j, j < ks.length → Pays 62 E (ks.getD j tr0)) (S : Nat → Prop) (b o : Nat) (w : World) (hA : At w S (.mk d ks) b o) :
    Calls Tryz.prog 66 #[.pointer (some ⟨b, o, none⟩)] w fun e w' => e = .returned (.bool (stepB E d ks)) ∧ Below w.heap.size w w' := by
  obtain ⟨a, c, hN⟩ := Nod.start hA
  have hlen := fit_len hF
  have hnd := fit_nd hF
  have HFF := Lib.hid hF
  obtain ⟨k, tx, n, ty, s4, s5, s6⟩ := d
  have hst : tx.size ≤ 1048576 := hnd.text
  have hsy : ty.size ≤ 1048576 := hnd.ty
  simp only at hk
  subst hk
  have HX := Lib.hid hN
  obtain ⟨c0, c1, c2, c3, c4, c5, c6, c7⟩ := HX.out.cells
  have hlt := HX.out.lt
  clear hA hF hN hnd
  by_cases q1 : n = 1
  · subst q1
    cases p0 : hasB false false true (⟨8, tx, 1, ty, s4, s5, s6⟩ : Nd)
    · have HR : Hid (stepB E ⟨8, tx, 1, ty, s4, s5, s6⟩ ks = false) := by
        show _ = _
        unfold stepB
        simp [p0]
      have H0 := fun W q0 q1 q2 q3 => has_4 (⟨8, tx, 1, ty, s4, s5, s6⟩ : Nd) b o W q0 q1 q2 q3
      rw [p0] at H0
      have HH0 := Lib.hid H0
      clear H0
      clear p0
      go_enter Tryz.func66, Tryz.ntmps66
      go_wp2_with fail
      refine (HH0.out _ c0 c1 c2 c3).mono ?_
      rintro e w1 ⟨rfl, rfl⟩
      go_wp2
      go_ret
      exact ⟨by rw [HR.out]; rfl, HX.out.below⟩
    cases p1 : (ks.length == 1)
    · have HR : Hid (stepB E ⟨8, tx, 1, ty, s4, s5, s6⟩ ks = false) := by
        show _ = _
        unfold stepB
        simp [p0, p1]
      have H0 := fun W q0 q1 q2 q3 => has_4 (⟨8, tx, 1, ty, s4, s5, s6⟩ : Nd) b o W q0 q1 q2 q3
      rw [p0] at H0
      have HH0 := Lib.hid H0
      clear H0
      have f1_0 : ((ks.length : Int) == 1) = false := by
        have q := p1
        clear HR
        simp [] at q ⊢
        first | assumption | omega
      clear p0 p1
      go_enter Tryz.func66, Tryz.ntmps66
      go_wp2_with fail
      refine (HH0.out _ c0 c1 c2 c3).mono ?_
      rintro e w1 ⟨rfl, rfl⟩
      go_wp2
      go_ret
      exact ⟨by rw [HR.out]; rfl, HX.out.below⟩
    have hk0 : 0 < ks.length := by simp at p1; omega
    obtain ⟨kb, ko, rfl⟩ := kl_some HX.out.kl hk0
    obtain ⟨u0, hu0⟩ : ∃ u, ks.getD 0 tr0 = u := ⟨_, rfl⟩
    have hkat : ∀ {W : World}, KL W (fun _ => True) ks (some ⟨kb, ko, none⟩) → At W (fun _ => True) u0 kb ko := fun h => by
      have := kl_at h hk0
      rw [hu0] at this
      simpa using this
    have ih0 := ih 0 hk0
    have hF0 := fit_kid HFF.out hk0
    rw [hu0] at ih0 hF0
    unfold Pays at ih0
    obtain ⟨d0, ks0⟩ := u0
    have hnd0 := fit_nd hF0
    obtain ⟨k0, tx0, n0, ty0, s40, s50, s60⟩ := d0
    have hst0 : tx0.size ≤ 1048576 := hnd0.text
    clear hF0 hnd0
    obtain ⟨xa, xc, -, kc0, kc1, -, -, -, -, -, -⟩ := (hkat HX.out.kl).cells
    simp only [Tr.d] at kc0 kc1
    cases p2 : (k0 == 21)
    · have HR : Hid (stepB E ⟨8, tx, 1, ty, s4, s5, s6⟩ ks = false) := by
        show _ = _
        unfold stepB
        try unfold kd
        rw [hu0]
        simp [Tr.d, p0, p1, p2]
      have H0 := fun W q0 q1 q2 q3 => has_4 (⟨8, tx, 1, ty, s4, s5, s6⟩ : Nd) b o W q0 q1 q2 q3
      rw [p0] at H0
      have HH0 := Lib.hid H0
      clear H0
      have f1_0 : ((ks.length : Int) == 1) = true := by
        have q := p1
        clear HR
        simp [] at q ⊢
        first | assumption | omega
      have f2_0 : (k0 == 21) = false := by
        have q := p2
        clear HR
        simp [] at q ⊢
        first | assumption | omega
      clear p0 p1 p2
      go_enter Tryz.func66, Tryz.ntmps66
      go_wp2_with fail
      refine (HH0.out _ c0 c1 c2 c3).mono ?_
      rintro e w1 ⟨rfl, rfl⟩
      go_wp2
      go_ret
      exact ⟨by rw [HR.out]; rfl, HX.out.below⟩
    cases p3 : E (Tr.mk ⟨k0, tx0, n0, ty0, s40, s50, s60⟩ ks0)
    · have HR : Hid (stepB E ⟨8, tx, 1, ty, s4, s5, s6⟩ ks = false) := by
        show _ = _
        unfold stepB
        try unfold kd
        rw [hu0]
        simp [Tr.d, p0, p1, p2, p3]
      have H0 := fun W q0 q1 q2 q3 => has_4 (⟨8, tx, 1, ty, s4, s5, s6⟩ : Nd) b o W q0 q1 q2 q3
      rw [p0] at H0
      have HH0 := Lib.hid H0
      clear H0
      have f1_0 : ((ks.length : Int) == 1) = true := by
        have q := p1
        clear HR
        simp [] at q ⊢
        first | assumption | omega
      have f2_0 : (k0 == 21) = true := by
        have q := p2
        clear HR
        simp [] at q ⊢
        first | assumption | omega
      have H3 := ih0
      rw [p3] at H3
      have HH3 := Lib.hid H3
      clear H3
      clear p0 p1 p2 p3
      go_enter Tryz.func66, Tryz.ntmps66
      go_wp2_with fail
      refine (HH0.out _ c0 c1 c2 c3).mono ?_
      rintro e w1 ⟨rfl, rfl⟩
      go_wp2_with fail
      refine (HH3.out _ _ _ _ (hkat HX.out.kl)).mono ?_
      rintro e w1 ⟨rfl, hb⟩
      have HX := Lib.hid (HX.out.kept hb)
      clear hb hlt kc0 kc1 c0 c1 c2 c3 c4 c5 c6 c7
      obtain ⟨c0, c1, c2, c3, c4, c5, c6, c7⟩ := HX.out.cells
      have hlt := HX.out.lt
      obtain ⟨xa, xc, -, kc0, kc1, -, -, -, -, -, -⟩ := (hkat HX.out.kl).cells
      simp only [Tr.d] at kc0 kc1
      go_wp2
      go_ret
      exact ⟨by rw [HR.out]; rfl, HX.out.below⟩
    have HR : Hid (stepB E ⟨8, tx, 1, ty, s4, s5, s6⟩ ks = true) := by
      show _ = _
      unfold stepB
      try unfold kd
      rw [hu0]
      simp [Tr.d, p0, p1, p2, p3]
    have H0 := fun W q0 q1 q2 q3 => has_4 (⟨8, tx, 1, ty, s4, s5, s6⟩ : Nd) b o W q0 q1 q2 q3
    rw [p0] at H0
    have HH0 := Lib.hid H0
    clear H0
    have f1_0 : ((ks.length : Int) == 1) = true := by
      have q := p1
      clear HR
      simp [] at q ⊢
      first | assumption | omega
    have f2_0 : (k0 == 21) = true := by
      have q := p2
      clear HR
      simp [] at q ⊢
      first | assumption | omega
    have H3 := ih0
    rw [p3] at H3
    have HH3 := Lib.hid H3
    clear H3
    clear p0 p1 p2 p3
    go_enter Tryz.func66, Tryz.ntmps66
    go_wp2_with fail
    refine (HH0.out _ c0 c1 c2 c3).mono ?_
    rintro e w1 ⟨rfl, rfl⟩
    go_wp2_with fail
    refine (HH3.out _ _ _ _ (hkat HX.out.kl)).mono ?_
    rintro e w1 ⟨rfl, hb⟩
    have HX := Lib.hid (HX.out.kept hb)
    clear hb hlt kc0 kc1 c0 c1 c2 c3 c4 c5 c6 c7
    obtain ⟨c0, c1, c2, c3, c4, c5, c6, c7⟩ := HX.out.cells
    have hlt := HX.out.lt
    obtain ⟨xa, xc, -, kc0, kc1, -, -, -, -, -, -⟩ := (hkat HX.out.kl).cells
    simp only [Tr.d] at kc0 kc1
    go_wp2
    go_ret
    exact ⟨by rw [HR.out]; rfl, HX.out.below⟩
  by_cases q2 : n = -1
  · subst q2
    cases p0 : hasB false false true (⟨8, tx, -1, ty, s4, s5, s6⟩ : Nd)
    · have HR : Hid (stepB E ⟨8, tx, -1, ty, s4, s5, s6⟩ ks = false) := by
        show _ = _
        unfold stepB
        simp [p0]
      have H0 := fun W q0 q1 q2 q3 => has_4 (⟨8, tx, -1, ty, s4, s5, s6⟩ : Nd) b o W q0 q1 q2 q3
      rw [p0] at H0
      have HH0 := Lib.hid H0
      clear H0
      clear p0
      go_enter Tryz.func66, Tryz.ntmps66
      go_wp2_with fail
      refine (HH0.out _ c0 c1 c2 c3).mono ?_
      rintro e w1 ⟨rfl, rfl⟩
      go_wp2
      go_ret
      exact ⟨by rw [HR.out]; rfl, HX.out.below⟩
    cases p1 : (ks.length == 1)
    · have HR : Hid (stepB E ⟨8, tx, -1, ty, s4, s5, s6⟩ ks = false) := by
        show _ = _
        unfold stepB
        simp [p0, p1]
      have H0 := fun W q0 q1 q2 q3 => has_4 (⟨8, tx, -1, ty, s4, s5, s6⟩ : Nd) b o W q0 q1 q2 q3
      rw [p0] at H0
      have HH0 := Lib.hid H0
      clear H0
      have f1_0 : ((ks.length : Int) == 1) = false := by
        have q := p1
        clear HR
        simp [] at q ⊢
        first | assumption | omega
      clear p0 p1
      go_enter Tryz.func66, Tryz.ntmps66
      go_wp2_with fail
      refine (HH0.out _ c0 c1 c2 c3).mono ?_
      rintro e w1 ⟨rfl, rfl⟩
      go_wp2
      go_ret
      exact ⟨by rw [HR.out]; rfl, HX.out.below⟩
    have hk0 : 0 < ks.length := by simp at p1; omega
    obtain ⟨kb, ko, rfl⟩ := kl_some HX.out.kl hk0
    obtain ⟨u0, hu0⟩ : ∃ u, ks.getD 0 tr0 = u := ⟨_, rfl⟩
    have hkat : ∀ {W : World}, KL W (fun _ => True) ks (some ⟨kb, ko, none⟩) → At W (fun _ => True) u0 kb ko := fun h => by
      have := kl_at h hk0
      rw [hu0] at this
      simpa using this
    have ih0 := ih 0 hk0
    have hF0 := fit_kid HFF.out hk0
    rw [hu0] at ih0 hF0
    unfold Pays at ih0
    obtain ⟨d0, ks0⟩ := u0
    have hnd0 := fit_nd hF0
    obtain ⟨k0, tx0, n0, ty0, s40, s50, s60⟩ := d0
    have hst0 : tx0.size ≤ 1048576 := hnd0.text
    clear hF0 hnd0
    obtain ⟨xa, xc, -, kc0, kc1, -, -, -, -, -, -⟩ := (hkat HX.out.kl).cells
    simp only [Tr.d] at kc0 kc1
    cases p2 : (k0 == 21)
    · have HR : Hid (stepB E ⟨8, tx, -1, ty, s4, s5, s6⟩ ks = false) := by
        show _ = _
        unfold stepB
        try unfold kd
        rw [hu0]
        simp [Tr.d, p0, p1, p2]
      have H0 := fun W q0 q1 q2 q3 => has_4 (⟨8, tx, -1, ty, s4, s5, s6⟩ : Nd) b o W q0 q1 q2 q3
      rw [p0] at H0
      have HH0 := Lib.hid H0
      clear H0
      have f1_0 : ((ks.length : Int) == 1) = true := by
        have q := p1
        clear HR
        simp [] at q ⊢
        first | assumption | omega
      have f2_0 : (k0 == 21) = false := by
        have q := p2
        clear HR
        simp [] at q ⊢
        first | assumption | omega
      clear p0 p1 p2
      go_enter Tryz.func66, Tryz.ntmps66
      go_wp2_with fail
      refine (HH0.out _ c0 c1 c2 c3).mono ?_
      rintro e w1 ⟨rfl, rfl⟩
      go_wp2
      go_ret
      exact ⟨by rw [HR.out]; rfl, HX.out.below⟩
    cases p3 : E (Tr.mk ⟨k0, tx0, n0, ty0, s40, s50, s60⟩ ks0)
    · have HR : Hid (stepB E ⟨8, tx, -1, ty, s4, s5, s6⟩ ks = false) := by
        show _ = _
        unfold stepB
        try unfold kd
        rw [hu0]
        simp [Tr.d, p0, p1, p2, p3]
      have H0 := fun W q0 q1 q2 q3 => has_4 (⟨8, tx, -1, ty, s4, s5, s6⟩ : Nd) b o W q0 q1 q2 q3
      rw [p0] at H0
      have HH0 := Lib.hid H0
      clear H0
      have f1_0 : ((ks.length : Int) == 1) = true := by
        have q := p1
        clear HR
        simp [] at q ⊢
        first | assumption | omega
      have f2_0 : (k0 == 21) = true := by
        have q := p2
        clear HR
        simp [] at q ⊢
        first | assumption | omega
      have H3 := ih0
      rw [p3] at H3
      have HH3 := Lib.hid H3
      clear H3
      clear p0 p1 p2 p3
      go_enter Tryz.func66, Tryz.ntmps66
      go_wp2_with fail
      refine (HH0.out _ c0 c1 c2 c3).mono ?_
      rintro e w1 ⟨rfl, rfl⟩
      go_wp2_with fail
      refine (HH3.out _ _ _ _ (hkat HX.out.kl)).mono ?_
      rintro e w1 ⟨rfl, hb⟩
      have HX := Lib.hid (HX.out.kept hb)
      clear hb hlt kc0 kc1 c0 c1 c2 c3 c4 c5 c6 c7
      obtain ⟨c0, c1, c2, c3, c4, c5, c6, c7⟩ := HX.out.cells
      have hlt := HX.out.lt
      obtain ⟨xa, xc, -, kc0, kc1, -, -, -, -, -, -⟩ := (hkat HX.out.kl).cells
      simp only [Tr.d] at kc0 kc1
      go_wp2
      go_ret
      exact ⟨by rw [HR.out]; rfl, HX.out.below⟩
    have HR : Hid (stepB E ⟨8, tx, -1, ty, s4, s5, s6⟩ ks = true) := by
      show _ = _
      unfold stepB
      try unfold kd
      rw [hu0]
      simp [Tr.d, p0, p1, p2, p3]
    have H0 := fun W q0 q1 q2 q3 => has_4 (⟨8, tx, -1, ty, s4, s5, s6⟩ : Nd) b o W q0 q1 q2 q3
    rw [p0] at H0
    have HH0 := Lib.hid H0
    clear H0
    have f1_0 : ((ks.length : Int) == 1) = true := by
      have q := p1
      clear HR
      simp [] at q ⊢
      first | assumption | omega
    have f2_0 : (k0 == 21) = true := by
      have q := p2
      clear HR
      simp [] at q ⊢
      first | assumption | omega
    have H3 := ih0
    rw [p3] at H3
    have HH3 := Lib.hid H3
    clear H3
    clear p0 p1 p2 p3
    go_enter Tryz.func66, Tryz.ntmps66
    go_wp2_with fail
    refine (HH0.out _ c0 c1 c2 c3).mono ?_
    rintro e w1 ⟨rfl, rfl⟩
    go_wp2_with fail
    refine (HH3.out _ _ _ _ (hkat HX.out.kl)).mono ?_
    rintro e w1 ⟨rfl, hb⟩
    have HX := Lib.hid (HX.out.kept hb)
    clear hb hlt kc0 kc1 c0 c1 c2 c3 c4 c5 c6 c7
    obtain ⟨c0, c1, c2, c3, c4, c5, c6, c7⟩ := HX.out.cells
    have hlt := HX.out.lt
    obtain ⟨xa, xc, -, kc0, kc1, -, -, -, -, -, -⟩ := (hkat HX.out.kl).cells
    simp only [Tr.d] at kc0 kc1
    go_wp2
    go_ret
    exact ⟨by rw [HR.out]; rfl, HX.out.below⟩
  have f0 : (n == 1) = false := beq_false_of_ne q1
  have f1 : (n == -1) = false := beq_false_of_ne q2
  have HR : Hid (stepB E ⟨8, tx, n, ty, s4, s5, s6⟩ ks = false) := by
    show _ = _
    unfold stepB
    simp [f0, f1]
  clear q1 q2
  go_enter Tryz.func66, Tryz.ntmps66
  go_wp2
  go_ret
  exact ⟨by rw [HR.out]; rfl, HX.out.below⟩
set_option maxHeartbeats 8000000 in
set_option maxRecDepth 100000 in
theorem simple_do (E : Tr → Bool) (d : Nd) (ks : List Tr) (hF : Fit (.mk d ks)) (hk : d.k = 10) (ih : ∀ j, j < ks.length → Pays 62 E (ks.getD j tr0)) (S : Nat → Prop) (b o : Nat) (w : World) (hA : At w S (.mk d ks) b o) :
    Calls Tryz.prog 66 #[.pointer (some ⟨b, o, none⟩)] w fun e w' => e = .returned (.bool (doB E d ks)) ∧ Below w.heap.size w w' := by
  obtain ⟨a, c, hN⟩ := Nod.start hA
  have hlen := fit_len hF
  have hnd := fit_nd hF
  have HFF := Lib.hid hF
  obtain ⟨k, tx, n, ty, s4, s5, s6⟩ := d
  have hst : tx.size ≤ 1048576 := hnd.text
  have hsy : ty.size ≤ 1048576 := hnd.ty
  simp only at hk
  subst hk
  have HX := Lib.hid hN
  obtain ⟨c0, c1, c2, c3, c4, c5, c6, c7⟩ := HX.out.cells
  have hlt := HX.out.lt
  clear hA hF hN hnd
  cases p0 : (ks.length == 1)
  · have HR : Hid (doB E ⟨10, tx, n, ty, s4, s5, s6⟩ ks = false) := by
      show _ = _
      unfold doB
      simp [p0]
    have f0_0 : ((ks.length : Int) == 1) = false := by
      have q := p0
      clear HR
      simp [] at q ⊢
      first | assumption | omega
    have f0_1 : ((ks.length : Int) != 1) = true := by
      have q := p0
      clear HR
      simp [] at q ⊢
      first | assumption | omega
    clear p0
    go_enter Tryz.func66, Tryz.ntmps66
    go_wp2
    go_ret
    exact ⟨by rw [HR.out]; rfl, HX.out.below⟩
  have hk0 : 0 < ks.length := by simp at p0; omega
  obtain ⟨kb, ko, rfl⟩ := kl_some HX.out.kl hk0
  obtain ⟨u0, hu0⟩ : ∃ u, ks.getD 0 tr0 = u := ⟨_, rfl⟩
  have hkat : ∀ {W : World}, KL W (fun _ => True) ks (some ⟨kb, ko, none⟩) → At W (fun _ => True) u0 kb ko := fun h => by
    have := kl_at h hk0
    rw [hu0] at this
    simpa using this
  have ih0 := ih 0 hk0
  have hF0 := fit_kid HFF.out hk0
  rw [hu0] at ih0 hF0
  unfold Pays at ih0
  obtain ⟨d0, ks0⟩ := u0
  have hnd0 := fit_nd hF0
  obtain ⟨k0, tx0, n0, ty0, s40, s50, s60⟩ := d0
  have hst0 : tx0.size ≤ 1048576 := hnd0.text
  clear hF0 hnd0
  obtain ⟨xa, xc, -, kc0, kc1, -, -, -, -, -, -⟩ := (hkat HX.out.kl).cells
  simp only [Tr.d] at kc0 kc1
  cases p1 : hasB false false false (⟨10, tx, n, ty, s4, s5, s6⟩ : Nd)
  · have HR : Hid (doB E ⟨10, tx, n, ty, s4, s5, s6⟩ ks = false) := by
      show _ = _
      unfold doB
      try unfold kd
      rw [hu0]
      simp [Tr.d, p0, p1]
    have f0_0 : ((ks.length : Int) == 1) = true := by
      have q := p0
      clear HR
      simp [] at q ⊢
      first | assumption | omega
    have f0_1 : ((ks.length : Int) != 1) = false := by
      have q := p0
      clear HR
      simp [] at q ⊢
      first | assumption | omega
    have H1 := fun W q0 q1 q2 q3 => has_0 (⟨10, tx, n, ty, s4, s5, s6⟩ : Nd) b o W q0 q1 q2 q3
    rw [p1] at H1
    have HH1 := Lib.hid H1
    clear H1
    clear p0 p1
    go_enter Tryz.func66, Tryz.ntmps66
    go_wp2_with fail
    refine (HH1.out _ c0 c1 c2 c3).mono ?_
    rintro e w1 ⟨rfl, rfl⟩
    go_wp2
    go_ret
    exact ⟨by rw [HR.out]; rfl, HX.out.below⟩
  cases p2 : (k0 == 28)
  rotate_left
  · cases p3 : E (Tr.mk ⟨k0, tx0, n0, ty0, s40, s50, s60⟩ ks0)
    · have HR : Hid (doB E ⟨10, tx, n, ty, s4, s5, s6⟩ ks = false) := by
        show _ = _
        unfold doB
        try unfold kd
        rw [hu0]
        simp [Tr.d, p0, p1, p2, p3]
      have f0_0 : ((ks.length : Int) == 1) = true := by
        have q := p0
        clear HR
        simp [] at q ⊢
        first | assumption | omega
      have f0_1 : ((ks.length : Int) != 1) = false := by
        have q := p0
        clear HR
        simp [] at q ⊢
        first | assumption | omega
      have H1 := fun W q0 q1 q2 q3 => has_0 (⟨10, tx, n, ty, s4, s5, s6⟩ : Nd) b o W q0 q1 q2 q3
      rw [p1] at H1
      have HH1 := Lib.hid H1
      clear H1
      have f2_0 : (k0 == 28) = true := by
        have q := p2
        clear HR
        simp [] at q ⊢
        first | assumption | omega
      have H3 := ih0
      rw [p3] at H3
      have HH3 := Lib.hid H3
      clear H3
      clear p0 p1 p2 p3
      go_enter Tryz.func66, Tryz.ntmps66
      go_wp2_with fail
      refine (HH1.out _ c0 c1 c2 c3).mono ?_
      rintro e w1 ⟨rfl, rfl⟩
      go_wp2_with fail
      refine (HH3.out _ _ _ _ (hkat HX.out.kl)).mono ?_
      rintro e w1 ⟨rfl, hb⟩
      have HX := Lib.hid (HX.out.kept hb)
      clear hb hlt kc0 kc1 c0 c1 c2 c3 c4 c5 c6 c7
      obtain ⟨c0, c1, c2, c3, c4, c5, c6, c7⟩ := HX.out.cells
      have hlt := HX.out.lt
      obtain ⟨xa, xc, -, kc0, kc1, -, -, -, -, -, -⟩ := (hkat HX.out.kl).cells
      simp only [Tr.d] at kc0 kc1
      go_wp2
      go_ret
      exact ⟨by rw [HR.out]; rfl, HX.out.below⟩
    have HR : Hid (doB E ⟨10, tx, n, ty, s4, s5, s6⟩ ks = true) := by
      show _ = _
      unfold doB
      try unfold kd
      rw [hu0]
      simp [Tr.d, p0, p1, p2, p3]
    have f0_0 : ((ks.length : Int) == 1) = true := by
      have q := p0
      clear HR
      simp [] at q ⊢
      first | assumption | omega
    have f0_1 : ((ks.length : Int) != 1) = false := by
      have q := p0
      clear HR
      simp [] at q ⊢
      first | assumption | omega
    have H1 := fun W q0 q1 q2 q3 => has_0 (⟨10, tx, n, ty, s4, s5, s6⟩ : Nd) b o W q0 q1 q2 q3
    rw [p1] at H1
    have HH1 := Lib.hid H1
    clear H1
    have f2_0 : (k0 == 28) = true := by
      have q := p2
      clear HR
      simp [] at q ⊢
      first | assumption | omega
    have H3 := ih0
    rw [p3] at H3
    have HH3 := Lib.hid H3
    clear H3
    clear p0 p1 p2 p3
    go_enter Tryz.func66, Tryz.ntmps66
    go_wp2_with fail
    refine (HH1.out _ c0 c1 c2 c3).mono ?_
    rintro e w1 ⟨rfl, rfl⟩
    go_wp2_with fail
    refine (HH3.out _ _ _ _ (hkat HX.out.kl)).mono ?_
    rintro e w1 ⟨rfl, hb⟩
    have HX := Lib.hid (HX.out.kept hb)
    clear hb hlt kc0 kc1 c0 c1 c2 c3 c4 c5 c6 c7
    obtain ⟨c0, c1, c2, c3, c4, c5, c6, c7⟩ := HX.out.cells
    have hlt := HX.out.lt
    obtain ⟨xa, xc, -, kc0, kc1, -, -, -, -, -, -⟩ := (hkat HX.out.kl).cells
    simp only [Tr.d] at kc0 kc1
    go_wp2
    go_ret
    exact ⟨by rw [HR.out]; rfl, HX.out.below⟩
  cases p3 : (k0 == 30)
  rotate_left
  · cases p4 : E (Tr.mk ⟨k0, tx0, n0, ty0, s40, s50, s60⟩ ks0)
    · have HR : Hid (doB E ⟨10, tx, n, ty, s4, s5, s6⟩ ks = false) := by
        show _ = _
        unfold doB
        try unfold kd
        rw [hu0]
        simp [Tr.d, p0, p1, p2, p3, p4]
      have f0_0 : ((ks.length : Int) == 1) = true := by
        have q := p0
        clear HR
        simp [] at q ⊢
        first | assumption | omega
      have f0_1 : ((ks.length : Int) != 1) = false := by
        have q := p0
        clear HR
        simp [] at q ⊢
        first | assumption | omega
      have H1 := fun W q0 q1 q2 q3 => has_0 (⟨10, tx, n, ty, s4, s5, s6⟩ : Nd) b o W q0 q1 q2 q3
      rw [p1] at H1
      have HH1 := Lib.hid H1
      clear H1
      have f2_0 : (k0 == 28) = false := by
        have q := p2
        clear HR
        simp [] at q ⊢
        first | assumption | omega
      have f3_0 : (k0 == 30) = true := by
        have q := p3
        clear HR
        simp [] at q ⊢
        first | assumption | omega
      have H4 := ih0
      rw [p4] at H4
      have HH4 := Lib.hid H4
      clear H4
      clear p0 p1 p2 p3 p4
      go_enter Tryz.func66, Tryz.ntmps66
      go_wp2_with fail
      refine (HH1.out _ c0 c1 c2 c3).mono ?_
      rintro e w1 ⟨rfl, rfl⟩
      go_wp2_with fail
      refine (HH4.out _ _ _ _ (hkat HX.out.kl)).mono ?_
      rintro e w1 ⟨rfl, hb⟩
      have HX := Lib.hid (HX.out.kept hb)
      clear hb hlt kc0 kc1 c0 c1 c2 c3 c4 c5 c6 c7
      obtain ⟨c0, c1, c2, c3, c4, c5, c6, c7⟩ := HX.out.cells
      have hlt := HX.out.lt
      obtain ⟨xa, xc, -, kc0, kc1, -, -, -, -, -, -⟩ := (hkat HX.out.kl).cells
      simp only [Tr.d] at kc0 kc1
      go_wp2
      go_ret
      exact ⟨by rw [HR.out]; rfl, HX.out.below⟩
    have HR : Hid (doB E ⟨10, tx, n, ty, s4, s5, s6⟩ ks = true) := by
      show _ = _
      unfold doB
      try unfold kd
      rw [hu0]
      simp [Tr.d, p0, p1, p2, p3, p4]
    have f0_0 : ((ks.length : Int) == 1) = true := by
      have q := p0
      clear HR
      simp [] at q ⊢
      first | assumption | omega
    have f0_1 : ((ks.length : Int) != 1) = false := by
      have q := p0
      clear HR
      simp [] at q ⊢
      first | assumption | omega
    have H1 := fun W q0 q1 q2 q3 => has_0 (⟨10, tx, n, ty, s4, s5, s6⟩ : Nd) b o W q0 q1 q2 q3
    rw [p1] at H1
    have HH1 := Lib.hid H1
    clear H1
    have f2_0 : (k0 == 28) = false := by
      have q := p2
      clear HR
      simp [] at q ⊢
      first | assumption | omega
    have f3_0 : (k0 == 30) = true := by
      have q := p3
      clear HR
      simp [] at q ⊢
      first | assumption | omega
    have H4 := ih0
    rw [p4] at H4
    have HH4 := Lib.hid H4
    clear H4
    clear p0 p1 p2 p3 p4
    go_enter Tryz.func66, Tryz.ntmps66
    go_wp2_with fail
    refine (HH1.out _ c0 c1 c2 c3).mono ?_
    rintro e w1 ⟨rfl, rfl⟩
    go_wp2_with fail
    refine (HH4.out _ _ _ _ (hkat HX.out.kl)).mono ?_
    rintro e w1 ⟨rfl, hb⟩
    have HX := Lib.hid (HX.out.kept hb)
    clear hb hlt kc0 kc1 c0 c1 c2 c3 c4 c5 c6 c7
    obtain ⟨c0, c1, c2, c3, c4, c5, c6, c7⟩ := HX.out.cells
    have hlt := HX.out.lt
    obtain ⟨xa, xc, -, kc0, kc1, -, -, -, -, -, -⟩ := (hkat HX.out.kl).cells
    simp only [Tr.d] at kc0 kc1
    go_wp2
    go_ret
    exact ⟨by rw [HR.out]; rfl, HX.out.below⟩
  cases p4 : recvB (⟨k0, tx0, n0, ty0, s40, s50, s60⟩ : Nd)
  · have HR : Hid (doB E ⟨10, tx, n, ty, s4, s5, s6⟩ ks = false) := by
      show _ = _
      unfold doB
      try unfold kd
      rw [hu0]
      simp [Tr.d, p0, p1, p2, p3, p4]
    have f0_0 : ((ks.length : Int) == 1) = true := by
      have q := p0
      clear HR
      simp [] at q ⊢
      first | assumption | omega
    have f0_1 : ((ks.length : Int) != 1) = false := by
      have q := p0
      clear HR
      simp [] at q ⊢
      first | assumption | omega
    have H1 := fun W q0 q1 q2 q3 => has_0 (⟨10, tx, n, ty, s4, s5, s6⟩ : Nd) b o W q0 q1 q2 q3
    rw [p1] at H1
    have HH1 := Lib.hid H1
    clear H1
    have f2_0 : (k0 == 28) = false := by
      have q := p2
      clear HR
      simp [] at q ⊢
      first | assumption | omega
    have f3_0 : (k0 == 30) = false := by
      have q := p3
      clear HR
      simp [] at q ⊢
      first | assumption | omega
    have H4 := fun W q0 q1 => receive_any (⟨k0, tx0, n0, ty0, s40, s50, s60⟩ : Nd) kb ko W q0 q1
    rw [p4] at H4
    have HH4 := Lib.hid H4
    clear H4
    clear p0 p1 p2 p3 p4
    go_enter Tryz.func66, Tryz.ntmps66
    go_wp2_with fail
    refine (HH1.out _ c0 c1 c2 c3).mono ?_
    rintro e w1 ⟨rfl, rfl⟩
    go_wp2_with fail
    refine (HH4.out _ kc0 kc1).mono ?_
    rintro e w1 ⟨rfl, rfl⟩
    go_wp2
    go_ret
    exact ⟨by rw [HR.out]; rfl, HX.out.below⟩
  cases p5 : E (Tr.mk ⟨k0, tx0, n0, ty0, s40, s50, s60⟩ ks0)
  · have HR : Hid (doB E ⟨10, tx, n, ty, s4, s5, s6⟩ ks = false) := by
      show _ = _
      unfold doB
      try unfold kd
      rw [hu0]
      simp [Tr.d, p0, p1, p2, p3, p4, p5]
    have f0_0 : ((ks.length : Int) == 1) = true := by
      have q := p0
      clear HR
      simp [] at q ⊢
      first | assumption | omega
    have f0_1 : ((ks.length : Int) != 1) = false := by
      have q := p0
      clear HR
      simp [] at q ⊢
      first | assumption | omega
    have H1 := fun W q0 q1 q2 q3 => has_0 (⟨10, tx, n, ty, s4, s5, s6⟩ : Nd) b o W q0 q1 q2 q3
    rw [p1] at H1
    have HH1 := Lib.hid H1
    clear H1
    have f2_0 : (k0 == 28) = false := by
      have q := p2
      clear HR
      simp [] at q ⊢
      first | assumption | omega
    have f3_0 : (k0 == 30) = false := by
      have q := p3
      clear HR
      simp [] at q ⊢
      first | assumption | omega
    have H4 := fun W q0 q1 => receive_any (⟨k0, tx0, n0, ty0, s40, s50, s60⟩ : Nd) kb ko W q0 q1
    rw [p4] at H4
    have HH4 := Lib.hid H4
    clear H4
    have H5 := ih0
    rw [p5] at H5
    have HH5 := Lib.hid H5
    clear H5
    clear p0 p1 p2 p3 p4 p5
    go_enter Tryz.func66, Tryz.ntmps66
    go_wp2_with fail
    refine (HH1.out _ c0 c1 c2 c3).mono ?_
    rintro e w1 ⟨rfl, rfl⟩
    go_wp2_with fail
    refine (HH4.out _ kc0 kc1).mono ?_
    rintro e w1 ⟨rfl, rfl⟩
    go_wp2_with fail
    refine (HH5.out _ _ _ _ (hkat HX.out.kl)).mono ?_
    rintro e w1 ⟨rfl, hb⟩
    have HX := Lib.hid (HX.out.kept hb)
    clear hb hlt kc0 kc1 c0 c1 c2 c3 c4 c5 c6 c7
    obtain ⟨c0, c1, c2, c3, c4, c5, c6, c7⟩ := HX.out.cells
    have hlt := HX.out.lt
    obtain ⟨xa, xc, -, kc0, kc1, -, -, -, -, -, -⟩ := (hkat HX.out.kl).cells
    simp only [Tr.d] at kc0 kc1
    go_wp2
    go_ret
    exact ⟨by rw [HR.out]; rfl, HX.out.below⟩
  have HR : Hid (doB E ⟨10, tx, n, ty, s4, s5, s6⟩ ks = true) := by
    show _ = _
    unfold doB
    try unfold kd
    rw [hu0]
    simp [Tr.d, p0, p1, p2, p3, p4, p5]
  have f0_0 : ((ks.length : Int) == 1) = true := by
    have q := p0
    clear HR
    simp [] at q ⊢
    first | assumption | omega
  have f0_1 : ((ks.length : Int) != 1) = false := by
    have q := p0
    clear HR
    simp [] at q ⊢
    first | assumption | omega
  have H1 := fun W q0 q1 q2 q3 => has_0 (⟨10, tx, n, ty, s4, s5, s6⟩ : Nd) b o W q0 q1 q2 q3
  rw [p1] at H1
  have HH1 := Lib.hid H1
  clear H1
  have f2_0 : (k0 == 28) = false := by
    have q := p2
    clear HR
    simp [] at q ⊢
    first | assumption | omega
  have f3_0 : (k0 == 30) = false := by
    have q := p3
    clear HR
    simp [] at q ⊢
    first | assumption | omega
  have H4 := fun W q0 q1 => receive_any (⟨k0, tx0, n0, ty0, s40, s50, s60⟩ : Nd) kb ko W q0 q1
  rw [p4] at H4
  have HH4 := Lib.hid H4
  clear H4
  have H5 := ih0
  rw [p5] at H5
  have HH5 := Lib.hid H5
  clear H5
  clear p0 p1 p2 p3 p4 p5
  go_enter Tryz.func66, Tryz.ntmps66
  go_wp2_with fail
  refine (HH1.out _ c0 c1 c2 c3).mono ?_
  rintro e w1 ⟨rfl, rfl⟩
  go_wp2_with fail
  refine (HH4.out _ kc0 kc1).mono ?_
  rintro e w1 ⟨rfl, rfl⟩
  go_wp2_with fail
  refine (HH5.out _ _ _ _ (hkat HX.out.kl)).mono ?_
  rintro e w1 ⟨rfl, hb⟩
  have HX := Lib.hid (HX.out.kept hb)
  clear hb hlt kc0 kc1 c0 c1 c2 c3 c4 c5 c6 c7
  obtain ⟨c0, c1, c2, c3, c4, c5, c6, c7⟩ := HX.out.cells
  have hlt := HX.out.lt
  obtain ⟨xa, xc, -, kc0, kc1, -, -, -, -, -, -⟩ := (hkat HX.out.kl).cells
  simp only [Tr.d] at kc0 kc1
  go_wp2
  go_ret
  exact ⟨by rw [HR.out]; rfl, HX.out.below⟩
end Go.Proofs.YtgodeffkboihlaaGreatDoor.Txs
