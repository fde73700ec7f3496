/- tree: Txe. Printed by mktree.py. -/
import Derived.Test.YtgodeffkboihlaaGreatDoorTpr
set_option linter.unusedVariables false
namespace Go.Proofs.YtgodeffkboihlaaGreatDoor.Txe
open Go.RowKit Tra Trb Trf Trd Tcn Trh Tha Nam Txa Tpr Tyq
theorem enters_expr : Enters Tryz.prog 62 := enters_of Tryz.func62 (by kernel_rfl) rfl
theorem enters_item : Enters Tryz.prog 103 := enters_of Tryz.func103 (by kernel_rfl) rfl
set_option maxHeartbeats 1000000 in
theorem un_any (x : ByteArray) (w : World) : Calls Tryz.prog 101 #[.slice (some ⟨w.heap.size, 0, none⟩) 4 4, .string x] (w.alloc (.cells #[.string ⟨#[43]⟩, .string ⟨#[45]⟩, .string ⟨#[33]⟩, .string ⟨#[60, 45]⟩] 9)) fun e w' => e = .returned (.bool (Lib.containsS unS x)) ∧ Below w.heap.size w w' := by
  have hb := (Below.refl w.heap.size w).alloc (Nat.le_refl _) (.cells #[.string ⟨#[43]⟩, .string ⟨#[45]⟩, .string ⟨#[33]⟩, .string ⟨#[60, 45]⟩] 9)
  refine (Tryz.slices_Contains_string w.heap.size 0 4 4 unS x _ (by decide) (by decide) ?_).mono ?_
  · intro j hj
    have hj' : j < 4 := hj
    rw [Lib.cell_of_heap (heap_alloc_new w _)]
    match j, hj' with
    | 0, _ => rfl
    | 1, _ => rfl
    | 2, _ => rfl
    | 3, _ => rfl
  · rintro e w' ⟨rfl, rfl⟩
    exact ⟨rfl, hb⟩
set_option maxHeartbeats 1000000 in
theorem me_any (x : ByteArray) (w : World) : Calls Tryz.prog 101 #[.slice (some ⟨w.heap.size, 0, none⟩) 5 5, .string x] (w.alloc (.cells #[.string ⟨#[76, 111, 99, 107]⟩, .string ⟨#[85, 110, 108, 111, 99, 107]⟩, .string ⟨#[65, 100, 100]⟩, .string ⟨#[68, 111, 110, 101]⟩, .string ⟨#[87, 97, 105, 116]⟩] 9)) fun e w' => e = .returned (.bool (Lib.containsS meS x)) ∧ Below w.heap.size w w' := by
  have hb := (Below.refl w.heap.size w).alloc (Nat.le_refl _) (.cells #[.string ⟨#[76, 111, 99, 107]⟩, .string ⟨#[85, 110, 108, 111, 99, 107]⟩, .string ⟨#[65, 100, 100]⟩, .string ⟨#[68, 111, 110, 101]⟩, .string ⟨#[87, 97, 105, 116]⟩] 9)
  refine (Tryz.slices_Contains_string w.heap.size 0 5 5 meS x _ (by decide) (by decide) ?_).mono ?_
  · intro j hj
    have hj' : j < 5 := hj
    rw [Lib.cell_of_heap (heap_alloc_new w _)]
    match j, hj' with
    | 0, _ => rfl
    | 1, _ => rfl
    | 2, _ => rfl
    | 3, _ => rfl
    | 4, _ => rfl
  · rintro e w' ⟨rfl, rfl⟩
    exact ⟨rfl, hb⟩
set_option maxHeartbeats 8000000 in
set_option maxRecDepth 100000 in
theorem expr_name (d : Nd) (ks : List Tr) (hF : Fit (.mk d ks)) (hk : d.k = 21) (S : Nat → Prop) (b o : Nat) (w : World) (hA : At w S (.mk d ks) b o) :
    Calls Tryz.prog 62 #[.pointer (some ⟨b, o, none⟩)] w fun e w' => e = .returned (.bool (nameB d ks)) ∧ Below w.heap.size w w' := by
  obtain ⟨a, c, hN⟩ := Nod.start hA
  have hlen := fit_len hF
  have hnd := fit_nd hF
  obtain ⟨k, tx, n, ty, s4, s5, s6⟩ := d
  have hst : tx.size ≤ 1048576 := hnd.text
  have hsy : ty.size ≤ 1048576 := hnd.ty
  simp only at hk
  subst hk
  have HX := Lib.hid hN
  obtain ⟨c0, c1, c2, c3, c4, c5, c6, c7⟩ := HX.out.cells
  have hlt := HX.out.lt
  clear hA hF hN hnd
  cases p0 : properB tx
  · have HR : Hid (nameB ⟨21, tx, n, ty, s4, s5, s6⟩ ks = false) := by
      show _ = _
      unfold nameB
      simp [p0]
    have H0 := fun W => proper_any tx W hst
    rw [p0] at H0
    have HH0 := Lib.hid H0
    clear H0
    clear p0
    go_enter Tryz.func62, Tryz.ntmps62
    go_wp2_with fail
    refine (HH0.out _).mono ?_
    rintro e w1 ⟨rfl, hb⟩
    have HX := Lib.hid (HX.out.kept hb)
    clear hb hlt c0 c1 c2 c3 c4 c5 c6 c7
    obtain ⟨c0, c1, c2, c3, c4, c5, c6, c7⟩ := HX.out.cells
    have hlt := HX.out.lt
    go_wp2
    go_ret
    exact ⟨by rw [HR.out]; rfl, HX.out.below⟩
  cases p1 : zero ks
  · have HR : Hid (nameB ⟨21, tx, n, ty, s4, s5, s6⟩ ks = false) := by
      show _ = _
      unfold nameB
      simp [p0, p1]
    have H0 := fun W => proper_any tx W hst
    rw [p0] at H0
    have HH0 := Lib.hid H0
    clear H0
    have f1_0 : ((ks.length : Int) == 0) = false := by
      have q := p1
      clear HR
      simp [zero] at q ⊢
      first | assumption | omega
    clear p0 p1
    go_enter Tryz.func62, Tryz.ntmps62
    go_wp2_with fail
    refine (HH0.out _).mono ?_
    rintro e w1 ⟨rfl, hb⟩
    have HX := Lib.hid (HX.out.kept hb)
    clear hb hlt c0 c1 c2 c3 c4 c5 c6 c7
    obtain ⟨c0, c1, c2, c3, c4, c5, c6, c7⟩ := HX.out.cells
    have hlt := HX.out.lt
    go_wp2
    go_ret
    exact ⟨by rw [HR.out]; rfl, HX.out.below⟩
  cases p2 : hasB true false false (⟨21, tx, n, ty, s4, s5, s6⟩ : Nd)
  · have HR : Hid (nameB ⟨21, tx, n, ty, s4, s5, s6⟩ ks = false) := by
      show _ = _
      unfold nameB
      simp [p0, p1, p2]
    have H0 := fun W => proper_any tx W hst
    rw [p0] at H0
    have HH0 := Lib.hid H0
    clear H0
    have f1_0 : ((ks.length : Int) == 0) = true := by
      have q := p1
      clear HR
      simp [zero] at q ⊢
      first | assumption | omega
    have H2 := fun W q0 q1 q2 q3 => has_1 (⟨21, tx, n, ty, s4, s5, s6⟩ : Nd) b o W q0 q1 q2 q3
    rw [p2] at H2
    have HH2 := Lib.hid H2
    clear H2
    clear p0 p1 p2
    go_enter Tryz.func62, Tryz.ntmps62
    go_wp2_with fail
    refine (HH0.out _).mono ?_
    rintro e w1 ⟨rfl, hb⟩
    have HX := Lib.hid (HX.out.kept hb)
    clear hb hlt c0 c1 c2 c3 c4 c5 c6 c7
    obtain ⟨c0, c1, c2, c3, c4, c5, c6, c7⟩ := HX.out.cells
    have hlt := HX.out.lt
    go_wp2_with fail
    refine (HH2.out _ c0 c1 c2 c3).mono ?_
    rintro e w1 ⟨rfl, rfl⟩
    go_wp2
    go_ret
    exact ⟨by rw [HR.out]; rfl, HX.out.below⟩
  have HR : Hid (nameB ⟨21, tx, n, ty, s4, s5, s6⟩ ks = true) := by
    show _ = _
    unfold nameB
    simp [p0, p1, p2]
  have H0 := fun W => proper_any tx W hst
  rw [p0] at H0
  have HH0 := Lib.hid H0
  clear H0
  have f1_0 : ((ks.length : Int) == 0) = true := by
    have q := p1
    clear HR
    simp [zero] at q ⊢
    first | assumption | omega
  have H2 := fun W q0 q1 q2 q3 => has_1 (⟨21, tx, n, ty, s4, s5, s6⟩ : Nd) b o W q0 q1 q2 q3
  rw [p2] at H2
  have HH2 := Lib.hid H2
  clear H2
  clear p0 p1 p2
  go_enter Tryz.func62, Tryz.ntmps62
  go_wp2_with fail
  refine (HH0.out _).mono ?_
  rintro e w1 ⟨rfl, hb⟩
  have HX := Lib.hid (HX.out.kept hb)
  clear hb hlt c0 c1 c2 c3 c4 c5 c6 c7
  obtain ⟨c0, c1, c2, c3, c4, c5, c6, c7⟩ := HX.out.cells
  have hlt := HX.out.lt
  go_wp2_with fail
  refine (HH2.out _ c0 c1 c2 c3).mono ?_
  rintro e w1 ⟨rfl, rfl⟩
  go_wp2
  go_ret
  exact ⟨by rw [HR.out]; rfl, HX.out.below⟩
set_option maxHeartbeats 8000000 in
set_option maxRecDepth 100000 in
theorem expr_int (d : Nd) (ks : List Tr) (hF : Fit (.mk d ks)) (hk : d.k = 22) (S : Nat → Prop) (b o : Nat) (w : World) (hA : At w S (.mk d ks) b o) :
    Calls Tryz.prog 62 #[.pointer (some ⟨b, o, none⟩)] w fun e w' => e = .returned (.bool (intB d ks)) ∧ Below w.heap.size w w' := by
  obtain ⟨a, c, hN⟩ := Nod.start hA
  have hlen := fit_len hF
  have hnd := fit_nd hF
  obtain ⟨k, tx, n, ty, s4, s5, s6⟩ := d
  have hst : tx.size ≤ 1048576 := hnd.text
  have hsy : ty.size ≤ 1048576 := hnd.ty
  simp only at hk
  subst hk
  have HX := Lib.hid hN
  obtain ⟨c0, c1, c2, c3, c4, c5, c6, c7⟩ := HX.out.cells
  have hlt := HX.out.lt
  clear hA hF hN hnd
  cases p0 : decide (0 ≤ n)
  · have HR : Hid (intB ⟨22, tx, n, ty, s4, s5, s6⟩ ks = false) := by
      show _ = _
      unfold intB
      simp [p0]
    have f0_0 : decide (0 ≤ n) = false := by
      have q := p0
      clear HR
      simp [] at q ⊢
      first | assumption | omega
    clear p0
    go_enter Tryz.func62, Tryz.ntmps62
    go_wp2
    go_ret
    exact ⟨by rw [HR.out]; rfl, HX.out.below⟩
  cases p1 : zero ks
  · have HR : Hid (intB ⟨22, tx, n, ty, s4, s5, s6⟩ ks = false) := by
      show _ = _
      unfold intB
      simp [p0, p1]
    have f0_0 : decide (0 ≤ n) = true := by
      have q := p0
      clear HR
      simp [] at q ⊢
      first | assumption | omega
    have f1_0 : ((ks.length : Int) == 0) = false := by
      have q := p1
      clear HR
      simp [zero] at q ⊢
      first | assumption | omega
    clear p0 p1
    go_enter Tryz.func62, Tryz.ntmps62
    go_wp2
    go_ret
    exact ⟨by rw [HR.out]; rfl, HX.out.below⟩
  cases p2 : hasB false false true (⟨22, tx, n, ty, s4, s5, s6⟩ : Nd)
  · have HR : Hid (intB ⟨22, tx, n, ty, s4, s5, s6⟩ ks = false) := by
      show _ = _
      unfold intB
      simp [p0, p1, p2]
    have f0_0 : decide (0 ≤ n) = true := by
      have q := p0
      clear HR
      simp [] at q ⊢
      first | assumption | omega
    have f1_0 : ((ks.length : Int) == 0) = true := by
      have q := p1
      clear HR
      simp [zero] at q ⊢
      first | assumption | omega
    have H2 := fun W q0 q1 q2 q3 => has_4 (⟨22, tx, n, ty, s4, s5, s6⟩ : Nd) b o W q0 q1 q2 q3
    rw [p2] at H2
    have HH2 := Lib.hid H2
    clear H2
    clear p0 p1 p2
    go_enter Tryz.func62, Tryz.ntmps62
    go_wp2_with fail
    refine (HH2.out _ c0 c1 c2 c3).mono ?_
    rintro e w1 ⟨rfl, rfl⟩
    go_wp2
    go_ret
    exact ⟨by rw [HR.out]; rfl, HX.out.below⟩
  have HR : Hid (intB ⟨22, tx, n, ty, s4, s5, s6⟩ ks = true) := by
    show _ = _
    unfold intB
    simp [p0, p1, p2]
  have f0_0 : decide (0 ≤ n) = true := by
    have q := p0
    clear HR
    simp [] at q ⊢
    first | assumption | omega
  have f1_0 : ((ks.length : Int) == 0) = true := by
    have q := p1
    clear HR
    simp [zero] at q ⊢
    first | assumption | omega
  have H2 := fun W q0 q1 q2 q3 => has_4 (⟨22, tx, n, ty, s4, s5, s6⟩ : Nd) b o W q0 q1 q2 q3
  rw [p2] at H2
  have HH2 := Lib.hid H2
  clear H2
  clear p0 p1 p2
  go_enter Tryz.func62, Tryz.ntmps62
  go_wp2_with fail
  refine (HH2.out _ c0 c1 c2 c3).mono ?_
  rintro e w1 ⟨rfl, rfl⟩
  go_wp2
  go_ret
  exact ⟨by rw [HR.out]; rfl, HX.out.below⟩
set_option maxHeartbeats 8000000 in
set_option maxRecDepth 100000 in
theorem expr_nil (d : Nd) (ks : List Tr) (hF : Fit (.mk d ks)) (hk : d.k = 24) (S : Nat → Prop) (b o : Nat) (w : World) (hA : At w S (.mk d ks) b o) :
    Calls Tryz.prog 62 #[.pointer (some ⟨b, o, none⟩)] w fun e w' => e = .returned (.bool (nilB d ks)) ∧ Below w.heap.size w w' := by
  obtain ⟨a, c, hN⟩ := Nod.start hA
  have hlen := fit_len hF
  have hnd := fit_nd hF
  obtain ⟨k, tx, n, ty, s4, s5, s6⟩ := d
  have hst : tx.size ≤ 1048576 := hnd.text
  have hsy : ty.size ≤ 1048576 := hnd.ty
  simp only at hk
  subst hk
  have HX := Lib.hid hN
  obtain ⟨c0, c1, c2, c3, c4, c5, c6, c7⟩ := HX.out.cells
  have hlt := HX.out.lt
  clear hA hF hN hnd
  cases p0 : zero ks
  · have HR : Hid (nilB ⟨24, tx, n, ty, s4, s5, s6⟩ ks = false) := by
      show _ = _
      unfold nilB
      simp [p0]
    have f0_0 : ((ks.length : Int) == 0) = false := by
      have q := p0
      clear HR
      simp [zero] at q ⊢
      first | assumption | omega
    clear p0
    go_enter Tryz.func62, Tryz.ntmps62
    go_wp2
    go_ret
    exact ⟨by rw [HR.out]; rfl, HX.out.below⟩
  cases p1 : hasB false false false (⟨24, tx, n, ty, s4, s5, s6⟩ : Nd)
  · have HR : Hid (nilB ⟨24, tx, n, ty, s4, s5, s6⟩ ks = false) := by
      show _ = _
      unfold nilB
      simp [p0, p1]
    have f0_0 : ((ks.length : Int) == 0) = true := by
      have q := p0
      clear HR
      simp [zero] at q ⊢
      first | assumption | omega
    have H1 := fun W q0 q1 q2 q3 => has_0 (⟨24, tx, n, ty, s4, s5, s6⟩ : Nd) b o W q0 q1 q2 q3
    rw [p1] at H1
    have HH1 := Lib.hid H1
    clear H1
    clear p0 p1
    go_enter Tryz.func62, Tryz.ntmps62
    go_wp2_with fail
    refine (HH1.out _ c0 c1 c2 c3).mono ?_
    rintro e w1 ⟨rfl, rfl⟩
    go_wp2
    go_ret
    exact ⟨by rw [HR.out]; rfl, HX.out.below⟩
  have HR : Hid (nilB ⟨24, tx, n, ty, s4, s5, s6⟩ ks = true) := by
    show _ = _
    unfold nilB
    simp [p0, p1]
  have f0_0 : ((ks.length : Int) == 0) = true := by
    have q := p0
    clear HR
    simp [zero] at q ⊢
    first | assumption | omega
  have H1 := fun W q0 q1 q2 q3 => has_0 (⟨24, tx, n, ty, s4, s5, s6⟩ : Nd) b o W q0 q1 q2 q3
  rw [p1] at H1
  have HH1 := Lib.hid H1
  clear H1
  clear p0 p1
  go_enter Tryz.func62, Tryz.ntmps62
  go_wp2_with fail
  refine (HH1.out _ c0 c1 c2 c3).mono ?_
  rintro e w1 ⟨rfl, rfl⟩
  go_wp2
  go_ret
  exact ⟨by rw [HR.out]; rfl, HX.out.below⟩
set_option maxHeartbeats 8000000 in
set_option maxRecDepth 100000 in
theorem expr_bool (d : Nd) (ks : List Tr) (hF : Fit (.mk d ks)) (hk : d.k = 23) (S : Nat → Prop) (b o : Nat) (w : World) (hA : At w S (.mk d ks) b o) :
    Calls Tryz.prog 62 #[.pointer (some ⟨b, o, none⟩)] w fun e w' => e = .returned (.bool (boolB d ks)) ∧ Below w.heap.size w w' := by
  obtain ⟨a, c, hN⟩ := Nod.start hA
  have hlen := fit_len hF
  have hnd := fit_nd hF
  obtain ⟨k, tx, n, ty, s4, s5, s6⟩ := d
  have hst : tx.size ≤ 1048576 := hnd.text
  have hsy : ty.size ≤ 1048576 := hnd.ty
  simp only at hk
  subst hk
  have HX := Lib.hid hN
  obtain ⟨c0, c1, c2, c3, c4, c5, c6, c7⟩ := HX.out.cells
  have hlt := HX.out.lt
  clear hA hF hN hnd
  by_cases q0 : n = 0
  · subst q0
    cases p0 : zero ks
    · have HR : Hid (boolB ⟨23, tx, 0, ty, s4, s5, s6⟩ ks = false) := by
        show _ = _
        unfold boolB
        simp [p0]
      have f0_0 : ((ks.length : Int) == 0) = false := by
        have q := p0
        clear HR
        simp [zero] at q ⊢
        first | assumption | omega
      clear p0
      go_enter Tryz.func62, Tryz.ntmps62
      go_wp2
      go_ret
      exact ⟨by rw [HR.out]; rfl, HX.out.below⟩
    cases p1 : hasB false false true (⟨23, tx, 0, ty, s4, s5, s6⟩ : Nd)
    · have HR : Hid (boolB ⟨23, tx, 0, ty, s4, s5, s6⟩ ks = false) := by
        show _ = _
        unfold boolB
        simp [p0, p1]
      have f0_0 : ((ks.length : Int) == 0) = true := by
        have q := p0
        clear HR
        simp [zero] at q ⊢
        first | assumption | omega
      have H1 := fun W q0 q1 q2 q3 => has_4 (⟨23, tx, 0, ty, s4, s5, s6⟩ : Nd) b o W q0 q1 q2 q3
      rw [p1] at H1
      have HH1 := Lib.hid H1
      clear H1
      clear p0 p1
      go_enter Tryz.func62, Tryz.ntmps62
      go_wp2_with fail
      refine (HH1.out _ c0 c1 c2 c3).mono ?_
      rintro e w1 ⟨rfl, rfl⟩
      go_wp2
      go_ret
      exact ⟨by rw [HR.out]; rfl, HX.out.below⟩
    have HR : Hid (boolB ⟨23, tx, 0, ty, s4, s5, s6⟩ ks = true) := by
      show _ = _
      unfold boolB
      simp [p0, p1]
    have f0_0 : ((ks.length : Int) == 0) = true := by
      have q := p0
      clear HR
      simp [zero] at q ⊢
      first | assumption | omega
    have H1 := fun W q0 q1 q2 q3 => has_4 (⟨23, tx, 0, ty, s4, s5, s6⟩ : Nd) b o W q0 q1 q2 q3
    rw [p1] at H1
    have HH1 := Lib.hid H1
    clear H1
    clear p0 p1
    go_enter Tryz.func62, Tryz.ntmps62
    go_wp2_with fail
    refine (HH1.out _ c0 c1 c2 c3).mono ?_
    rintro e w1 ⟨rfl, rfl⟩
    go_wp2
    go_ret
    exact ⟨by rw [HR.out]; rfl, HX.out.below⟩
  by_cases q1 : n = 1
  · subst q1
    cases p0 : zero ks
    · have HR : Hid (boolB ⟨23, tx, 1, ty, s4, s5, s6⟩ ks = false) := by
        show _ = _
        unfold boolB
        simp [p0]
      have f0_0 : ((ks.length : Int) == 0) = false := by
        have q := p0
        clear HR
        simp [zero] at q ⊢
        first | assumption | omega
      clear p0
      go_enter Tryz.func62, Tryz.ntmps62
      go_wp2
      go_ret
      exact ⟨by rw [HR.out]; rfl, HX.out.below⟩
    cases p1 : hasB false false true (⟨23, tx, 1, ty, s4, s5, s6⟩ : Nd)
    · have HR : Hid (boolB ⟨23, tx, 1, ty, s4, s5, s6⟩ ks = false) := by
        show _ = _
        unfold boolB
        simp [p0, p1]
      have f0_0 : ((ks.length : Int) == 0) = true := by
        have q := p0
        clear HR
        simp [zero] at q ⊢
        first | assumption | omega
      have H1 := fun W q0 q1 q2 q3 => has_4 (⟨23, tx, 1, ty, s4, s5, s6⟩ : Nd) b o W q0 q1 q2 q3
      rw [p1] at H1
      have HH1 := Lib.hid H1
      clear H1
      clear p0 p1
      go_enter Tryz.func62, Tryz.ntmps62
      go_wp2_with fail
      refine (HH1.out _ c0 c1 c2 c3).mono ?_
      rintro e w1 ⟨rfl, rfl⟩
      go_wp2
      go_ret
      exact ⟨by rw [HR.out]; rfl, HX.out.below⟩
    have HR : Hid (boolB ⟨23, tx, 1, ty, s4, s5, s6⟩ ks = true) := by
      show _ = _
      unfold boolB
      simp [p0, p1]
    have f0_0 : ((ks.length : Int) == 0) = true := by
      have q := p0
      clear HR
      simp [zero] at q ⊢
      first | assumption | omega
    have H1 := fun W q0 q1 q2 q3 => has_4 (⟨23, tx, 1, ty, s4, s5, s6⟩ : Nd) b o W q0 q1 q2 q3
    rw [p1] at H1
    have HH1 := Lib.hid H1
    clear H1
    clear p0 p1
    go_enter Tryz.func62, Tryz.ntmps62
    go_wp2_with fail
    refine (HH1.out _ c0 c1 c2 c3).mono ?_
    rintro e w1 ⟨rfl, rfl⟩
    go_wp2
    go_ret
    exact ⟨by rw [HR.out]; rfl, HX.out.below⟩
  have f0 : (n == 0) = false := beq_false_of_ne q0
  have f1 : (n == 1) = false := beq_false_of_ne q1
  have HR : Hid (boolB ⟨23, tx, n, ty, s4, s5, s6⟩ ks = false) := by
    show _ = _
    unfold boolB
    simp [f0, f1]
  clear q0 q1
  go_enter Tryz.func62, Tryz.ntmps62
  go_wp2
  go_ret
  exact ⟨by rw [HR.out]; rfl, HX.out.below⟩
set_option maxHeartbeats 8000000 in
set_option maxRecDepth 100000 in
theorem expr_unary (E : Tr → Bool) (d : Nd) (ks : List Tr) (hF : Fit (.mk d ks)) (hk : d.k = 26) (ih : ∀ j, j < ks.length → Pays 62 E (ks.getD j tr0)) (S : Nat → Prop) (b o : Nat) (w : World) (hA : At w S (.mk d ks) b o) :
    Calls Tryz.prog 62 #[.pointer (some ⟨b, o, none⟩)] w fun e w' => e = .returned (.bool (unaryB E d ks)) ∧ Below w.heap.size w w' := by
  obtain ⟨a, c, hN⟩ := Nod.start hA
  have hlen := fit_len hF
  have hnd := fit_nd hF
  obtain ⟨k, tx, n, ty, s4, s5, s6⟩ := d
  have hst : tx.size ≤ 1048576 := hnd.text
  have hsy : ty.size ≤ 1048576 := hnd.ty
  simp only at hk
  subst hk
  have HX := Lib.hid hN
  obtain ⟨c0, c1, c2, c3, c4, c5, c6, c7⟩ := HX.out.cells
  have hlt := HX.out.lt
  clear hA hF hN hnd
  cases p0 : Lib.containsS unS tx
  · have HR : Hid (unaryB E ⟨26, tx, n, ty, s4, s5, s6⟩ ks = false) := by
      show _ = _
      unfold unaryB
      simp [p0]
    have H0 := fun W => un_any tx W
    rw [p0] at H0
    have HH0 := Lib.hid H0
    clear H0
    clear p0
    go_enter Tryz.func62, Tryz.ntmps62
    go_wp2_with fail
    refine (HH0.out _).mono ?_
    rintro e w1 ⟨rfl, hb⟩
    have HX := Lib.hid (HX.out.kept hb)
    clear hb hlt c0 c1 c2 c3 c4 c5 c6 c7
    obtain ⟨c0, c1, c2, c3, c4, c5, c6, c7⟩ := HX.out.cells
    have hlt := HX.out.lt
    go_wp2
    go_ret
    exact ⟨by rw [HR.out]; rfl, HX.out.below⟩
  cases p1 : (ks.length == 1)
  · have HR : Hid (unaryB E ⟨26, tx, n, ty, s4, s5, s6⟩ ks = false) := by
      show _ = _
      unfold unaryB
      simp [p0, p1]
    have H0 := fun W => un_any tx W
    rw [p0] at H0
    have HH0 := Lib.hid H0
    clear H0
    have f1_0 : ((ks.length : Int) == 1) = false := by
      have q := p1
      clear HR
      simp [] at q ⊢
      first | assumption | omega
    clear p0 p1
    go_enter Tryz.func62, Tryz.ntmps62
    go_wp2_with fail
    refine (HH0.out _).mono ?_
    rintro e w1 ⟨rfl, hb⟩
    have HX := Lib.hid (HX.out.kept hb)
    clear hb hlt c0 c1 c2 c3 c4 c5 c6 c7
    obtain ⟨c0, c1, c2, c3, c4, c5, c6, c7⟩ := HX.out.cells
    have hlt := HX.out.lt
    go_wp2
    go_ret
    exact ⟨by rw [HR.out]; rfl, HX.out.below⟩
  have hk0 : 0 < ks.length := by simp at p1; omega
  have ih0 := ih 0 hk0
  obtain ⟨u0, hu0⟩ : ∃ u, ks.getD 0 tr0 = u := ⟨_, rfl⟩
  rw [hu0] at ih0
  obtain ⟨kb, ko, rfl⟩ := kl_some HX.out.kl hk0
  cases p2 : hasB true false false (⟨26, tx, n, ty, s4, s5, s6⟩ : Nd)
  · have HR : Hid (unaryB E ⟨26, tx, n, ty, s4, s5, s6⟩ ks = false) := by
      show _ = _
      unfold unaryB
      rw [hu0]
      simp [p0, p1, p2]
    have H0 := fun W => un_any tx W
    rw [p0] at H0
    have HH0 := Lib.hid H0
    clear H0
    have f1_0 : ((ks.length : Int) == 1) = true := by
      have q := p1
      clear HR
      simp [] at q ⊢
      first | assumption | omega
    have H2 := fun W q0 q1 q2 q3 => has_1 (⟨26, tx, n, ty, s4, s5, s6⟩ : Nd) b o W q0 q1 q2 q3
    rw [p2] at H2
    have HH2 := Lib.hid H2
    clear H2
    clear p0 p1 p2
    go_enter Tryz.func62, Tryz.ntmps62
    go_wp2_with fail
    refine (HH0.out _).mono ?_
    rintro e w1 ⟨rfl, hb⟩
    have HX := Lib.hid (HX.out.kept hb)
    clear hb hlt c0 c1 c2 c3 c4 c5 c6 c7
    obtain ⟨c0, c1, c2, c3, c4, c5, c6, c7⟩ := HX.out.cells
    have hlt := HX.out.lt
    go_wp2_with fail
    refine (HH2.out _ c0 c1 c2 c3).mono ?_
    rintro e w1 ⟨rfl, rfl⟩
    go_wp2
    go_ret
    exact ⟨by rw [HR.out]; rfl, HX.out.below⟩
  unfold Pays at ih0
  have hk0_at : ∀ {W : World}, KL W (fun _ => True) ks (some ⟨kb, ko, none⟩) → At W (fun _ => True) u0 kb (ko + 0 * 8) := fun h => by rw [← hu0]; exact kl_at h hk0
  cases p3 : E u0
  · have HR : Hid (unaryB E ⟨26, tx, n, ty, s4, s5, s6⟩ ks = false) := by
      show _ = _
      unfold unaryB
      rw [hu0]
      simp [p0, p1, p2, p3]
    have H0 := fun W => un_any tx W
    rw [p0] at H0
    have HH0 := Lib.hid H0
    clear H0
    have f1_0 : ((ks.length : Int) == 1) = true := by
      have q := p1
      clear HR
      simp [] at q ⊢
      first | assumption | omega
    have H2 := fun W q0 q1 q2 q3 => has_1 (⟨26, tx, n, ty, s4, s5, s6⟩ : Nd) b o W q0 q1 q2 q3
    rw [p2] at H2
    have HH2 := Lib.hid H2
    clear H2
    have H3 := ih0
    rw [p3] at H3
    have HH3 := Lib.hid H3
    clear H3
    clear p0 p1 p2 p3
    go_enter Tryz.func62, Tryz.ntmps62
    go_wp2_with fail
    refine (HH0.out _).mono ?_
    rintro e w1 ⟨rfl, hb⟩
    have HX := Lib.hid (HX.out.kept hb)
    clear hb hlt c0 c1 c2 c3 c4 c5 c6 c7
    obtain ⟨c0, c1, c2, c3, c4, c5, c6, c7⟩ := HX.out.cells
    have hlt := HX.out.lt
    go_wp2_with fail
    refine (HH2.out _ c0 c1 c2 c3).mono ?_
    rintro e w1 ⟨rfl, rfl⟩
    go_wp2_with fail
    refine (HH3.out _ _ _ _ (hk0_at HX.out.kl)).mono ?_
    rintro e w1 ⟨rfl, hb⟩
    have HX := Lib.hid (HX.out.kept hb)
    clear hb hlt c0 c1 c2 c3 c4 c5 c6 c7
    obtain ⟨c0, c1, c2, c3, c4, c5, c6, c7⟩ := HX.out.cells
    have hlt := HX.out.lt
    go_wp2
    go_ret
    exact ⟨by rw [HR.out]; rfl, HX.out.below⟩
  have HR : Hid (unaryB E ⟨26, tx, n, ty, s4, s5, s6⟩ ks = true) := by
    show _ = _
    unfold unaryB
    rw [hu0]
    simp [p0, p1, p2, p3]
  have H0 := fun W => un_any tx W
  rw [p0] at H0
  have HH0 := Lib.hid H0
  clear H0
  have f1_0 : ((ks.length : Int) == 1) = true := by
    have q := p1
    clear HR
    simp [] at q ⊢
    first | assumption | omega
  have H2 := fun W q0 q1 q2 q3 => has_1 (⟨26, tx, n, ty, s4, s5, s6⟩ : Nd) b o W q0 q1 q2 q3
  rw [p2] at H2
  have HH2 := Lib.hid H2
  clear H2
  have H3 := ih0
  rw [p3] at H3
  have HH3 := Lib.hid H3
  clear H3
  clear p0 p1 p2 p3
  go_enter Tryz.func62, Tryz.ntmps62
  go_wp2_with fail
  refine (HH0.out _).mono ?_
  rintro e w1 ⟨rfl, hb⟩
  have HX := Lib.hid (HX.out.kept hb)
  clear hb hlt c0 c1 c2 c3 c4 c5 c6 c7
  obtain ⟨c0, c1, c2, c3, c4, c5, c6, c7⟩ := HX.out.cells
  have hlt := HX.out.lt
  go_wp2_with fail
  refine (HH2.out _ c0 c1 c2 c3).mono ?_
  rintro e w1 ⟨rfl, rfl⟩
  go_wp2_with fail
  refine (HH3.out _ _ _ _ (hk0_at HX.out.kl)).mono ?_
  rintro e w1 ⟨rfl, hb⟩
  have HX := Lib.hid (HX.out.kept hb)
  clear hb hlt c0 c1 c2 c3 c4 c5 c6 c7
  obtain ⟨c0, c1, c2, c3, c4, c5, c6, c7⟩ := HX.out.cells
  have hlt := HX.out.lt
  go_wp2
  go_ret
  exact ⟨by rw [HR.out]; rfl, HX.out.below⟩
set_option maxHeartbeats 8000000 in
set_option maxRecDepth 100000 in
theorem expr_binary (E : Tr → Bool) (d : Nd) (ks : List Tr) (hF : Fit (.mk d ks)) (hk : d.k = 27) (ih : ∀ j, j < ks.length → Pays 62 E (ks.getD j tr0)) (S : Nat → Prop) (b o : Nat) (w : World) (hA : At w S (.mk d ks) b o) :
    Calls Tryz.prog 62 #[.pointer (some ⟨b, o, none⟩)] w fun e w' => e = .returned (.bool (binaryB E d ks)) ∧ Below w.heap.size w w' := by
  obtain ⟨a, c, hN⟩ := Nod.start hA
  have hlen := fit_len hF
  have hnd := fit_nd hF
  obtain ⟨k, tx, n, ty, s4, s5, s6⟩ := d
  have hst : tx.size ≤ 1048576 := hnd.text
  have hsy : ty.size ≤ 1048576 := hnd.ty
  simp only at hk
  subst hk
  have HX := Lib.hid hN
  obtain ⟨c0, c1, c2, c3, c4, c5, c6, c7⟩ := HX.out.cells
  have hlt := HX.out.lt
  clear hA hF hN hnd
  obtain ⟨N, hN⟩ : ∃ N, bindsN tx = N := ⟨_, rfl⟩
  have hbi := fun W => binds_any tx W
  rw [hN] at hbi
  have HBI := Lib.hid hbi
  clear hbi
  cases p0 : decide (0 < N)
  · have HR : Hid (binaryB E ⟨27, tx, n, ty, s4, s5, s6⟩ ks = false) := by
      show _ = _
      unfold binaryB
      simp [p0, hN]
    have f0_0 : decide (0 < N) = false := by
      have q := p0
      clear HR
      simp [] at q ⊢
      first | assumption | omega
    clear p0
    go_enter Tryz.func62, Tryz.ntmps62
    go_wp2_with fail
    refine (HBI.out _).mono ?_
    rintro e w1 ⟨rfl, rfl⟩
    go_wp2
    go_ret
    exact ⟨by rw [HR.out]; rfl, HX.out.below⟩
  cases p1 : (ks.length == 2)
  · have HR : Hid (binaryB E ⟨27, tx, n, ty, s4, s5, s6⟩ ks = false) := by
      show _ = _
      unfold binaryB
      simp [p0, p1, hN]
    have f0_0 : decide (0 < N) = true := by
      have q := p0
      clear HR
      simp [] at q ⊢
      first | assumption | omega
    have f1_0 : ((ks.length : Int) == 2) = false := by
      have q := p1
      clear HR
      simp [] at q ⊢
      first | assumption | omega
    clear p0 p1
    go_enter Tryz.func62, Tryz.ntmps62
    go_wp2_with fail
    refine (HBI.out _).mono ?_
    rintro e w1 ⟨rfl, rfl⟩
    go_wp2
    go_ret
    exact ⟨by rw [HR.out]; rfl, HX.out.below⟩
  cases p2 : hasB true false false (⟨27, tx, n, ty, s4, s5, s6⟩ : Nd)
  · have HR : Hid (binaryB E ⟨27, tx, n, ty, s4, s5, s6⟩ ks = false) := by
      show _ = _
      unfold binaryB
      simp [p0, p1, p2, hN]
    have f0_0 : decide (0 < N) = true := by
      have q := p0
      clear HR
      simp [] at q ⊢
      first | assumption | omega
    have f1_0 : ((ks.length : Int) == 2) = true := by
      have q := p1
      clear HR
      simp [] at q ⊢
      first | assumption | omega
    have H2 := fun W q0 q1 q2 q3 => has_1 (⟨27, tx, n, ty, s4, s5, s6⟩ : Nd) b o W q0 q1 q2 q3
    rw [p2] at H2
    have HH2 := Lib.hid H2
    clear H2
    clear p0 p1 p2
    go_enter Tryz.func62, Tryz.ntmps62
    go_wp2_with fail
    refine (HBI.out _).mono ?_
    rintro e w1 ⟨rfl, rfl⟩
    go_wp2_with fail
    refine (HH2.out _ c0 c1 c2 c3).mono ?_
    rintro e w1 ⟨rfl, rfl⟩
    go_wp2
    go_ret
    exact ⟨by rw [HR.out]; rfl, HX.out.below⟩
  cases p3 : ks.all E
  · have HR : Hid (binaryB E ⟨27, tx, n, ty, s4, s5, s6⟩ ks = false) := by
      show _ = _
      unfold binaryB
      simp [p0, p1, p2, p3, hN]
    have f0_0 : decide (0 < N) = true := by
      have q := p0
      clear HR
      simp [] at q ⊢
      first | assumption | omega
    have f1_0 : ((ks.length : Int) == 2) = true := by
      have q := p1
      clear HR
      simp [] at q ⊢
      first | assumption | omega
    have H2 := fun W q0 q1 q2 q3 => has_1 (⟨27, tx, n, ty, s4, s5, s6⟩ : Nd) b o W q0 q1 q2 q3
    rw [p2] at H2
    have HH2 := Lib.hid H2
    clear H2
    have H3 := fun W h => all_of enters_expr a c hlen ih (S := fun _ => True) W h
    rw [p3] at H3
    have HH3 := Lib.hid H3
    clear H3
    clear p0 p1 p2 p3
    go_enter Tryz.func62, Tryz.ntmps62
    go_wp2_with fail
    refine (HBI.out _).mono ?_
    rintro e w1 ⟨rfl, rfl⟩
    go_wp2_with fail
    refine (HH2.out _ c0 c1 c2 c3).mono ?_
    rintro e w1 ⟨rfl, rfl⟩
    go_wp2_with fail
    refine (HH3.out _ HX.out.kl).mono ?_
    rintro e w1 ⟨rfl, hb⟩
    have HX := Lib.hid (HX.out.kept hb)
    clear hb hlt c0 c1 c2 c3 c4 c5 c6 c7
    obtain ⟨c0, c1, c2, c3, c4, c5, c6, c7⟩ := HX.out.cells
    have hlt := HX.out.lt
    go_wp2
    go_ret
    exact ⟨by rw [HR.out]; rfl, HX.out.below⟩
  have HR : Hid (binaryB E ⟨27, tx, n, ty, s4, s5, s6⟩ ks = true) := by
    show _ = _
    unfold binaryB
    simp [p0, p1, p2, p3, hN]
  have f0_0 : decide (0 < N) = true := by
    have q := p0
    clear HR
    simp [] at q ⊢
    first | assumption | omega
  have f1_0 : ((ks.length : Int) == 2) = true := by
    have q := p1
    clear HR
    simp [] at q ⊢
    first | assumption | omega
  have H2 := fun W q0 q1 q2 q3 => has_1 (⟨27, tx, n, ty, s4, s5, s6⟩ : Nd) b o W q0 q1 q2 q3
  rw [p2] at H2
  have HH2 := Lib.hid H2
  clear H2
  have H3 := fun W h => all_of enters_expr a c hlen ih (S := fun _ => True) W h
  rw [p3] at H3
  have HH3 := Lib.hid H3
  clear H3
  clear p0 p1 p2 p3
  go_enter Tryz.func62, Tryz.ntmps62
  go_wp2_with fail
  refine (HBI.out _).mono ?_
  rintro e w1 ⟨rfl, rfl⟩
  go_wp2_with fail
  refine (HH2.out _ c0 c1 c2 c3).mono ?_
  rintro e w1 ⟨rfl, rfl⟩
  go_wp2_with fail
  refine (HH3.out _ HX.out.kl).mono ?_
  rintro e w1 ⟨rfl, hb⟩
  have HX := Lib.hid (HX.out.kept hb)
  clear hb hlt c0 c1 c2 c3 c4 c5 c6 c7
  obtain ⟨c0, c1, c2, c3, c4, c5, c6, c7⟩ := HX.out.cells
  have hlt := HX.out.lt
  go_wp2
  go_ret
  exact ⟨by rw [HR.out]; rfl, HX.out.below⟩
set_option maxHeartbeats 8000000 in
set_option maxRecDepth 100000 in
theorem expr_call (E : Tr → Bool) (d : Nd) (ks : List Tr) (hF : Fit (.mk d ks)) (hk : d.k = 28) (ih : ∀ j, j < ks.length → Pays 62 E (ks.getD j tr0)) (ihi : ∀ j, j < ks.length → Pays 103 (itemOf E) (ks.getD j tr0)) (S : Nat → Prop) (b o : Nat) (w : World) (hA : At w S (.mk d ks) b o) :
    Calls Tryz.prog 62 #[.pointer (some ⟨b, o, none⟩)] w fun e w' => e = .returned (.bool (callB E d ks)) ∧ Below w.heap.size w w' := by
  obtain ⟨a, c, hN⟩ := Nod.start hA
  have hlen := fit_len hF
  have hnd := fit_nd hF
  obtain ⟨k, tx, n, ty, s4, s5, s6⟩ := d
  have hst : tx.size ≤ 1048576 := hnd.text
  have hsy : ty.size ≤ 1048576 := hnd.ty
  simp only at hk
  subst hk
  have HX := Lib.hid hN
  obtain ⟨c0, c1, c2, c3, c4, c5, c6, c7⟩ := HX.out.cells
  have hlt := HX.out.lt
  clear hA hF hN hnd
  cases e0 : (tx.toList == [108, 101, 110])
  rotate_left
  · cases p0 : hasB true false false (⟨28, tx, n, ty, s4, s5, s6⟩ : Nd)
    · have HR : Hid (callB E ⟨28, tx, n, ty, s4, s5, s6⟩ ks = false) := by
        show _ = _
        unfold callB
        simp [p0, fourB, e0]
      have H0 := fun W q0 q1 q2 q3 => has_1 (⟨28, tx, n, ty, s4, s5, s6⟩ : Nd) b o W q0 q1 q2 q3
      rw [p0] at H0
      have HH0 := Lib.hid H0
      clear H0
      clear p0
      go_enter Tryz.func62, Tryz.ntmps62
      go_wp2_with fail
      refine (HH0.out _ c0 c1 c2 c3).mono ?_
      rintro e w1 ⟨rfl, rfl⟩
      go_wp2
      go_ret
      exact ⟨by rw [HR.out]; rfl, HX.out.below⟩
    cases p1 : ks.all E
    · have HR : Hid (callB E ⟨28, tx, n, ty, s4, s5, s6⟩ ks = false) := by
        show _ = _
        unfold callB
        simp [p0, p1, fourB, e0]
      have H0 := fun W q0 q1 q2 q3 => has_1 (⟨28, tx, n, ty, s4, s5, s6⟩ : Nd) b o W q0 q1 q2 q3
      rw [p0] at H0
      have HH0 := Lib.hid H0
      clear H0
      have H1 := fun W h => all_of enters_expr a c hlen ih (S := fun _ => True) W h
      rw [p1] at H1
      have HH1 := Lib.hid H1
      clear H1
      clear p0 p1
      go_enter Tryz.func62, Tryz.ntmps62
      go_wp2_with fail
      refine (HH0.out _ c0 c1 c2 c3).mono ?_
      rintro e w1 ⟨rfl, rfl⟩
      go_wp2_with fail
      refine (HH1.out _ HX.out.kl).mono ?_
      rintro e w1 ⟨rfl, hb⟩
      have HX := Lib.hid (HX.out.kept hb)
      clear hb hlt c0 c1 c2 c3 c4 c5 c6 c7
      obtain ⟨c0, c1, c2, c3, c4, c5, c6, c7⟩ := HX.out.cells
      have hlt := HX.out.lt
      go_wp2
      go_ret
      exact ⟨by rw [HR.out]; rfl, HX.out.below⟩
    have HR : Hid (callB E ⟨28, tx, n, ty, s4, s5, s6⟩ ks = true) := by
      show _ = _
      unfold callB
      simp [p0, p1, fourB, e0]
    have H0 := fun W q0 q1 q2 q3 => has_1 (⟨28, tx, n, ty, s4, s5, s6⟩ : Nd) b o W q0 q1 q2 q3
    rw [p0] at H0
    have HH0 := Lib.hid H0
    clear H0
    have H1 := fun W h => all_of enters_expr a c hlen ih (S := fun _ => True) W h
    rw [p1] at H1
    have HH1 := Lib.hid H1
    clear H1
    clear p0 p1
    go_enter Tryz.func62, Tryz.ntmps62
    go_wp2_with fail
    refine (HH0.out _ c0 c1 c2 c3).mono ?_
    rintro e w1 ⟨rfl, rfl⟩
    go_wp2_with fail
    refine (HH1.out _ HX.out.kl).mono ?_
    rintro e w1 ⟨rfl, hb⟩
    have HX := Lib.hid (HX.out.kept hb)
    clear hb hlt c0 c1 c2 c3 c4 c5 c6 c7
    obtain ⟨c0, c1, c2, c3, c4, c5, c6, c7⟩ := HX.out.cells
    have hlt := HX.out.lt
    go_wp2
    go_ret
    exact ⟨by rw [HR.out]; rfl, HX.out.below⟩
  cases e1 : (tx.toList == [99, 97, 112])
  rotate_left
  · cases p0 : hasB true false false (⟨28, tx, n, ty, s4, s5, s6⟩ : Nd)
    · have HR : Hid (callB E ⟨28, tx, n, ty, s4, s5, s6⟩ ks = false) := by
        show _ = _
        unfold callB
        simp [p0, fourB, e0, e1]
      have H0 := fun W q0 q1 q2 q3 => has_1 (⟨28, tx, n, ty, s4, s5, s6⟩ : Nd) b o W q0 q1 q2 q3
      rw [p0] at H0
      have HH0 := Lib.hid H0
      clear H0
      clear p0
      go_enter Tryz.func62, Tryz.ntmps62
      go_wp2_with fail
      refine (HH0.out _ c0 c1 c2 c3).mono ?_
      rintro e w1 ⟨rfl, rfl⟩
      go_wp2
      go_ret
      exact ⟨by rw [HR.out]; rfl, HX.out.below⟩
    cases p1 : ks.all E
    · have HR : Hid (callB E ⟨28, tx, n, ty, s4, s5, s6⟩ ks = false) := by
        show _ = _
        unfold callB
        simp [p0, p1, fourB, e0, e1]
      have H0 := fun W q0 q1 q2 q3 => has_1 (⟨28, tx, n, ty, s4, s5, s6⟩ : Nd) b o W q0 q1 q2 q3
      rw [p0] at H0
      have HH0 := Lib.hid H0
      clear H0
      have H1 := fun W h => all_of enters_expr a c hlen ih (S := fun _ => True) W h
      rw [p1] at H1
      have HH1 := Lib.hid H1
      clear H1
      clear p0 p1
      go_enter Tryz.func62, Tryz.ntmps62
      go_wp2_with fail
      refine (HH0.out _ c0 c1 c2 c3).mono ?_
      rintro e w1 ⟨rfl, rfl⟩
      go_wp2_with fail
      refine (HH1.out _ HX.out.kl).mono ?_
      rintro e w1 ⟨rfl, hb⟩
      have HX := Lib.hid (HX.out.kept hb)
      clear hb hlt c0 c1 c2 c3 c4 c5 c6 c7
      obtain ⟨c0, c1, c2, c3, c4, c5, c6, c7⟩ := HX.out.cells
      have hlt := HX.out.lt
      go_wp2
      go_ret
      exact ⟨by rw [HR.out]; rfl, HX.out.below⟩
    have HR : Hid (callB E ⟨28, tx, n, ty, s4, s5, s6⟩ ks = true) := by
      show _ = _
      unfold callB
      simp [p0, p1, fourB, e0, e1]
    have H0 := fun W q0 q1 q2 q3 => has_1 (⟨28, tx, n, ty, s4, s5, s6⟩ : Nd) b o W q0 q1 q2 q3
    rw [p0] at H0
    have HH0 := Lib.hid H0
    clear H0
    have H1 := fun W h => all_of enters_expr a c hlen ih (S := fun _ => True) W h
    rw [p1] at H1
    have HH1 := Lib.hid H1
    clear H1
    clear p0 p1
    go_enter Tryz.func62, Tryz.ntmps62
    go_wp2_with fail
    refine (HH0.out _ c0 c1 c2 c3).mono ?_
    rintro e w1 ⟨rfl, rfl⟩
    go_wp2_with fail
    refine (HH1.out _ HX.out.kl).mono ?_
    rintro e w1 ⟨rfl, hb⟩
    have HX := Lib.hid (HX.out.kept hb)
    clear hb hlt c0 c1 c2 c3 c4 c5 c6 c7
    obtain ⟨c0, c1, c2, c3, c4, c5, c6, c7⟩ := HX.out.cells
    have hlt := HX.out.lt
    go_wp2
    go_ret
    exact ⟨by rw [HR.out]; rfl, HX.out.below⟩
  cases e2 : (tx.toList == [99, 108, 111, 115, 101])
  rotate_left
  · cases p0 : hasB true false false (⟨28, tx, n, ty, s4, s5, s6⟩ : Nd)
    · have HR : Hid (callB E ⟨28, tx, n, ty, s4, s5, s6⟩ ks = false) := by
        show _ = _
        unfold callB
        simp [p0, fourB, e0, e1, e2]
      have H0 := fun W q0 q1 q2 q3 => has_1 (⟨28, tx, n, ty, s4, s5, s6⟩ : Nd) b o W q0 q1 q2 q3
      rw [p0] at H0
      have HH0 := Lib.hid H0
      clear H0
      clear p0
      go_enter Tryz.func62, Tryz.ntmps62
      go_wp2_with fail
      refine (HH0.out _ c0 c1 c2 c3).mono ?_
      rintro e w1 ⟨rfl, rfl⟩
      go_wp2
      go_ret
      exact ⟨by rw [HR.out]; rfl, HX.out.below⟩
    cases p1 : ks.all E
    · have HR : Hid (callB E ⟨28, tx, n, ty, s4, s5, s6⟩ ks = false) := by
        show _ = _
        unfold callB
        simp [p0, p1, fourB, e0, e1, e2]
      have H0 := fun W q0 q1 q2 q3 => has_1 (⟨28, tx, n, ty, s4, s5, s6⟩ : Nd) b o W q0 q1 q2 q3
      rw [p0] at H0
      have HH0 := Lib.hid H0
      clear H0
      have H1 := fun W h => all_of enters_expr a c hlen ih (S := fun _ => True) W h
      rw [p1] at H1
      have HH1 := Lib.hid H1
      clear H1
      clear p0 p1
      go_enter Tryz.func62, Tryz.ntmps62
      go_wp2_with fail
      refine (HH0.out _ c0 c1 c2 c3).mono ?_
      rintro e w1 ⟨rfl, rfl⟩
      go_wp2_with fail
      refine (HH1.out _ HX.out.kl).mono ?_
      rintro e w1 ⟨rfl, hb⟩
      have HX := Lib.hid (HX.out.kept hb)
      clear hb hlt c0 c1 c2 c3 c4 c5 c6 c7
      obtain ⟨c0, c1, c2, c3, c4, c5, c6, c7⟩ := HX.out.cells
      have hlt := HX.out.lt
      go_wp2
      go_ret
      exact ⟨by rw [HR.out]; rfl, HX.out.below⟩
    have HR : Hid (callB E ⟨28, tx, n, ty, s4, s5, s6⟩ ks = true) := by
      show _ = _
      unfold callB
      simp [p0, p1, fourB, e0, e1, e2]
    have H0 := fun W q0 q1 q2 q3 => has_1 (⟨28, tx, n, ty, s4, s5, s6⟩ : Nd) b o W q0 q1 q2 q3
    rw [p0] at H0
    have HH0 := Lib.hid H0
    clear H0
    have H1 := fun W h => all_of enters_expr a c hlen ih (S := fun _ => True) W h
    rw [p1] at H1
    have HH1 := Lib.hid H1
    clear H1
    clear p0 p1
    go_enter Tryz.func62, Tryz.ntmps62
    go_wp2_with fail
    refine (HH0.out _ c0 c1 c2 c3).mono ?_
    rintro e w1 ⟨rfl, rfl⟩
    go_wp2_with fail
    refine (HH1.out _ HX.out.kl).mono ?_
    rintro e w1 ⟨rfl, hb⟩
    have HX := Lib.hid (HX.out.kept hb)
    clear hb hlt c0 c1 c2 c3 c4 c5 c6 c7
    obtain ⟨c0, c1, c2, c3, c4, c5, c6, c7⟩ := HX.out.cells
    have hlt := HX.out.lt
    go_wp2
    go_ret
    exact ⟨by rw [HR.out]; rfl, HX.out.below⟩
  cases e3 : (tx.toList == [121, 105, 101, 108, 100])
  rotate_left
  · cases p0 : hasB true false false (⟨28, tx, n, ty, s4, s5, s6⟩ : Nd)
    · have HR : Hid (callB E ⟨28, tx, n, ty, s4, s5, s6⟩ ks = false) := by
        show _ = _
        unfold callB
        simp [p0, fourB, e0, e1, e2, e3]
      have H0 := fun W q0 q1 q2 q3 => has_1 (⟨28, tx, n, ty, s4, s5, s6⟩ : Nd) b o W q0 q1 q2 q3
      rw [p0] at H0
      have HH0 := Lib.hid H0
      clear H0
      clear p0
      go_enter Tryz.func62, Tryz.ntmps62
      go_wp2_with fail
      refine (HH0.out _ c0 c1 c2 c3).mono ?_
      rintro e w1 ⟨rfl, rfl⟩
      go_wp2
      go_ret
      exact ⟨by rw [HR.out]; rfl, HX.out.below⟩
    cases p1 : ks.all E
    · have HR : Hid (callB E ⟨28, tx, n, ty, s4, s5, s6⟩ ks = false) := by
        show _ = _
        unfold callB
        simp [p0, p1, fourB, e0, e1, e2, e3]
      have H0 := fun W q0 q1 q2 q3 => has_1 (⟨28, tx, n, ty, s4, s5, s6⟩ : Nd) b o W q0 q1 q2 q3
      rw [p0] at H0
      have HH0 := Lib.hid H0
      clear H0
      have H1 := fun W h => all_of enters_expr a c hlen ih (S := fun _ => True) W h
      rw [p1] at H1
      have HH1 := Lib.hid H1
      clear H1
      clear p0 p1
      go_enter Tryz.func62, Tryz.ntmps62
      go_wp2_with fail
      refine (HH0.out _ c0 c1 c2 c3).mono ?_
      rintro e w1 ⟨rfl, rfl⟩
      go_wp2_with fail
      refine (HH1.out _ HX.out.kl).mono ?_
      rintro e w1 ⟨rfl, hb⟩
      have HX := Lib.hid (HX.out.kept hb)
      clear hb hlt c0 c1 c2 c3 c4 c5 c6 c7
      obtain ⟨c0, c1, c2, c3, c4, c5, c6, c7⟩ := HX.out.cells
      have hlt := HX.out.lt
      go_wp2
      go_ret
      exact ⟨by rw [HR.out]; rfl, HX.out.below⟩
    have HR : Hid (callB E ⟨28, tx, n, ty, s4, s5, s6⟩ ks = true) := by
      show _ = _
      unfold callB
      simp [p0, p1, fourB, e0, e1, e2, e3]
    have H0 := fun W q0 q1 q2 q3 => has_1 (⟨28, tx, n, ty, s4, s5, s6⟩ : Nd) b o W q0 q1 q2 q3
    rw [p0] at H0
    have HH0 := Lib.hid H0
    clear H0
    have H1 := fun W h => all_of enters_expr a c hlen ih (S := fun _ => True) W h
    rw [p1] at H1
    have HH1 := Lib.hid H1
    clear H1
    clear p0 p1
    go_enter Tryz.func62, Tryz.ntmps62
    go_wp2_with fail
    refine (HH0.out _ c0 c1 c2 c3).mono ?_
    rintro e w1 ⟨rfl, rfl⟩
    go_wp2_with fail
    refine (HH1.out _ HX.out.kl).mono ?_
    rintro e w1 ⟨rfl, hb⟩
    have HX := Lib.hid (HX.out.kept hb)
    clear hb hlt c0 c1 c2 c3 c4 c5 c6 c7
    obtain ⟨c0, c1, c2, c3, c4, c5, c6, c7⟩ := HX.out.cells
    have hlt := HX.out.lt
    go_wp2
    go_ret
    exact ⟨by rw [HR.out]; rfl, HX.out.below⟩
  cases e4 : (tx.toList == [112, 114, 105, 110, 116, 108, 110])
  rotate_left
  · cases p0 : hasB true false false (⟨28, tx, n, ty, s4, s5, s6⟩ : Nd)
    · have HR : Hid (callB E ⟨28, tx, n, ty, s4, s5, s6⟩ ks = false) := by
        show _ = _
        unfold callB
        simp [p0, fourB, plnB, e0, e1, e2, e3, e4]
      have H0 := fun W q0 q1 q2 q3 => has_1 (⟨28, tx, n, ty, s4, s5, s6⟩ : Nd) b o W q0 q1 q2 q3
      rw [p0] at H0
      have HH0 := Lib.hid H0
      clear H0
      clear p0
      go_enter Tryz.func62, Tryz.ntmps62
      go_wp2_with fail
      refine (HH0.out _ c0 c1 c2 c3).mono ?_
      rintro e w1 ⟨rfl, rfl⟩
      go_wp2
      go_ret
      exact ⟨by rw [HR.out]; rfl, HX.out.below⟩
    cases p1 : ks.all (itemOf E)
    · have HR : Hid (callB E ⟨28, tx, n, ty, s4, s5, s6⟩ ks = false) := by
        show _ = _
        unfold callB
        simp [p0, p1, fourB, plnB, e0, e1, e2, e3, e4]
      have H0 := fun W q0 q1 q2 q3 => has_1 (⟨28, tx, n, ty, s4, s5, s6⟩ : Nd) b o W q0 q1 q2 q3
      rw [p0] at H0
      have HH0 := Lib.hid H0
      clear H0
      have H1 := fun W h => all_of enters_item a c hlen ihi (S := fun _ => True) W h
      rw [p1] at H1
      have HH1 := Lib.hid H1
      clear H1
      clear p0 p1
      go_enter Tryz.func62, Tryz.ntmps62
      go_wp2_with fail
      refine (HH0.out _ c0 c1 c2 c3).mono ?_
      rintro e w1 ⟨rfl, rfl⟩
      go_wp2_with fail
      refine (HH1.out _ HX.out.kl).mono ?_
      rintro e w1 ⟨rfl, hb⟩
      have HX := Lib.hid (HX.out.kept hb)
      clear hb hlt c0 c1 c2 c3 c4 c5 c6 c7
      obtain ⟨c0, c1, c2, c3, c4, c5, c6, c7⟩ := HX.out.cells
      have hlt := HX.out.lt
      go_wp2
      go_ret
      exact ⟨by rw [HR.out]; rfl, HX.out.below⟩
    have HR : Hid (callB E ⟨28, tx, n, ty, s4, s5, s6⟩ ks = true) := by
      show _ = _
      unfold callB
      simp [p0, p1, fourB, plnB, e0, e1, e2, e3, e4]
    have H0 := fun W q0 q1 q2 q3 => has_1 (⟨28, tx, n, ty, s4, s5, s6⟩ : Nd) b o W q0 q1 q2 q3
    rw [p0] at H0
    have HH0 := Lib.hid H0
    clear H0
    have H1 := fun W h => all_of enters_item a c hlen ihi (S := fun _ => True) W h
    rw [p1] at H1
    have HH1 := Lib.hid H1
    clear H1
    clear p0 p1
    go_enter Tryz.func62, Tryz.ntmps62
    go_wp2_with fail
    refine (HH0.out _ c0 c1 c2 c3).mono ?_
    rintro e w1 ⟨rfl, rfl⟩
    go_wp2_with fail
    refine (HH1.out _ HX.out.kl).mono ?_
    rintro e w1 ⟨rfl, hb⟩
    have HX := Lib.hid (HX.out.kept hb)
    clear hb hlt c0 c1 c2 c3 c4 c5 c6 c7
    obtain ⟨c0, c1, c2, c3, c4, c5, c6, c7⟩ := HX.out.cells
    have hlt := HX.out.lt
    go_wp2
    go_ret
    exact ⟨by rw [HR.out]; rfl, HX.out.below⟩
  cases p0 : properB tx
  · have HR : Hid (callB E ⟨28, tx, n, ty, s4, s5, s6⟩ ks = false) := by
      show _ = _
      unfold callB
      simp [p0, fourB, plnB, e0, e1, e2, e3, e4]
    have H0 := fun W => proper_any tx W hst
    rw [p0] at H0
    have HH0 := Lib.hid H0
    clear H0
    clear p0
    go_enter Tryz.func62, Tryz.ntmps62
    go_wp2_with fail
    refine (HH0.out _).mono ?_
    rintro e w1 ⟨rfl, hb⟩
    have HX := Lib.hid (HX.out.kept hb)
    clear hb hlt c0 c1 c2 c3 c4 c5 c6 c7
    obtain ⟨c0, c1, c2, c3, c4, c5, c6, c7⟩ := HX.out.cells
    have hlt := HX.out.lt
    go_wp2
    go_ret
    exact ⟨by rw [HR.out]; rfl, HX.out.below⟩
  cases p1 : hasB true false false (⟨28, tx, n, ty, s4, s5, s6⟩ : Nd)
  · have HR : Hid (callB E ⟨28, tx, n, ty, s4, s5, s6⟩ ks = false) := by
      show _ = _
      unfold callB
      simp [p0, p1, fourB, plnB, e0, e1, e2, e3, e4]
    have H0 := fun W => proper_any tx W hst
    rw [p0] at H0
    have HH0 := Lib.hid H0
    clear H0
    have H1 := fun W q0 q1 q2 q3 => has_1 (⟨28, tx, n, ty, s4, s5, s6⟩ : Nd) b o W q0 q1 q2 q3
    rw [p1] at H1
    have HH1 := Lib.hid H1
    clear H1
    clear p0 p1
    go_enter Tryz.func62, Tryz.ntmps62
    go_wp2_with fail
    refine (HH0.out _).mono ?_
    rintro e w1 ⟨rfl, hb⟩
    have HX := Lib.hid (HX.out.kept hb)
    clear hb hlt c0 c1 c2 c3 c4 c5 c6 c7
    obtain ⟨c0, c1, c2, c3, c4, c5, c6, c7⟩ := HX.out.cells
    have hlt := HX.out.lt
    go_wp2_with fail
    refine (HH1.out _ c0 c1 c2 c3).mono ?_
    rintro e w1 ⟨rfl, rfl⟩
    go_wp2
    go_ret
    exact ⟨by rw [HR.out]; rfl, HX.out.below⟩
  cases p2 : ks.all E
  · have HR : Hid (callB E ⟨28, tx, n, ty, s4, s5, s6⟩ ks = false) := by
      show _ = _
      unfold callB
      simp [p0, p1, p2, fourB, plnB, e0, e1, e2, e3, e4]
    have H0 := fun W => proper_any tx W hst
    rw [p0] at H0
    have HH0 := Lib.hid H0
    clear H0
    have H1 := fun W q0 q1 q2 q3 => has_1 (⟨28, tx, n, ty, s4, s5, s6⟩ : Nd) b o W q0 q1 q2 q3
    rw [p1] at H1
    have HH1 := Lib.hid H1
    clear H1
    have H2 := fun W h => all_of enters_expr a c hlen ih (S := fun _ => True) W h
    rw [p2] at H2
    have HH2 := Lib.hid H2
    clear H2
    clear p0 p1 p2
    go_enter Tryz.func62, Tryz.ntmps62
    go_wp2_with fail
    refine (HH0.out _).mono ?_
    rintro e w1 ⟨rfl, hb⟩
    have HX := Lib.hid (HX.out.kept hb)
    clear hb hlt c0 c1 c2 c3 c4 c5 c6 c7
    obtain ⟨c0, c1, c2, c3, c4, c5, c6, c7⟩ := HX.out.cells
    have hlt := HX.out.lt
    go_wp2_with fail
    refine (HH1.out _ c0 c1 c2 c3).mono ?_
    rintro e w1 ⟨rfl, rfl⟩
    go_wp2_with fail
    refine (HH2.out _ HX.out.kl).mono ?_
    rintro e w1 ⟨rfl, hb⟩
    have HX := Lib.hid (HX.out.kept hb)
    clear hb hlt c0 c1 c2 c3 c4 c5 c6 c7
    obtain ⟨c0, c1, c2, c3, c4, c5, c6, c7⟩ := HX.out.cells
    have hlt := HX.out.lt
    go_wp2
    go_ret
    exact ⟨by rw [HR.out]; rfl, HX.out.below⟩
  have HR : Hid (callB E ⟨28, tx, n, ty, s4, s5, s6⟩ ks = true) := by
    show _ = _
    unfold callB
    simp [p0, p1, p2, fourB, plnB, e0, e1, e2, e3, e4]
  have H0 := fun W => proper_any tx W hst
  rw [p0] at H0
  have HH0 := Lib.hid H0
  clear H0
  have H1 := fun W q0 q1 q2 q3 => has_1 (⟨28, tx, n, ty, s4, s5, s6⟩ : Nd) b o W q0 q1 q2 q3
  rw [p1] at H1
  have HH1 := Lib.hid H1
  clear H1
  have H2 := fun W h => all_of enters_expr a c hlen ih (S := fun _ => True) W h
  rw [p2] at H2
  have HH2 := Lib.hid H2
  clear H2
  clear p0 p1 p2
  go_enter Tryz.func62, Tryz.ntmps62
  go_wp2_with fail
  refine (HH0.out _).mono ?_
  rintro e w1 ⟨rfl, hb⟩
  have HX := Lib.hid (HX.out.kept hb)
  clear hb hlt c0 c1 c2 c3 c4 c5 c6 c7
  obtain ⟨c0, c1, c2, c3, c4, c5, c6, c7⟩ := HX.out.cells
  have hlt := HX.out.lt
  go_wp2_with fail
  refine (HH1.out _ c0 c1 c2 c3).mono ?_
  rintro e w1 ⟨rfl, rfl⟩
  go_wp2_with fail
  refine (HH2.out _ HX.out.kl).mono ?_
  rintro e w1 ⟨rfl, hb⟩
  have HX := Lib.hid (HX.out.kept hb)
  clear hb hlt c0 c1 c2 c3 c4 c5 c6 c7
  obtain ⟨c0, c1, c2, c3, c4, c5, c6, c7⟩ := HX.out.cells
  have hlt := HX.out.lt
  go_wp2
  go_ret
  exact ⟨by rw [HR.out]; rfl, HX.out.below⟩
set_option maxHeartbeats 8000000 in
set_option maxRecDepth 100000 in
theorem expr_make (E : Tr → Bool) (d : Nd) (ks : List Tr) (hF : Fit (.mk d ks)) (hk : d.k = 29) (ih : ∀ j, j < ks.length → Pays 62 E (ks.getD j tr0)) (S : Nat → Prop) (b o : Nat) (w : World) (hA : At w S (.mk d ks) b o) :
    Calls Tryz.prog 62 #[.pointer (some ⟨b, o, none⟩)] w fun e w' => e = .returned (.bool (makeB E d ks)) ∧ Below w.heap.size w w' := by
  obtain ⟨a, c, hN⟩ := Nod.start hA
  have hlen := fit_len hF
  have hnd := fit_nd hF
  obtain ⟨k, tx, n, ty, s4, s5, s6⟩ := d
  have hst : tx.size ≤ 1048576 := hnd.text
  have hsy : ty.size ≤ 1048576 := hnd.ty
  simp only at hk
  subst hk
  have HX := Lib.hid hN
  obtain ⟨c0, c1, c2, c3, c4, c5, c6, c7⟩ := HX.out.cells
  have hlt := HX.out.lt
  clear hA hF hN hnd
  cases p0 : decide (ks.length ≤ 1)
  · have HR : Hid (makeB E ⟨29, tx, n, ty, s4, s5, s6⟩ ks = false) := by
      show _ = _
      unfold makeB
      simp [p0]
    have f0_0 : decide ((ks.length : Int) ≤ 1) = false := by
      have q := of_decide_eq_false p0
      clear HR
      exact decide_eq_false (by omega)
    have f0_1 : decide (ks.length ≤ 1) = false := by
      have q := of_decide_eq_false p0
      clear HR
      exact decide_eq_false (by omega)
    clear p0
    go_enter Tryz.func62, Tryz.ntmps62
    go_wp2
    go_ret
    exact ⟨by rw [HR.out]; rfl, HX.out.below⟩
  cases p1 : hasB false true false (⟨29, tx, n, ty, s4, s5, s6⟩ : Nd)
  · have HR : Hid (makeB E ⟨29, tx, n, ty, s4, s5, s6⟩ ks = false) := by
      show _ = _
      unfold makeB
      simp [p0, p1]
    have f0_0 : decide ((ks.length : Int) ≤ 1) = true := by
      have q := of_decide_eq_true p0
      clear HR
      exact decide_eq_true (by omega)
    have f0_1 : decide (ks.length ≤ 1) = true := by
      have q := of_decide_eq_true p0
      clear HR
      exact decide_eq_true (by omega)
    have H1 := fun W q0 q1 q2 q3 => has_2 (⟨29, tx, n, ty, s4, s5, s6⟩ : Nd) b o W q0 q1 q2 q3
    rw [p1] at H1
    have HH1 := Lib.hid H1
    clear H1
    clear p0 p1
    go_enter Tryz.func62, Tryz.ntmps62
    go_wp2_with fail
    refine (HH1.out _ c0 c1 c2 c3).mono ?_
    rintro e w1 ⟨rfl, rfl⟩
    go_wp2
    go_ret
    exact ⟨by rw [HR.out]; rfl, HX.out.below⟩
  cases p2 : typeB ty
  · have HR : Hid (makeB E ⟨29, tx, n, ty, s4, s5, s6⟩ ks = false) := by
      show _ = _
      unfold makeB
      simp [p0, p1, p2]
    have f0_0 : decide ((ks.length : Int) ≤ 1) = true := by
      have q := of_decide_eq_true p0
      clear HR
      exact decide_eq_true (by omega)
    have f0_1 : decide (ks.length ≤ 1) = true := by
      have q := of_decide_eq_true p0
      clear HR
      exact decide_eq_true (by omega)
    have H1 := fun W q0 q1 q2 q3 => has_2 (⟨29, tx, n, ty, s4, s5, s6⟩ : Nd) b o W q0 q1 q2 q3
    rw [p1] at H1
    have HH1 := Lib.hid H1
    clear H1
    have H2 := fun W => Tyq.right_any ty W (by omega)
    rw [p2] at H2
    have HH2 := Lib.hid H2
    clear H2
    clear p0 p1 p2
    go_enter Tryz.func62, Tryz.ntmps62
    go_wp2_with fail
    refine (HH1.out _ c0 c1 c2 c3).mono ?_
    rintro e w1 ⟨rfl, rfl⟩
    go_wp2_with fail
    refine (HH2.out _).mono ?_
    rintro e w1 ⟨rfl, rfl⟩
    go_wp2
    go_ret
    exact ⟨by rw [HR.out]; rfl, HX.out.below⟩
  cases p3 : ks.all E
  · have HR : Hid (makeB E ⟨29, tx, n, ty, s4, s5, s6⟩ ks = false) := by
      show _ = _
      unfold makeB
      simp [p0, p1, p2, p3]
    have f0_0 : decide ((ks.length : Int) ≤ 1) = true := by
      have q := of_decide_eq_true p0
      clear HR
      exact decide_eq_true (by omega)
    have f0_1 : decide (ks.length ≤ 1) = true := by
      have q := of_decide_eq_true p0
      clear HR
      exact decide_eq_true (by omega)
    have H1 := fun W q0 q1 q2 q3 => has_2 (⟨29, tx, n, ty, s4, s5, s6⟩ : Nd) b o W q0 q1 q2 q3
    rw [p1] at H1
    have HH1 := Lib.hid H1
    clear H1
    have H2 := fun W => Tyq.right_any ty W (by omega)
    rw [p2] at H2
    have HH2 := Lib.hid H2
    clear H2
    have H3 := fun W h => all_of enters_expr a c hlen ih (S := fun _ => True) W h
    rw [p3] at H3
    have HH3 := Lib.hid H3
    clear H3
    clear p0 p1 p2 p3
    go_enter Tryz.func62, Tryz.ntmps62
    go_wp2_with fail
    refine (HH1.out _ c0 c1 c2 c3).mono ?_
    rintro e w1 ⟨rfl, rfl⟩
    go_wp2_with fail
    refine (HH2.out _).mono ?_
    rintro e w1 ⟨rfl, rfl⟩
    go_wp2_with fail
    refine (HH3.out _ HX.out.kl).mono ?_
    rintro e w1 ⟨rfl, hb⟩
    have HX := Lib.hid (HX.out.kept hb)
    clear hb hlt c0 c1 c2 c3 c4 c5 c6 c7
    obtain ⟨c0, c1, c2, c3, c4, c5, c6, c7⟩ := HX.out.cells
    have hlt := HX.out.lt
    go_wp2
    go_ret
    exact ⟨by rw [HR.out]; rfl, HX.out.below⟩
  have HR : Hid (makeB E ⟨29, tx, n, ty, s4, s5, s6⟩ ks = true) := by
    show _ = _
    unfold makeB
    simp [p0, p1, p2, p3]
  have f0_0 : decide ((ks.length : Int) ≤ 1) = true := by
    have q := of_decide_eq_true p0
    clear HR
    exact decide_eq_true (by omega)
  have f0_1 : decide (ks.length ≤ 1) = true := by
    have q := of_decide_eq_true p0
    clear HR
    exact decide_eq_true (by omega)
  have H1 := fun W q0 q1 q2 q3 => has_2 (⟨29, tx, n, ty, s4, s5, s6⟩ : Nd) b o W q0 q1 q2 q3
  rw [p1] at H1
  have HH1 := Lib.hid H1
  clear H1
  have H2 := fun W => Tyq.right_any ty W (by omega)
  rw [p2] at H2
  have HH2 := Lib.hid H2
  clear H2
  have H3 := fun W h => all_of enters_expr a c hlen ih (S := fun _ => True) W h
  rw [p3] at H3
  have HH3 := Lib.hid H3
  clear H3
  clear p0 p1 p2 p3
  go_enter Tryz.func62, Tryz.ntmps62
  go_wp2_with fail
  refine (HH1.out _ c0 c1 c2 c3).mono ?_
  rintro e w1 ⟨rfl, rfl⟩
  go_wp2_with fail
  refine (HH2.out _).mono ?_
  rintro e w1 ⟨rfl, rfl⟩
  go_wp2_with fail
  refine (HH3.out _ HX.out.kl).mono ?_
  rintro e w1 ⟨rfl, hb⟩
  have HX := Lib.hid (HX.out.kept hb)
  clear hb hlt c0 c1 c2 c3 c4 c5 c6 c7
  obtain ⟨c0, c1, c2, c3, c4, c5, c6, c7⟩ := HX.out.cells
  have hlt := HX.out.lt
  go_wp2
  go_ret
  exact ⟨by rw [HR.out]; rfl, HX.out.below⟩
set_option maxHeartbeats 8000000 in
set_option maxRecDepth 100000 in
theorem expr_method (E : Tr → Bool) (d : Nd) (ks : List Tr) (hF : Fit (.mk d ks)) (hk : d.k = 30) (ih : ∀ j, j < ks.length → Pays 62 E (ks.getD j tr0)) (S : Nat → Prop) (b o : Nat) (w : World) (hA : At w S (.mk d ks) b o) :
    Calls Tryz.prog 62 #[.pointer (some ⟨b, o, none⟩)] w fun e w' => e = .returned (.bool (methodB E d ks)) ∧ Below w.heap.size w w' := by
  obtain ⟨a, c, hN⟩ := Nod.start hA
  have hlen := fit_len hF
  have hnd := fit_nd hF
  obtain ⟨k, tx, n, ty, s4, s5, s6⟩ := d
  have hst : tx.size ≤ 1048576 := hnd.text
  have hsy : ty.size ≤ 1048576 := hnd.ty
  simp only at hk
  subst hk
  have HX := Lib.hid hN
  obtain ⟨c0, c1, c2, c3, c4, c5, c6, c7⟩ := HX.out.cells
  have hlt := HX.out.lt
  clear hA hF hN hnd
  cases p0 : decide (1 ≤ ks.length)
  · have HR : Hid (methodB E ⟨30, tx, n, ty, s4, s5, s6⟩ ks = false) := by
      show _ = _
      unfold methodB
      simp [p0]
    have f0_0 : decide (1 ≤ (ks.length : Int)) = false := by
      have q := of_decide_eq_false p0
      clear HR
      exact decide_eq_false (by omega)
    have f0_1 : decide (1 ≤ ks.length) = false := by
      have q := of_decide_eq_false p0
      clear HR
      exact decide_eq_false (by omega)
    clear p0
    go_enter Tryz.func62, Tryz.ntmps62
    go_wp2
    go_ret
    exact ⟨by rw [HR.out]; rfl, HX.out.below⟩
  cases p1 : hasB true false false (⟨30, tx, n, ty, s4, s5, s6⟩ : Nd)
  · have HR : Hid (methodB E ⟨30, tx, n, ty, s4, s5, s6⟩ ks = false) := by
      show _ = _
      unfold methodB
      simp [p0, p1]
    have f0_0 : decide (1 ≤ (ks.length : Int)) = true := by
      have q := of_decide_eq_true p0
      clear HR
      exact decide_eq_true (by omega)
    have f0_1 : decide (1 ≤ ks.length) = true := by
      have q := of_decide_eq_true p0
      clear HR
      exact decide_eq_true (by omega)
    have H1 := fun W q0 q1 q2 q3 => has_1 (⟨30, tx, n, ty, s4, s5, s6⟩ : Nd) b o W q0 q1 q2 q3
    rw [p1] at H1
    have HH1 := Lib.hid H1
    clear H1
    clear p0 p1
    go_enter Tryz.func62, Tryz.ntmps62
    go_wp2_with fail
    refine (HH1.out _ c0 c1 c2 c3).mono ?_
    rintro e w1 ⟨rfl, rfl⟩
    go_wp2
    go_ret
    exact ⟨by rw [HR.out]; rfl, HX.out.below⟩
  cases p2 : Lib.containsS meS tx
  · have HR : Hid (methodB E ⟨30, tx, n, ty, s4, s5, s6⟩ ks = false) := by
      show _ = _
      unfold methodB
      simp [p0, p1, p2]
    have f0_0 : decide (1 ≤ (ks.length : Int)) = true := by
      have q := of_decide_eq_true p0
      clear HR
      exact decide_eq_true (by omega)
    have f0_1 : decide (1 ≤ ks.length) = true := by
      have q := of_decide_eq_true p0
      clear HR
      exact decide_eq_true (by omega)
    have H1 := fun W q0 q1 q2 q3 => has_1 (⟨30, tx, n, ty, s4, s5, s6⟩ : Nd) b o W q0 q1 q2 q3
    rw [p1] at H1
    have HH1 := Lib.hid H1
    clear H1
    have H2 := fun W => me_any tx W
    rw [p2] at H2
    have HH2 := Lib.hid H2
    clear H2
    clear p0 p1 p2
    go_enter Tryz.func62, Tryz.ntmps62
    go_wp2_with fail
    refine (HH1.out _ c0 c1 c2 c3).mono ?_
    rintro e w1 ⟨rfl, rfl⟩
    go_wp2_with fail
    refine (HH2.out _).mono ?_
    rintro e w1 ⟨rfl, hb⟩
    have HX := Lib.hid (HX.out.kept hb)
    clear hb hlt c0 c1 c2 c3 c4 c5 c6 c7
    obtain ⟨c0, c1, c2, c3, c4, c5, c6, c7⟩ := HX.out.cells
    have hlt := HX.out.lt
    go_wp2
    go_ret
    exact ⟨by rw [HR.out]; rfl, HX.out.below⟩
  cases p3 : ks.all E
  · have HR : Hid (methodB E ⟨30, tx, n, ty, s4, s5, s6⟩ ks = false) := by
      show _ = _
      unfold methodB
      simp [p0, p1, p2, p3]
    have f0_0 : decide (1 ≤ (ks.length : Int)) = true := by
      have q := of_decide_eq_true p0
      clear HR
      exact decide_eq_true (by omega)
    have f0_1 : decide (1 ≤ ks.length) = true := by
      have q := of_decide_eq_true p0
      clear HR
      exact decide_eq_true (by omega)
    have H1 := fun W q0 q1 q2 q3 => has_1 (⟨30, tx, n, ty, s4, s5, s6⟩ : Nd) b o W q0 q1 q2 q3
    rw [p1] at H1
    have HH1 := Lib.hid H1
    clear H1
    have H2 := fun W => me_any tx W
    rw [p2] at H2
    have HH2 := Lib.hid H2
    clear H2
    have H3 := fun W h => all_of enters_expr a c hlen ih (S := fun _ => True) W h
    rw [p3] at H3
    have HH3 := Lib.hid H3
    clear H3
    clear p0 p1 p2 p3
    go_enter Tryz.func62, Tryz.ntmps62
    go_wp2_with fail
    refine (HH1.out _ c0 c1 c2 c3).mono ?_
    rintro e w1 ⟨rfl, rfl⟩
    go_wp2_with fail
    refine (HH2.out _).mono ?_
    rintro e w1 ⟨rfl, hb⟩
    have HX := Lib.hid (HX.out.kept hb)
    clear hb hlt c0 c1 c2 c3 c4 c5 c6 c7
    obtain ⟨c0, c1, c2, c3, c4, c5, c6, c7⟩ := HX.out.cells
    have hlt := HX.out.lt
    go_wp2_with fail
    refine (HH3.out _ HX.out.kl).mono ?_
    rintro e w1 ⟨rfl, hb⟩
    have HX := Lib.hid (HX.out.kept hb)
    clear hb hlt c0 c1 c2 c3 c4 c5 c6 c7
    obtain ⟨c0, c1, c2, c3, c4, c5, c6, c7⟩ := HX.out.cells
    have hlt := HX.out.lt
    go_wp2
    go_ret
    exact ⟨by rw [HR.out]; rfl, HX.out.below⟩
  have HR : Hid (methodB E ⟨30, tx, n, ty, s4, s5, s6⟩ ks = true) := by
    show _ = _
    unfold methodB
    simp [p0, p1, p2, p3]
  have f0_0 : decide (1 ≤ (ks.length : Int)) = true := by
    have q := of_decide_eq_true p0
    clear HR
    exact decide_eq_true (by omega)
  have f0_1 : decide (1 ≤ ks.length) = true := by
    have q := of_decide_eq_true p0
    clear HR
    exact decide_eq_true (by omega)
  have H1 := fun W q0 q1 q2 q3 => has_1 (⟨30, tx, n, ty, s4, s5, s6⟩ : Nd) b o W q0 q1 q2 q3
  rw [p1] at H1
  have HH1 := Lib.hid H1
  clear H1
  have H2 := fun W => me_any tx W
  rw [p2] at H2
  have HH2 := Lib.hid H2
  clear H2
  have H3 := fun W h => all_of enters_expr a c hlen ih (S := fun _ => True) W h
  rw [p3] at H3
  have HH3 := Lib.hid H3
  clear H3
  clear p0 p1 p2 p3
  go_enter Tryz.func62, Tryz.ntmps62
  go_wp2_with fail
  refine (HH1.out _ c0 c1 c2 c3).mono ?_
  rintro e w1 ⟨rfl, rfl⟩
  go_wp2_with fail
  refine (HH2.out _).mono ?_
  rintro e w1 ⟨rfl, hb⟩
  have HX := Lib.hid (HX.out.kept hb)
  clear hb hlt c0 c1 c2 c3 c4 c5 c6 c7
  obtain ⟨c0, c1, c2, c3, c4, c5, c6, c7⟩ := HX.out.cells
  have hlt := HX.out.lt
  go_wp2_with fail
  refine (HH3.out _ HX.out.kl).mono ?_
  rintro e w1 ⟨rfl, hb⟩
  have HX := Lib.hid (HX.out.kept hb)
  clear hb hlt c0 c1 c2 c3 c4 c5 c6 c7
  obtain ⟨c0, c1, c2, c3, c4, c5, c6, c7⟩ := HX.out.cells
  have hlt := HX.out.lt
  go_wp2
  go_ret
  exact ⟨by rw [HR.out]; rfl, HX.out.below⟩
end Go.Proofs.YtgodeffkboihlaaGreatDoor.Txe
