/- tree's writer: expr: unary, binary, method. Printed by mkwrite.py. -/
import Derived.Test.YtgodeffkboihlaaGreatDoorTwe
import Derived.Test.YtgodeffkboihlaaGreatDoorDrw
set_option linter.unusedVariables false
namespace Go.Proofs.YtgodeffkboihlaaGreatDoor.Twf
open Go.RowKit Go.Sort Tra Trb Trf Trd Tcn Trh Tha Txa Tpr Tpt Twa Twb Twc Twd Twe Tqb Tqe

set_option maxHeartbeats 8000000 in
set_option maxRecDepth 100000 in
theorem expr_26 (E : Tr → Bs) (m : Bool) (d : Nd) (ks : List Tr) (hk : d.k = 26) (hk0 : 0 < ks.length) (hm : mustU d (kid 0 ks).d = m) (hU : Lib.containsS unS d.text = true) (hU2 : (kid 0 ks).d.k = 26 → Lib.containsS unS (kid 0 ks).d.text = true) (hlen : ks.length ≤ 1048576) (hE : ∀ j, j < ks.length → Writes 68 (E (kid j ks)) (kid j ks)) {B p dd : Nat} {l : Bs} {w : World} {b o : Nat} (hS : Ws B p l dd w) (hA : At w (fun b => b < B) (.mk d ks) b o) (hl : l.length + (s8 d.text ++ heldT E m (kid 0 ks)).length ≤ most) :
    Calls Tryz.prog 68 #[.pointer (some ⟨p, 0, none⟩), .pointer (some ⟨b, o, none⟩)] w (Post B p l (s8 d.text ++ heldT E m (kid 0 ks)) dd w) := by
  obtain ⟨a, c, hN⟩ := Nb.start hA
  have HE := Lib.hid hE
  have HS := Lib.hid hS
  have HL := Lib.hid hl
  have HB := Lib.hid (Below.refl B w)
  have HK : Hid (Keeps p w w) := Lib.OthersKept.refl _ _ _

  obtain ⟨kb, ko, rfl⟩ := kl_some' hN.kl hk0
  have HX := Lib.hid hN
  obtain ⟨k, tx, n, ty, s4, s5, s6⟩ := d
  simp only at hk
  subst hk
  obtain ⟨c0, c1, c2, c3, c7⟩ := HX.out.cells
  obtain ⟨kk0, hkk0⟩ : ∃ x, (kid 0 ks).d.k = x := ⟨_, rfl⟩
  obtain ⟨kt0, hkt0⟩ : ∃ x, (kid 0 ks).d.text = x := ⟨_, rfl⟩
  have hkc0 : ∀ (W : World), Nb B W b o ⟨26, tx, n, ty, s4, s5, s6⟩ ks (some ⟨kb, ko, none⟩) c → W.cell? ⟨kb, ko, none⟩ = some (.int .i64 kk0) ∧ W.cell? ⟨kb, ko + 1, none⟩ = some (.string kt0) := fun W h => by
    have q := kid_cells h hk0
    rw [hkk0, hkt0] at q
    simp only [Nat.zero_mul, Nat.add_zero] at q
    exact q
  have HKC0 := Lib.hid hkc0
  obtain ⟨k00, k01⟩ := HKC0.out _ HX.out
  clear hkc0
  unfold mustU at hm
  simp only at hm hU
  rw [hkk0, hkt0] at hm
  rw [hkk0, hkt0] at hU2
  obtain ⟨sg, hsg⟩ : ∃ x, signB tx = x := ⟨_, rfl⟩
  have hsg2 := fun W => signs_any tx hU W
  rw [hsg] at hsg2 hm
  have HSG := Lib.hid hsg2
  clear hsg2 hsg hU hkk0 hkt0
  clear hE hS hl hA hN
  cases sg
  · obtain rfl : m = (kk0 == 27) := by rw [← hm]; rfl
    clear hm
    go_enter Tryz.func68, Tryz.ntmps68
    go_wp2_with fail
    refine (HSG.out _).mono ?_
    rintro e wz ⟨rfl, rfl⟩
    go_wp2_with fail
    refine (add1 tx HS.out (by have := HL.out; simp at this ⊢; omega)).mono ?_
    rintro e w1 ⟨rfl, h1, h2, h3⟩
    have HS := Lib.hid h1
    have HX := Lib.hid (HX.out.kept h2)
    have HB := Lib.hid (HB.out.trans h2)
    have HK : Hid (Keeps p w w1) := HK.out.trans h3
    clear h1 h2 h3 c0 c1 c2 c3 c7 k00 k01
    obtain ⟨c0, c1, c2, c3, c7⟩ := HX.out.cells
    obtain ⟨k00, k01⟩ := HKC0.out _ HX.out
    go_wp2_with fail
    refine (hold_any E (kid 0 ks) (HE.out 0 hk0) (kk0 == 27) _ _ HS.out (kid_at HX.out hk0) (by have := HL.out; simp at this ⊢; omega)).mono ?_
    rintro e w2 ⟨rfl, h1, h2, h3⟩
    have HS := Lib.hid h1
    have HX := Lib.hid (HX.out.kept h2)
    have HB := Lib.hid (HB.out.trans h2)
    have HK : Hid (Keeps p w w2) := HK.out.trans h3
    clear h1 h2 h3 c0 c1 c2 c3 c7 k00 k01
    obtain ⟨c0, c1, c2, c3, c7⟩ := HX.out.cells
    obtain ⟨k00, k01⟩ := HKC0.out _ HX.out
    go_wp2
    go_end0
    refine ⟨rfl, ?_, HB.out, HK.out⟩
    have := HS.out
    simpa using this
  by_cases h26 : kk0 = 26
  · subst h26
    obtain ⟨sk, hsk⟩ : ∃ x, signB kt0 = x := ⟨_, rfl⟩
    have hsk2 := fun W => signs_any kt0 (hU2 rfl) W
    rw [hsk] at hsk2 hm
    have HSK := Lib.hid hsk2
    clear hsk2 hsk hU2
    cases sk
    · obtain rfl : m = false := by rw [← hm]; rfl
      clear hm
      go_enter Tryz.func68, Tryz.ntmps68
      go_wp2_with fail
      refine (HSG.out _).mono ?_
      rintro e wz ⟨rfl, rfl⟩
      go_wp2_with fail
      refine (HSK.out _).mono ?_
      rintro e wz ⟨rfl, rfl⟩
      go_wp2_with fail
      refine (add1 tx HS.out (by have := HL.out; simp at this ⊢; omega)).mono ?_
      rintro e w1 ⟨rfl, h1, h2, h3⟩
      have HS := Lib.hid h1
      have HX := Lib.hid (HX.out.kept h2)
      have HB := Lib.hid (HB.out.trans h2)
      have HK : Hid (Keeps p w w1) := HK.out.trans h3
      clear h1 h2 h3 c0 c1 c2 c3 c7 k00 k01
      obtain ⟨c0, c1, c2, c3, c7⟩ := HX.out.cells
      obtain ⟨k00, k01⟩ := HKC0.out _ HX.out
      go_wp2_with fail
      refine (hold_any E (kid 0 ks) (HE.out 0 hk0) false _ _ HS.out (kid_at HX.out hk0) (by have := HL.out; simp at this ⊢; omega)).mono ?_
      rintro e w2 ⟨rfl, h1, h2, h3⟩
      have HS := Lib.hid h1
      have HX := Lib.hid (HX.out.kept h2)
      have HB := Lib.hid (HB.out.trans h2)
      have HK : Hid (Keeps p w w2) := HK.out.trans h3
      clear h1 h2 h3 c0 c1 c2 c3 c7 k00 k01
      obtain ⟨c0, c1, c2, c3, c7⟩ := HX.out.cells
      obtain ⟨k00, k01⟩ := HKC0.out _ HX.out
      go_wp2
      go_end0
      refine ⟨rfl, ?_, HB.out, HK.out⟩
      have := HS.out
      simpa using this
    · obtain rfl : m = true := by rw [← hm]; rfl
      clear hm
      go_enter Tryz.func68, Tryz.ntmps68
      go_wp2_with fail
      refine (HSG.out _).mono ?_
      rintro e wz ⟨rfl, rfl⟩
      go_wp2_with fail
      refine (HSK.out _).mono ?_
      rintro e wz ⟨rfl, rfl⟩
      go_wp2_with fail
      refine (add1 tx HS.out (by have := HL.out; simp at this ⊢; omega)).mono ?_
      rintro e w1 ⟨rfl, h1, h2, h3⟩
      have HS := Lib.hid h1
      have HX := Lib.hid (HX.out.kept h2)
      have HB := Lib.hid (HB.out.trans h2)
      have HK : Hid (Keeps p w w1) := HK.out.trans h3
      clear h1 h2 h3 c0 c1 c2 c3 c7 k00 k01
      obtain ⟨c0, c1, c2, c3, c7⟩ := HX.out.cells
      obtain ⟨k00, k01⟩ := HKC0.out _ HX.out
      go_wp2_with fail
      refine (hold_any E (kid 0 ks) (HE.out 0 hk0) true _ _ HS.out (kid_at HX.out hk0) (by have := HL.out; simp at this ⊢; omega)).mono ?_
      rintro e w2 ⟨rfl, h1, h2, h3⟩
      have HS := Lib.hid h1
      have HX := Lib.hid (HX.out.kept h2)
      have HB := Lib.hid (HB.out.trans h2)
      have HK : Hid (Keeps p w w2) := HK.out.trans h3
      clear h1 h2 h3 c0 c1 c2 c3 c7 k00 k01
      obtain ⟨c0, c1, c2, c3, c7⟩ := HX.out.cells
      obtain ⟨k00, k01⟩ := HKC0.out _ HX.out
      go_wp2
      go_end0
      refine ⟨rfl, ?_, HB.out, HK.out⟩
      have := HS.out
      simpa using this
  have e26 : (kk0 == 26) = false := beq_false_of_ne h26
  obtain rfl : m = (kk0 == 27) := by rw [← hm, e26]; rfl
  clear hm h26 hU2
  go_enter Tryz.func68, Tryz.ntmps68
  go_wp2_with fail
  refine (HSG.out _).mono ?_
  rintro e wz ⟨rfl, rfl⟩
  go_wp2_with fail
  refine (add1 tx HS.out (by have := HL.out; simp at this ⊢; omega)).mono ?_
  rintro e w1 ⟨rfl, h1, h2, h3⟩
  have HS := Lib.hid h1
  have HX := Lib.hid (HX.out.kept h2)
  have HB := Lib.hid (HB.out.trans h2)
  have HK : Hid (Keeps p w w1) := HK.out.trans h3
  clear h1 h2 h3 c0 c1 c2 c3 c7 k00 k01
  obtain ⟨c0, c1, c2, c3, c7⟩ := HX.out.cells
  obtain ⟨k00, k01⟩ := HKC0.out _ HX.out
  go_wp2_with fail
  refine (hold_any E (kid 0 ks) (HE.out 0 hk0) (kk0 == 27) _ _ HS.out (kid_at HX.out hk0) (by have := HL.out; simp at this ⊢; omega)).mono ?_
  rintro e w2 ⟨rfl, h1, h2, h3⟩
  have HS := Lib.hid h1
  have HX := Lib.hid (HX.out.kept h2)
  have HB := Lib.hid (HB.out.trans h2)
  have HK : Hid (Keeps p w w2) := HK.out.trans h3
  clear h1 h2 h3 c0 c1 c2 c3 c7 k00 k01
  obtain ⟨c0, c1, c2, c3, c7⟩ := HX.out.cells
  obtain ⟨k00, k01⟩ := HKC0.out _ HX.out
  go_wp2
  go_end0
  refine ⟨rfl, ?_, HB.out, HK.out⟩
  have := HS.out
  simpa using this
set_option maxHeartbeats 8000000 in
set_option maxRecDepth 100000 in
theorem expr_27 (E : Tr → Bs) (m0 m1 : Bool) (d : Nd) (ks : List Tr) (hk : d.k = 27) (h2 : ks.length = 2) (hm0 : mustL d (kid 0 ks).d = m0) (hm1 : mustR d (kid 1 ks).d = m1) (hlen : ks.length ≤ 1048576) (hE : ∀ j, j < ks.length → Writes 68 (E (kid j ks)) (kid j ks)) {B p dd : Nat} {l : Bs} {w : World} {b o : Nat} (hS : Ws B p l dd w) (hA : At w (fun b => b < B) (.mk d ks) b o) (hl : l.length + (heldT E m0 (kid 0 ks) ++ (([32] ++ s8 d.text ++ [32]) ++ heldT E m1 (kid 1 ks))).length ≤ most) :
    Calls Tryz.prog 68 #[.pointer (some ⟨p, 0, none⟩), .pointer (some ⟨b, o, none⟩)] w (Post B p l (heldT E m0 (kid 0 ks) ++ (([32] ++ s8 d.text ++ [32]) ++ heldT E m1 (kid 1 ks))) dd w) := by
  obtain ⟨a, c, hN⟩ := Nb.start hA
  have HE := Lib.hid hE
  have HS := Lib.hid hS
  have HL := Lib.hid hl
  have HB := Lib.hid (Below.refl B w)
  have HK : Hid (Keeps p w w) := Lib.OthersKept.refl _ _ _
  have hk0 : 0 < ks.length := by omega
  have hk1 : 1 < ks.length := by omega
  obtain ⟨kb, ko, rfl⟩ := kl_some' hN.kl hk0
  have HX := Lib.hid hN
  obtain ⟨k, tx, n, ty, s4, s5, s6⟩ := d
  simp only at hk
  subst hk
  obtain ⟨c0, c1, c2, c3, c7⟩ := HX.out.cells
  obtain ⟨kk0, hkk0⟩ : ∃ x, (kid 0 ks).d.k = x := ⟨_, rfl⟩
  obtain ⟨kt0, hkt0⟩ : ∃ x, (kid 0 ks).d.text = x := ⟨_, rfl⟩
  have hkc0 : ∀ (W : World), Nb B W b o ⟨27, tx, n, ty, s4, s5, s6⟩ ks (some ⟨kb, ko, none⟩) c → W.cell? ⟨kb, ko, none⟩ = some (.int .i64 kk0) ∧ W.cell? ⟨kb, ko + 1, none⟩ = some (.string kt0) := fun W h => by
    have q := kid_cells h hk0
    rw [hkk0, hkt0] at q
    simp only [Nat.zero_mul, Nat.add_zero] at q
    exact q
  have HKC0 := Lib.hid hkc0
  obtain ⟨k00, k01⟩ := HKC0.out _ HX.out
  clear hkc0
  obtain ⟨kk1, hkk1⟩ : ∃ x, (kid 1 ks).d.k = x := ⟨_, rfl⟩
  obtain ⟨kt1, hkt1⟩ : ∃ x, (kid 1 ks).d.text = x := ⟨_, rfl⟩
  have hkc1 : ∀ (W : World), Nb B W b o ⟨27, tx, n, ty, s4, s5, s6⟩ ks (some ⟨kb, ko, none⟩) c → W.cell? ⟨kb, ko + 8, none⟩ = some (.int .i64 kk1) ∧ W.cell? ⟨kb, ko + 9, none⟩ = some (.string kt1) := fun W h => by
    have q := kid_cells h hk1
    rw [hkk1, hkt1] at q
    simp only [Nat.one_mul, Nat.add_assoc, Nat.reduceAdd] at q
    exact q
  have HKC1 := Lib.hid hkc1
  obtain ⟨k10, k11⟩ := HKC1.out _ HX.out
  clear hkc1
  unfold mustL at hm0
  unfold mustR at hm1
  simp only at hm0 hm1
  rw [hkk0, hkt0] at hm0
  rw [hkk1, hkt1] at hm1
  obtain ⟨N, hN⟩ : ∃ x, bindsN tx = x := ⟨_, rfl⟩
  obtain ⟨N0, hN0⟩ : ∃ x, bindsN kt0 = x := ⟨_, rfl⟩
  obtain ⟨N1, hN1⟩ : ∃ x, bindsN kt1 = x := ⟨_, rfl⟩
  have hbt := fun W => binds_any tx W
  have hb0 := fun W => binds_any kt0 W
  have hb1 := fun W => binds_any kt1 W
  rw [hN] at hbt hm0 hm1
  rw [hN0] at hb0 hm0
  rw [hN1] at hb1 hm1
  have HBT := Lib.hid hbt
  have HB0 := Lib.hid hb0
  have HB1 := Lib.hid hb1
  have HL2 := Lib.hid h2
  rw [h2] at c7
  clear hbt hb0 hb1 hN hN0 hN1 hkk0 hkt0 hkk1 hkt1 h2
  clear hE hS hl hA
  by_cases h0 : kk0 = 27
  · subst h0
    obtain rfl : m0 = decide (N0 < N) := by rw [← hm0]; rfl
    clear hm0
    by_cases h1 : kk1 = 27
    · subst h1
      obtain rfl : m1 = decide (N1 ≤ N) := by rw [← hm1]; rfl
      clear hm1
      go_enter Tryz.func68, Tryz.ntmps68
      go_wp2_with fail
      refine (HBT.out _).mono ?_
      rintro e wz ⟨rfl, rfl⟩
      have g7 := cell_regrown c7
      go_wp2_with fail
      refine wp_region_quiet_below (by kernel_rfl) (by kernel_rfl) ?_
      repeat (go_big_quiet_step (fail))
      refine wpQuiet_nil ?_
      intro w1 hw4
      have hd := Drw.cls_below (w := w) hw4
      have HB := Lib.hid (HB.out.trans (hd.mono HS.out.hB))
      have HK : Hid (Keeps p w w1) := HK.out.trans (keeps_below hd)
      have HX := Lib.hid (HX.out.kept (hd.mono HS.out.hB))
      have HS := Lib.hid (HS.out.kept hd)
      clear hd hw4 g7 c0 c1 c2 c3 c7 k00 k01 k10 k11
      obtain ⟨c0, c1, c2, c3, c7⟩ := HX.out.cells
      rw [HL2.out] at c7
      obtain ⟨k00, k01⟩ := HKC0.out _ HX.out
      obtain ⟨k10, k11⟩ := HKC1.out _ HX.out
      go_wp2_with fail
      refine (HB0.out _).mono ?_
      rintro e wz ⟨rfl, rfl⟩
      go_wp2_with fail
      refine (hold_any E (kid 0 ks) (HE.out 0 hk0) (decide (N0 < N)) _ _ HS.out (kid_at HX.out hk0) (by have := HL.out; simp at this ⊢; omega)).mono ?_
      rintro e w2 ⟨rfl, h1, h2, h3⟩
      have HS := Lib.hid h1
      have HX := Lib.hid (HX.out.kept h2)
      have HB := Lib.hid (HB.out.trans h2)
      have HK : Hid (Keeps p w w2) := HK.out.trans h3
      clear h1 h2 h3 c0 c1 c2 c3 c7 k00 k01 k10 k11
      obtain ⟨c0, c1, c2, c3, c7⟩ := HX.out.cells
      rw [HL2.out] at c7
      obtain ⟨k00, k01⟩ := HKC0.out _ HX.out
      obtain ⟨k10, k11⟩ := HKC1.out _ HX.out
      go_wp2_with fail
      refine (add3 ⟨#[32]⟩ tx ⟨#[32]⟩ HS.out (by have := HL.out; simp at this ⊢; omega)).mono ?_
      rintro e w3 ⟨rfl, h1, h2, h3⟩
      have HS := Lib.hid h1
      have HX := Lib.hid (HX.out.kept h2)
      have HB := Lib.hid (HB.out.trans h2)
      have HK : Hid (Keeps p w w3) := HK.out.trans h3
      clear h1 h2 h3 c0 c1 c2 c3 c7 k00 k01 k10 k11
      obtain ⟨c0, c1, c2, c3, c7⟩ := HX.out.cells
      rw [HL2.out] at c7
      obtain ⟨k00, k01⟩ := HKC0.out _ HX.out
      obtain ⟨k10, k11⟩ := HKC1.out _ HX.out
      go_wp2_with fail
      refine (HB1.out _).mono ?_
      rintro e wz ⟨rfl, rfl⟩
      go_wp2_with fail
      refine (hold_any E (kid 1 ks) (HE.out 1 hk1) (decide (N1 ≤ N)) _ _ HS.out (kid_at HX.out hk1) (by have := HL.out; simp at this ⊢; omega)).mono ?_
      rintro e w4 ⟨rfl, h1, h2, h3⟩
      have HS := Lib.hid h1
      have HX := Lib.hid (HX.out.kept h2)
      have HB := Lib.hid (HB.out.trans h2)
      have HK : Hid (Keeps p w w4) := HK.out.trans h3
      clear h1 h2 h3 c0 c1 c2 c3 c7 k00 k01 k10 k11
      obtain ⟨c0, c1, c2, c3, c7⟩ := HX.out.cells
      rw [HL2.out] at c7
      obtain ⟨k00, k01⟩ := HKC0.out _ HX.out
      obtain ⟨k10, k11⟩ := HKC1.out _ HX.out
      go_wp2
      go_end0
      refine ⟨rfl, ?_, HB.out, HK.out⟩
      have := HS.out
      simpa using this
    have e1 : (kk1 == 27) = false := beq_false_of_ne h1
    clear h1
    obtain rfl : m1 = false := by rw [← hm1, e1]; rfl
    clear hm1
    go_enter Tryz.func68, Tryz.ntmps68
    go_wp2_with fail
    refine (HBT.out _).mono ?_
    rintro e wz ⟨rfl, rfl⟩
    have g7 := cell_regrown c7
    go_wp2_with fail
    refine wp_region_quiet_below (by kernel_rfl) (by kernel_rfl) ?_
    repeat (go_big_quiet_step (fail))
    refine wpQuiet_nil ?_
    intro w1 hw4
    have hd := Drw.cls_below (w := w) hw4
    have HB := Lib.hid (HB.out.trans (hd.mono HS.out.hB))
    have HK : Hid (Keeps p w w1) := HK.out.trans (keeps_below hd)
    have HX := Lib.hid (HX.out.kept (hd.mono HS.out.hB))
    have HS := Lib.hid (HS.out.kept hd)
    clear hd hw4 g7 c0 c1 c2 c3 c7 k00 k01 k10 k11
    obtain ⟨c0, c1, c2, c3, c7⟩ := HX.out.cells
    rw [HL2.out] at c7
    obtain ⟨k00, k01⟩ := HKC0.out _ HX.out
    obtain ⟨k10, k11⟩ := HKC1.out _ HX.out
    go_wp2_with fail
    refine (HB0.out _).mono ?_
    rintro e wz ⟨rfl, rfl⟩
    go_wp2_with fail
    refine (hold_any E (kid 0 ks) (HE.out 0 hk0) (decide (N0 < N)) _ _ HS.out (kid_at HX.out hk0) (by have := HL.out; simp at this ⊢; omega)).mono ?_
    rintro e w2 ⟨rfl, h1, h2, h3⟩
    have HS := Lib.hid h1
    have HX := Lib.hid (HX.out.kept h2)
    have HB := Lib.hid (HB.out.trans h2)
    have HK : Hid (Keeps p w w2) := HK.out.trans h3
    clear h1 h2 h3 c0 c1 c2 c3 c7 k00 k01 k10 k11
    obtain ⟨c0, c1, c2, c3, c7⟩ := HX.out.cells
    rw [HL2.out] at c7
    obtain ⟨k00, k01⟩ := HKC0.out _ HX.out
    obtain ⟨k10, k11⟩ := HKC1.out _ HX.out
    go_wp2_with fail
    refine (add3 ⟨#[32]⟩ tx ⟨#[32]⟩ HS.out (by have := HL.out; simp at this ⊢; omega)).mono ?_
    rintro e w3 ⟨rfl, h1, h2, h3⟩
    have HS := Lib.hid h1
    have HX := Lib.hid (HX.out.kept h2)
    have HB := Lib.hid (HB.out.trans h2)
    have HK : Hid (Keeps p w w3) := HK.out.trans h3
    clear h1 h2 h3 c0 c1 c2 c3 c7 k00 k01 k10 k11
    obtain ⟨c0, c1, c2, c3, c7⟩ := HX.out.cells
    rw [HL2.out] at c7
    obtain ⟨k00, k01⟩ := HKC0.out _ HX.out
    obtain ⟨k10, k11⟩ := HKC1.out _ HX.out
    go_wp2_with fail
    refine (hold_any E (kid 1 ks) (HE.out 1 hk1) false _ _ HS.out (kid_at HX.out hk1) (by have := HL.out; simp at this ⊢; omega)).mono ?_
    rintro e w4 ⟨rfl, h1, h2, h3⟩
    have HS := Lib.hid h1
    have HX := Lib.hid (HX.out.kept h2)
    have HB := Lib.hid (HB.out.trans h2)
    have HK : Hid (Keeps p w w4) := HK.out.trans h3
    clear h1 h2 h3 c0 c1 c2 c3 c7 k00 k01 k10 k11
    obtain ⟨c0, c1, c2, c3, c7⟩ := HX.out.cells
    rw [HL2.out] at c7
    obtain ⟨k00, k01⟩ := HKC0.out _ HX.out
    obtain ⟨k10, k11⟩ := HKC1.out _ HX.out
    go_wp2
    go_end0
    refine ⟨rfl, ?_, HB.out, HK.out⟩
    have := HS.out
    simpa using this
  have e0 : (kk0 == 27) = false := beq_false_of_ne h0
  clear h0
  obtain rfl : m0 = false := by rw [← hm0, e0]; rfl
  clear hm0
  by_cases h1 : kk1 = 27
  · subst h1
    obtain rfl : m1 = decide (N1 ≤ N) := by rw [← hm1]; rfl
    clear hm1
    go_enter Tryz.func68, Tryz.ntmps68
    go_wp2_with fail
    refine (HBT.out _).mono ?_
    rintro e wz ⟨rfl, rfl⟩
    have g7 := cell_regrown c7
    go_wp2_with fail
    refine wp_region_quiet_below (by kernel_rfl) (by kernel_rfl) ?_
    repeat (go_big_quiet_step (fail))
    refine wpQuiet_nil ?_
    intro w1 hw4
    have hd := Drw.cls_below (w := w) hw4
    have HB := Lib.hid (HB.out.trans (hd.mono HS.out.hB))
    have HK : Hid (Keeps p w w1) := HK.out.trans (keeps_below hd)
    have HX := Lib.hid (HX.out.kept (hd.mono HS.out.hB))
    have HS := Lib.hid (HS.out.kept hd)
    clear hd hw4 g7 c0 c1 c2 c3 c7 k00 k01 k10 k11
    obtain ⟨c0, c1, c2, c3, c7⟩ := HX.out.cells
    rw [HL2.out] at c7
    obtain ⟨k00, k01⟩ := HKC0.out _ HX.out
    obtain ⟨k10, k11⟩ := HKC1.out _ HX.out
    go_wp2_with fail
    refine (hold_any E (kid 0 ks) (HE.out 0 hk0) false _ _ HS.out (kid_at HX.out hk0) (by have := HL.out; simp at this ⊢; omega)).mono ?_
    rintro e w2 ⟨rfl, h1, h2, h3⟩
    have HS := Lib.hid h1
    have HX := Lib.hid (HX.out.kept h2)
    have HB := Lib.hid (HB.out.trans h2)
    have HK : Hid (Keeps p w w2) := HK.out.trans h3
    clear h1 h2 h3 c0 c1 c2 c3 c7 k00 k01 k10 k11
    obtain ⟨c0, c1, c2, c3, c7⟩ := HX.out.cells
    rw [HL2.out] at c7
    obtain ⟨k00, k01⟩ := HKC0.out _ HX.out
    obtain ⟨k10, k11⟩ := HKC1.out _ HX.out
    go_wp2_with fail
    refine (add3 ⟨#[32]⟩ tx ⟨#[32]⟩ HS.out (by have := HL.out; simp at this ⊢; omega)).mono ?_
    rintro e w3 ⟨rfl, h1, h2, h3⟩
    have HS := Lib.hid h1
    have HX := Lib.hid (HX.out.kept h2)
    have HB := Lib.hid (HB.out.trans h2)
    have HK : Hid (Keeps p w w3) := HK.out.trans h3
    clear h1 h2 h3 c0 c1 c2 c3 c7 k00 k01 k10 k11
    obtain ⟨c0, c1, c2, c3, c7⟩ := HX.out.cells
    rw [HL2.out] at c7
    obtain ⟨k00, k01⟩ := HKC0.out _ HX.out
    obtain ⟨k10, k11⟩ := HKC1.out _ HX.out
    go_wp2_with fail
    refine (HB1.out _).mono ?_
    rintro e wz ⟨rfl, rfl⟩
    go_wp2_with fail
    refine (hold_any E (kid 1 ks) (HE.out 1 hk1) (decide (N1 ≤ N)) _ _ HS.out (kid_at HX.out hk1) (by have := HL.out; simp at this ⊢; omega)).mono ?_
    rintro e w4 ⟨rfl, h1, h2, h3⟩
    have HS := Lib.hid h1
    have HX := Lib.hid (HX.out.kept h2)
    have HB := Lib.hid (HB.out.trans h2)
    have HK : Hid (Keeps p w w4) := HK.out.trans h3
    clear h1 h2 h3 c0 c1 c2 c3 c7 k00 k01 k10 k11
    obtain ⟨c0, c1, c2, c3, c7⟩ := HX.out.cells
    rw [HL2.out] at c7
    obtain ⟨k00, k01⟩ := HKC0.out _ HX.out
    obtain ⟨k10, k11⟩ := HKC1.out _ HX.out
    go_wp2
    go_end0
    refine ⟨rfl, ?_, HB.out, HK.out⟩
    have := HS.out
    simpa using this
  have e1 : (kk1 == 27) = false := beq_false_of_ne h1
  clear h1
  obtain rfl : m1 = false := by rw [← hm1, e1]; rfl
  clear hm1
  go_enter Tryz.func68, Tryz.ntmps68
  go_wp2_with fail
  refine (HBT.out _).mono ?_
  rintro e wz ⟨rfl, rfl⟩
  have g7 := cell_regrown c7
  go_wp2_with fail
  refine wp_region_quiet_below (by kernel_rfl) (by kernel_rfl) ?_
  repeat (go_big_quiet_step (fail))
  refine wpQuiet_nil ?_
  intro w1 hw4
  have hd := Drw.cls_below (w := w) hw4
  have HB := Lib.hid (HB.out.trans (hd.mono HS.out.hB))
  have HK : Hid (Keeps p w w1) := HK.out.trans (keeps_below hd)
  have HX := Lib.hid (HX.out.kept (hd.mono HS.out.hB))
  have HS := Lib.hid (HS.out.kept hd)
  clear hd hw4 g7 c0 c1 c2 c3 c7 k00 k01 k10 k11
  obtain ⟨c0, c1, c2, c3, c7⟩ := HX.out.cells
  rw [HL2.out] at c7
  obtain ⟨k00, k01⟩ := HKC0.out _ HX.out
  obtain ⟨k10, k11⟩ := HKC1.out _ HX.out
  go_wp2_with fail
  refine (hold_any E (kid 0 ks) (HE.out 0 hk0) false _ _ HS.out (kid_at HX.out hk0) (by have := HL.out; simp at this ⊢; omega)).mono ?_
  rintro e w2 ⟨rfl, h1, h2, h3⟩
  have HS := Lib.hid h1
  have HX := Lib.hid (HX.out.kept h2)
  have HB := Lib.hid (HB.out.trans h2)
  have HK : Hid (Keeps p w w2) := HK.out.trans h3
  clear h1 h2 h3 c0 c1 c2 c3 c7 k00 k01 k10 k11
  obtain ⟨c0, c1, c2, c3, c7⟩ := HX.out.cells
  rw [HL2.out] at c7
  obtain ⟨k00, k01⟩ := HKC0.out _ HX.out
  obtain ⟨k10, k11⟩ := HKC1.out _ HX.out
  go_wp2_with fail
  refine (add3 ⟨#[32]⟩ tx ⟨#[32]⟩ HS.out (by have := HL.out; simp at this ⊢; omega)).mono ?_
  rintro e w3 ⟨rfl, h1, h2, h3⟩
  have HS := Lib.hid h1
  have HX := Lib.hid (HX.out.kept h2)
  have HB := Lib.hid (HB.out.trans h2)
  have HK : Hid (Keeps p w w3) := HK.out.trans h3
  clear h1 h2 h3 c0 c1 c2 c3 c7 k00 k01 k10 k11
  obtain ⟨c0, c1, c2, c3, c7⟩ := HX.out.cells
  rw [HL2.out] at c7
  obtain ⟨k00, k01⟩ := HKC0.out _ HX.out
  obtain ⟨k10, k11⟩ := HKC1.out _ HX.out
  go_wp2_with fail
  refine (hold_any E (kid 1 ks) (HE.out 1 hk1) false _ _ HS.out (kid_at HX.out hk1) (by have := HL.out; simp at this ⊢; omega)).mono ?_
  rintro e w4 ⟨rfl, h1, h2, h3⟩
  have HS := Lib.hid h1
  have HX := Lib.hid (HX.out.kept h2)
  have HB := Lib.hid (HB.out.trans h2)
  have HK : Hid (Keeps p w w4) := HK.out.trans h3
  clear h1 h2 h3 c0 c1 c2 c3 c7 k00 k01 k10 k11
  obtain ⟨c0, c1, c2, c3, c7⟩ := HX.out.cells
  rw [HL2.out] at c7
  obtain ⟨k00, k01⟩ := HKC0.out _ HX.out
  obtain ⟨k10, k11⟩ := HKC1.out _ HX.out
  go_wp2
  go_end0
  refine ⟨rfl, ?_, HB.out, HK.out⟩
  have := HS.out
  simpa using this
set_option maxHeartbeats 8000000 in
set_option maxRecDepth 100000 in
theorem expr_30 (E : Tr → Bs) (m : Bool) (d : Nd) (ks : List Tr) (hk : d.k = 30) (hk0 : 0 < ks.length) (hm : mustM (kid 0 ks).d = m) (hlen : ks.length ≤ 1048576) (hE : ∀ j, j < ks.length → Writes 68 (E (kid j ks)) (kid j ks)) {B p dd : Nat} {l : Bs} {w : World} {b o : Nat} (hS : Ws B p l dd w) (hA : At w (fun b => b < B) (.mk d ks) b o) (hl : l.length + (heldT E m (kid 0 ks) ++ (([46] ++ s8 d.text ++ [40]) ++ (commas E (ks.drop 1) ++ [41]))).length ≤ most) :
    Calls Tryz.prog 68 #[.pointer (some ⟨p, 0, none⟩), .pointer (some ⟨b, o, none⟩)] w (Post B p l (heldT E m (kid 0 ks) ++ (([46] ++ s8 d.text ++ [40]) ++ (commas E (ks.drop 1) ++ [41]))) dd w) := by
  obtain ⟨a, c, hN⟩ := Nb.start hA
  have HE := Lib.hid hE
  have HS := Lib.hid hS
  have HL := Lib.hid hl
  have HB := Lib.hid (Below.refl B w)
  have HK : Hid (Keeps p w w) := Lib.OthersKept.refl _ _ _

  obtain ⟨kb, ko, rfl⟩ := kl_some' hN.kl hk0
  have HX := Lib.hid hN
  obtain ⟨k, tx, n, ty, s4, s5, s6⟩ := d
  simp only at hk
  subst hk
  obtain ⟨c0, c1, c2, c3, c7⟩ := HX.out.cells
  obtain ⟨kk0, hkk0⟩ : ∃ x, (kid 0 ks).d.k = x := ⟨_, rfl⟩
  obtain ⟨kt0, hkt0⟩ : ∃ x, (kid 0 ks).d.text = x := ⟨_, rfl⟩
  have hkc0 : ∀ (W : World), Nb B W b o ⟨30, tx, n, ty, s4, s5, s6⟩ ks (some ⟨kb, ko, none⟩) c → W.cell? ⟨kb, ko, none⟩ = some (.int .i64 kk0) ∧ W.cell? ⟨kb, ko + 1, none⟩ = some (.string kt0) := fun W h => by
    have q := kid_cells h hk0
    rw [hkk0, hkt0] at q
    simp only [Nat.zero_mul, Nat.add_zero] at q
    exact q
  have HKC0 := Lib.hid hkc0
  obtain ⟨k00, k01⟩ := HKC0.out _ HX.out
  clear hkc0
  unfold mustM at hm
  rw [hkk0] at hm
  have hcap := HX.out.cap
  have hdl : (ks.drop 1).length = ks.length - 1 := by simp
  have hEd : ∀ j, j < (ks.drop 1).length → Writes 68 (E ((ks.drop 1).getD j tr0)) ((ks.drop 1).getD j tr0) := fun j hj => by
    rw [hdl] at hj
    rw [show (ks.drop 1).getD j tr0 = kid (1 + j) ks by rw [List.getD_eq_getElem?_getD, List.getElem?_drop, ← List.getD_eq_getElem?_getD]]
    exact HE.out _ (by omega)
  have hli := fun (l : Bs) (W : World) (h1 : Ws B p l dd W) (h2 : KL W (fun b => b < B) (ks.drop 1) (dropA (some ⟨kb, ko, none⟩) 1 c)) (h3 : l.length + (commas E (ks.drop 1)).length ≤ most) => list_any E (ks.drop 1) (dropA (some ⟨kb, ko, none⟩) 1 c) (c - 1) (by omega) hEd h1 h2 h3
  rw [hdl] at hli
  have HLI := Lib.hid hli
  have HKD := Lib.hid (fun W (h : KL W (fun b => b < B) ks (some ⟨kb, ko, none⟩)) => kl_drop h hcap 1)
  have HRUN : ∀ W, (Instr.slice 23 (.slice (some ⟨kb, ko, none⟩) ks.length c) (some (.int .i64 1)) none none).run Tryz.prog W = .ok (.slice (dropA (some ⟨kb, ko, none⟩) 1 c) (ks.length - 1) (c - 1)) W := fun W => slice_low (some ⟨kb, ko, none⟩) ks.length c 1 W (by omega)
  clear hkk0 hkt0 hdl hEd hli hcap
  clear hE hS hl hA hN
  by_cases h27 : kk0 = 27
  · subst h27
    obtain rfl : m = true := by rw [← hm]; rfl
    clear hm
    go_enter Tryz.func68, Tryz.ntmps68
    go_wp2_with fail
    refine (hold_any E (kid 0 ks) (HE.out 0 hk0) true _ _ HS.out (kid_at HX.out hk0) (by have := HL.out; simp at this ⊢; omega)).mono ?_
    rintro e w1 ⟨rfl, h1, h2, h3⟩
    have HS := Lib.hid h1
    have HX := Lib.hid (HX.out.kept h2)
    have HB := Lib.hid (HB.out.trans h2)
    have HK : Hid (Keeps p w w1) := HK.out.trans h3
    clear h1 h2 h3 c0 c1 c2 c3 c7 k00 k01
    obtain ⟨c0, c1, c2, c3, c7⟩ := HX.out.cells
    obtain ⟨k00, k01⟩ := HKC0.out _ HX.out
    go_wp2_with fail
    refine (add3 ⟨#[46]⟩ tx ⟨#[40]⟩ HS.out (by have := HL.out; simp at this ⊢; omega)).mono ?_
    rintro e w2 ⟨rfl, h1, h2, h3⟩
    have HS := Lib.hid h1
    have HX := Lib.hid (HX.out.kept h2)
    have HB := Lib.hid (HB.out.trans h2)
    have HK : Hid (Keeps p w w2) := HK.out.trans h3
    clear h1 h2 h3 c0 c1 c2 c3 c7 k00 k01
    obtain ⟨c0, c1, c2, c3, c7⟩ := HX.out.cells
    obtain ⟨k00, k01⟩ := HKC0.out _ HX.out
    go_wp2_with fail
    refine (HLI.out _ _ HS.out (HKD.out _ HX.out.kl) (by have := HL.out; simp at this ⊢; omega)).mono ?_
    rintro e w3 ⟨rfl, h1, h2, h3⟩
    have HS := Lib.hid h1
    have HX := Lib.hid (HX.out.kept h2)
    have HB := Lib.hid (HB.out.trans h2)
    have HK : Hid (Keeps p w w3) := HK.out.trans h3
    clear h1 h2 h3 c0 c1 c2 c3 c7 k00 k01
    obtain ⟨c0, c1, c2, c3, c7⟩ := HX.out.cells
    obtain ⟨k00, k01⟩ := HKC0.out _ HX.out
    go_wp2_with fail
    refine (add1 ⟨#[41]⟩ HS.out (by have := HL.out; simp at this ⊢; omega)).mono ?_
    rintro e w4 ⟨rfl, h1, h2, h3⟩
    have HS := Lib.hid h1
    have HX := Lib.hid (HX.out.kept h2)
    have HB := Lib.hid (HB.out.trans h2)
    have HK : Hid (Keeps p w w4) := HK.out.trans h3
    clear h1 h2 h3 c0 c1 c2 c3 c7 k00 k01
    obtain ⟨c0, c1, c2, c3, c7⟩ := HX.out.cells
    obtain ⟨k00, k01⟩ := HKC0.out _ HX.out
    go_wp2
    go_end0
    refine ⟨rfl, ?_, HB.out, HK.out⟩
    have := HS.out
    simpa using this
  have e27 : (kk0 == 27) = false := beq_false_of_ne h27
  obtain rfl : m = (kk0 == 26) := by rw [← hm, e27]; rfl
  clear hm h27
  go_enter Tryz.func68, Tryz.ntmps68
  go_wp2_with fail
  refine (hold_any E (kid 0 ks) (HE.out 0 hk0) (kk0 == 26) _ _ HS.out (kid_at HX.out hk0) (by have := HL.out; simp at this ⊢; omega)).mono ?_
  rintro e w1 ⟨rfl, h1, h2, h3⟩
  have HS := Lib.hid h1
  have HX := Lib.hid (HX.out.kept h2)
  have HB := Lib.hid (HB.out.trans h2)
  have HK : Hid (Keeps p w w1) := HK.out.trans h3
  clear h1 h2 h3 c0 c1 c2 c3 c7 k00 k01
  obtain ⟨c0, c1, c2, c3, c7⟩ := HX.out.cells
  obtain ⟨k00, k01⟩ := HKC0.out _ HX.out
  go_wp2_with fail
  refine (add3 ⟨#[46]⟩ tx ⟨#[40]⟩ HS.out (by have := HL.out; simp at this ⊢; omega)).mono ?_
  rintro e w2 ⟨rfl, h1, h2, h3⟩
  have HS := Lib.hid h1
  have HX := Lib.hid (HX.out.kept h2)
  have HB := Lib.hid (HB.out.trans h2)
  have HK : Hid (Keeps p w w2) := HK.out.trans h3
  clear h1 h2 h3 c0 c1 c2 c3 c7 k00 k01
  obtain ⟨c0, c1, c2, c3, c7⟩ := HX.out.cells
  obtain ⟨k00, k01⟩ := HKC0.out _ HX.out
  go_wp2_with fail
  refine (HLI.out _ _ HS.out (HKD.out _ HX.out.kl) (by have := HL.out; simp at this ⊢; omega)).mono ?_
  rintro e w3 ⟨rfl, h1, h2, h3⟩
  have HS := Lib.hid h1
  have HX := Lib.hid (HX.out.kept h2)
  have HB := Lib.hid (HB.out.trans h2)
  have HK : Hid (Keeps p w w3) := HK.out.trans h3
  clear h1 h2 h3 c0 c1 c2 c3 c7 k00 k01
  obtain ⟨c0, c1, c2, c3, c7⟩ := HX.out.cells
  obtain ⟨k00, k01⟩ := HKC0.out _ HX.out
  go_wp2_with fail
  refine (add1 ⟨#[41]⟩ HS.out (by have := HL.out; simp at this ⊢; omega)).mono ?_
  rintro e w4 ⟨rfl, h1, h2, h3⟩
  have HS := Lib.hid h1
  have HX := Lib.hid (HX.out.kept h2)
  have HB := Lib.hid (HB.out.trans h2)
  have HK : Hid (Keeps p w w4) := HK.out.trans h3
  clear h1 h2 h3 c0 c1 c2 c3 c7 k00 k01
  obtain ⟨c0, c1, c2, c3, c7⟩ := HX.out.cells
  obtain ⟨k00, k01⟩ := HKC0.out _ HX.out
  go_wp2
  go_end0
  refine ⟨rfl, ?_, HB.out, HK.out⟩
  have := HS.out
  simpa using this
end Go.Proofs.YtgodeffkboihlaaGreatDoor.Twf
