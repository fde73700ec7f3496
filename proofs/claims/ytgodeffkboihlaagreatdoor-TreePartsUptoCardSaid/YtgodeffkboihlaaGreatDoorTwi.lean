/- tree's writer: simple of any right one; head. Printed by mkwrite.py. -/
import Derived.Test.YtgodeffkboihlaaGreatDoorTwh
import Derived.Deep.RegionHeld3
set_option linter.unusedVariables false
namespace Go.Proofs.YtgodeffkboihlaaGreatDoor.Twi
open Go.RowKit Tra Trb Trf Trd Tcn Trh Tha Txa Tpr Tpt Twa Twb Twc Twd Twe Twf Twg Twh

/-- What is asked of a node that is written as a simple statement. -/
def FineM (f : Nat) (t : Tr) : Prop := t.d.k = 0 ∨ simpleT (exprB f) t = true
theorem take_kid {p : Tr → Bool} {ks : List Tr} {m j : Nat} (h : (ks.take m).all p = true) (hj : j < m) (hl : m ≤ ks.length) : p (kid j ks) = true := by
  have := all_kid h (j := j) (by simp; omega)
  rwa [show kid j (ks.take m) = kid j ks by simp [kid, List.getD_eq_getElem?_getD, hj]] at this
theorem simple_writes (f : Nat) (t : Tr) (ht : size t ≤ f) (hF : Fit t) (hfine : FineM f t) : Writes 71 (simpleTx (exprT f) t) t := by
  obtain ⟨d, ks⟩ := t
  intro B p dd l w b o hS hA hl
  have hlen := fit_len hF
  have hkid : ∀ j, j < ks.length → Fine f (kid j ks) → Writes 68 (exprT f (kid j ks)) (kid j ks) := fun j hj h => expr_writes f _ (by have := size_kid hj; simp only [size] at ht; show size (ks.getD j tr0) ≤ f; omega) (fit_kid hF hj) h
  have e : simpleTx (exprT f) (.mk d ks) = simpleX (exprT f) d ks := rfl
  rw [e] at hl ⊢
  rcases hfine with h0 | hB
  · simp only [Tr.d] at h0
    have e : simpleX (exprT f) d ks = [] := by unfold simpleX; simp [h0]
    rw [e] at hl ⊢
    exact none_ (fun _ => []) d ks h0 hlen hS hA hl
  have hB' : simpleB (exprB f) d ks = true := hB
  unfold simpleB at hB'
  unfold simpleX at hl ⊢
  have letf : ∀ m, letB (exprB f) d ks m = true → m = 1 ∨ m = 2 → ks.length = m + 1 ∧ ∀ j, j < ks.length → Fine f (kid j ks) := by
    intro m h hm
    unfold letB at h
    simp only [Bool.and_eq_true, beq_iff_eq] at h
    obtain ⟨h1, _, h2, h3, _⟩ := h
    refine ⟨h1, fun j hj => ?_⟩
    by_cases e : j = m
    · subst e; exact fine_of h3
    · have := take_kid (j := j) h2 (by omega) (by omega)
      unfold targetT targetB at this
      simp only [Bool.and_eq_true, beq_iff_eq] at this
      exact .inl this.1
  by_cases h6 : d.k = 6
  · rw [if_pos h6] at hB' hl ⊢
    unfold letsB at hB'
    by_cases n1 : d.n = 1
    · rw [if_pos n1] at hB'
      obtain ⟨q1, q2⟩ := letf 1 hB' (.inl rfl)
      rw [show d.n.toNat = 1 by rw [n1]; rfl] at hl ⊢
      exact let_1_6 (exprT f) d ks h6 n1 q1 hlen (fun j hj => hkid j hj (q2 j hj)) hS hA hl
    rw [if_neg n1] at hB'
    by_cases n2 : d.n = 2
    · rw [if_pos n2] at hB'
      obtain ⟨q1, q2⟩ := letf 2 hB' (.inr rfl)
      rw [show d.n.toNat = 2 by rw [n2]; rfl] at hl ⊢
      exact let_2_6 (exprT f) d ks h6 n2 q1 hlen (fun j hj => hkid j hj (q2 j hj)) hS hA hl
    rw [if_neg n2] at hB'
    cases hB'
  rw [if_neg h6] at hB' hl ⊢
  by_cases h7 : d.k = 7
  · rw [if_pos h7] at hB' hl ⊢
    unfold letsB at hB'
    by_cases n1 : d.n = 1
    · rw [if_pos n1] at hB'
      obtain ⟨q1, q2⟩ := letf 1 hB' (.inl rfl)
      rw [show d.n.toNat = 1 by rw [n1]; rfl] at hl ⊢
      exact let_1_7 (exprT f) d ks h7 n1 q1 hlen (fun j hj => hkid j hj (q2 j hj)) hS hA hl
    rw [if_neg n1] at hB'
    by_cases n2 : d.n = 2
    · rw [if_pos n2] at hB'
      obtain ⟨q1, q2⟩ := letf 2 hB' (.inr rfl)
      rw [show d.n.toNat = 2 by rw [n2]; rfl] at hl ⊢
      exact let_2_7 (exprT f) d ks h7 n2 q1 hlen (fun j hj => hkid j hj (q2 j hj)) hS hA hl
    rw [if_neg n2] at hB'
    cases hB'
  rw [if_neg h7] at hB' hl ⊢
  by_cases h8 : d.k = 8
  · rw [if_pos h8] at hB' hl ⊢
    unfold stepB at hB'
    simp only [Bool.and_eq_true, beq_iff_eq] at hB'
    obtain ⟨_, _, q1, _, q2⟩ := hB'
    have q3 : ∀ j, j < ks.length → Writes 68 (exprT f (kid j ks)) (kid j ks) := fun j hj => hkid j hj (by (have e : j = 0 := by omega); subst e; exact fine_of q2)
    by_cases n1 : d.n = 1
    · rw [if_pos n1] at hl ⊢; exact step_1 (exprT f) d ks h8 n1 q1 hlen q3 hS hA hl
    · rw [if_neg n1] at hl ⊢; exact step_m (exprT f) d ks h8 n1 q1 hlen q3 hS hA hl
  rw [if_neg h8] at hB' hl ⊢
  by_cases h9 : d.k = 9
  · rw [if_pos h9] at hB' hl ⊢
    unfold sendB at hB'
    simp only [Bool.and_eq_true, beq_iff_eq] at hB'
    exact send (exprT f) d ks h9 hB'.1 hlen (fun j hj => hkid j hj (fine_of (all_kid hB'.2.2 hj))) hS hA hl
  rw [if_neg h9] at hB' hl ⊢
  by_cases h10 : d.k = 10
  · rw [if_pos h10] at hB' hl ⊢
    unfold doB at hB'
    simp only [Bool.and_eq_true, beq_iff_eq] at hB'
    exact do_ (exprT f) d ks h10 hB'.1 hlen (fun j hj => hkid j hj (by (have e : j = 0 := by omega); subst e; exact fine_of hB'.2.2.2)) hS hA hl
  rw [if_neg h10] at hB'
  cases hB'
set_option maxHeartbeats 8000000 in
set_option maxRecDepth 100000 in
theorem head_0 (d : Nd) (ks : List Tr) (hn : d.n = 0) (hlen : ks.length ≤ 1048576) {B p dd : Nat} {l : Bs} {w : World} {b o : Nat} (hS : Ws B p l dd w) (hA : At w (fun b => b < B) (.mk d ks) b o) (hl : l.length + (([] : Bs)).length ≤ most) :
    Calls Tryz.prog 69 #[.pointer (some ⟨p, 0, none⟩), .pointer (some ⟨b, o, none⟩)] w (Post B p l (([] : Bs)) dd w) := by
  obtain ⟨a, c, hN⟩ := Nb.start hA
  have HS := Lib.hid hS
  have HL := Lib.hid hl
  have HB := Lib.hid (Below.refl B w)
  have HK : Hid (Keeps p w w) := Lib.OthersKept.refl _ _ _

  have HX := Lib.hid hN
  obtain ⟨k, tx, n, ty, s4, s5, s6⟩ := d
  obtain ⟨c0, c1, c2, c3, c7⟩ := HX.out.cells
  simp only at hn
  subst hn
  clear hS hl hA hN
  go_enter Tryz.func69, Tryz.ntmps69
  go_wp2
  go_end0
  refine ⟨rfl, ?_, HB.out, HK.out⟩
  have := HS.out
  rwa [List.append_nil]
set_option maxHeartbeats 8000000 in
set_option maxRecDepth 100000 in
theorem head_1 (E : Tr → Bs) (d : Nd) (ks : List Tr) (hn : d.n = 1) (hHE0 : Writes 68 (E (kid 0 ks)) (kid 0 ks)) (h2 : ks.length = 2) (hlen : ks.length ≤ 1048576) {B p dd : Nat} {l : Bs} {w : World} {b o : Nat} (hS : Ws B p l dd w) (hA : At w (fun b => b < B) (.mk d ks) b o) (hl : l.length + (head1 E ks).length ≤ most) :
    Calls Tryz.prog 69 #[.pointer (some ⟨p, 0, none⟩), .pointer (some ⟨b, o, none⟩)] w (Post B p l (head1 E ks) dd w) := by
  obtain ⟨a, c, hN⟩ := Nb.start hA
  have HS := Lib.hid hS
  have HL := Lib.hid hl
  have HB := Lib.hid (Below.refl B w)
  have HK : Hid (Keeps p w w) := Lib.OthersKept.refl _ _ _
  unfold head1 at HL ⊢
  have hk0 : 0 < ks.length := by omega
  have hk1 : 1 < ks.length := by omega
  have HE0 := Lib.hid hHE0
  clear hHE0
  obtain ⟨kb, ko, rfl⟩ := kl_some' hN.kl hk0
  have HX := Lib.hid hN
  obtain ⟨k, tx, n, ty, s4, s5, s6⟩ := d
  obtain ⟨c0, c1, c2, c3, c7⟩ := HX.out.cells
  simp only at hn
  subst hn
  have HL2 := Lib.hid h2
  rw [h2] at c7
  clear h2
  clear hS hl hA hN
  go_enter Tryz.func69, Tryz.ntmps69
  go_wp2_with fail
  refine (HE0.out B p dd _ _ _ _ HS.out (kid_at HX.out hk0) (by have := HL.out; simp at this ⊢; omega)).mono ?_
  rintro e w1 ⟨rfl, h1, h2, h3⟩
  have HS := Lib.hid h1
  have HX := Lib.hid (HX.out.kept h2)
  have HB := Lib.hid (HB.out.trans h2)
  have HK : Hid (Keeps p w w1) := HK.out.trans h3
  clear h1 h2 h3 c0 c1 c2 c3 c7
  obtain ⟨c0, c1, c2, c3, c7⟩ := HX.out.cells
  rw [HL2.out] at c7
  go_wp2_with fail
  refine (add1 ⟨#[32]⟩ HS.out (by have := HL.out; simp at this ⊢; omega)).mono ?_
  rintro e w2 ⟨rfl, h1, h2, h3⟩
  have HS := Lib.hid h1
  have HX := Lib.hid (HX.out.kept h2)
  have HB := Lib.hid (HB.out.trans h2)
  have HK : Hid (Keeps p w w2) := HK.out.trans h3
  clear h1 h2 h3 c0 c1 c2 c3 c7
  obtain ⟨c0, c1, c2, c3, c7⟩ := HX.out.cells
  rw [HL2.out] at c7
  go_wp2
  go_end0
  refine ⟨rfl, ?_, HB.out, HK.out⟩
  have := HS.out
  simpa using this
set_option maxHeartbeats 8000000 in
set_option maxRecDepth 100000 in
theorem head_2 (E : Tr → Bs) (d : Nd) (ks : List Tr) (hn : d.n = 2) (ha : (kid 1 ks).d.k = 0) (hb : (kid 2 ks).d.k = 0) (hHM0 : Writes 71 (simpleTx E (kid 0 ks)) (kid 0 ks)) (h2 : ks.length = 4) (hlen : ks.length ≤ 1048576) {B p dd : Nat} {l : Bs} {w : World} {b o : Nat} (hS : Ws B p l dd w) (hA : At w (fun b => b < B) (.mk d ks) b o) (hl : l.length + (simpleTx E (kid 0 ks) ++ ([59] ++ (([] : Bs) ++ ([59] ++ (([] : Bs) ++ [32]))))).length ≤ most) :
    Calls Tryz.prog 69 #[.pointer (some ⟨p, 0, none⟩), .pointer (some ⟨b, o, none⟩)] w (Post B p l (simpleTx E (kid 0 ks) ++ ([59] ++ (([] : Bs) ++ ([59] ++ (([] : Bs) ++ [32]))))) dd w) := by
  obtain ⟨a, c, hN⟩ := Nb.start hA
  have HS := Lib.hid hS
  have HL := Lib.hid hl
  have HB := Lib.hid (Below.refl B w)
  have HK : Hid (Keeps p w w) := Lib.OthersKept.refl _ _ _
  have hk0 : 0 < ks.length := by omega
  have hk1 : 1 < ks.length := by omega
  have hk2 : 2 < ks.length := by omega
  have HM0 := Lib.hid hHM0
  clear hHM0
  obtain ⟨kb, ko, rfl⟩ := kl_some' hN.kl hk0
  have HX := Lib.hid hN
  obtain ⟨k, tx, n, ty, s4, s5, s6⟩ := d
  obtain ⟨c0, c1, c2, c3, c7⟩ := HX.out.cells
  simp only at hn
  subst hn
  obtain ⟨kk1, hkk1⟩ : ∃ x, (kid 1 ks).d.k = x := ⟨_, rfl⟩
  obtain ⟨kt1, hkt1⟩ : ∃ x, (kid 1 ks).d.text = x := ⟨_, rfl⟩
  have hkc1 : ∀ (W : World), Nb B W b o ⟨k, tx, 2, ty, s4, s5, s6⟩ ks (some ⟨kb, ko, none⟩) c → W.cell? ⟨kb, ko + 8, none⟩ = some (.int .i64 kk1) ∧ W.cell? ⟨kb, ko + 9, none⟩ = some (.string kt1) := fun W h => by
    have q := kid_cells h hk1
    rw [hkk1, hkt1] at q
    simp only [Nat.one_mul, Nat.add_assoc, Nat.reduceAdd] at q
    exact q
  have HKC1 := Lib.hid hkc1
  obtain ⟨k10, k11⟩ := HKC1.out _ HX.out
  clear hkc1
  obtain ⟨kk2, hkk2⟩ : ∃ x, (kid 2 ks).d.k = x := ⟨_, rfl⟩
  obtain ⟨kt2, hkt2⟩ : ∃ x, (kid 2 ks).d.text = x := ⟨_, rfl⟩
  have hkc2 : ∀ (W : World), Nb B W b o ⟨k, tx, 2, ty, s4, s5, s6⟩ ks (some ⟨kb, ko, none⟩) c → W.cell? ⟨kb, ko + 16, none⟩ = some (.int .i64 kk2) ∧ W.cell? ⟨kb, ko + 17, none⟩ = some (.string kt2) := fun W h => by
    have q := kid_cells h hk2
    rw [hkk2, hkt2] at q
    simp only [Nat.reduceMul, Nat.add_assoc, Nat.reduceAdd] at q
    exact q
  have HKC2 := Lib.hid hkc2
  obtain ⟨k20, k21⟩ := HKC2.out _ HX.out
  clear hkc2
  rw [hkk1] at ha
  rw [hkk2] at hb
  subst ha
  subst hb
  clear  hkk1 hkt1 hkk2 hkt2
  have HL2 := Lib.hid h2
  rw [h2] at c7
  clear h2
  clear hS hl hA hN
  go_enter Tryz.func69, Tryz.ntmps69
  go_wp2_with fail
  refine (HM0.out B p dd _ _ _ _ HS.out (kid_at HX.out hk0) (by have := HL.out; simp at this ⊢; omega)).mono ?_
  rintro e w1 ⟨rfl, h1, h2, h3⟩
  have HS := Lib.hid h1
  have HX := Lib.hid (HX.out.kept h2)
  have HB := Lib.hid (HB.out.trans h2)
  have HK : Hid (Keeps p w w1) := HK.out.trans h3
  clear h1 h2 h3 c0 c1 c2 c3 c7 k10 k11 k20 k21
  obtain ⟨c0, c1, c2, c3, c7⟩ := HX.out.cells
  rw [HL2.out] at c7
  obtain ⟨k10, k11⟩ := HKC1.out _ HX.out
  obtain ⟨k20, k21⟩ := HKC2.out _ HX.out
  go_wp2_with fail
  refine (add1 ⟨#[59]⟩ HS.out (by have := HL.out; simp at this ⊢; omega)).mono ?_
  rintro e w2 ⟨rfl, h1, h2, h3⟩
  have HS := Lib.hid h1
  have HX := Lib.hid (HX.out.kept h2)
  have HB := Lib.hid (HB.out.trans h2)
  have HK : Hid (Keeps p w w2) := HK.out.trans h3
  clear h1 h2 h3 c0 c1 c2 c3 c7 k10 k11 k20 k21
  obtain ⟨c0, c1, c2, c3, c7⟩ := HX.out.cells
  rw [HL2.out] at c7
  obtain ⟨k10, k11⟩ := HKC1.out _ HX.out
  obtain ⟨k20, k21⟩ := HKC2.out _ HX.out
  go_wp2_with fail
  refine (add1 ⟨#[59]⟩ HS.out (by have := HL.out; simp at this ⊢; omega)).mono ?_
  rintro e w3 ⟨rfl, h1, h2, h3⟩
  have HS := Lib.hid h1
  have HX := Lib.hid (HX.out.kept h2)
  have HB := Lib.hid (HB.out.trans h2)
  have HK : Hid (Keeps p w w3) := HK.out.trans h3
  clear h1 h2 h3 c0 c1 c2 c3 c7 k10 k11 k20 k21
  obtain ⟨c0, c1, c2, c3, c7⟩ := HX.out.cells
  rw [HL2.out] at c7
  obtain ⟨k10, k11⟩ := HKC1.out _ HX.out
  obtain ⟨k20, k21⟩ := HKC2.out _ HX.out
  go_wp2_with fail
  refine (add1 ⟨#[32]⟩ HS.out (by have := HL.out; simp at this ⊢; omega)).mono ?_
  rintro e w4 ⟨rfl, h1, h2, h3⟩
  have HS := Lib.hid h1
  have HX := Lib.hid (HX.out.kept h2)
  have HB := Lib.hid (HB.out.trans h2)
  have HK : Hid (Keeps p w w4) := HK.out.trans h3
  clear h1 h2 h3 c0 c1 c2 c3 c7 k10 k11 k20 k21
  obtain ⟨c0, c1, c2, c3, c7⟩ := HX.out.cells
  rw [HL2.out] at c7
  obtain ⟨k10, k11⟩ := HKC1.out _ HX.out
  obtain ⟨k20, k21⟩ := HKC2.out _ HX.out
  go_wp2
  go_end0
  refine ⟨rfl, ?_, HB.out, HK.out⟩
  have := HS.out
  simpa using this
set_option maxHeartbeats 8000000 in
set_option maxRecDepth 100000 in
theorem head_2s (E : Tr → Bs) (d : Nd) (ks : List Tr) (hn : d.n = 2) (ha : (kid 1 ks).d.k = 0) (hb : (kid 2 ks).d.k ≠ 0) (hHM0 : Writes 71 (simpleTx E (kid 0 ks)) (kid 0 ks)) (hHM2 : Writes 71 (simpleTx E (kid 2 ks)) (kid 2 ks)) (h2 : ks.length = 4) (hlen : ks.length ≤ 1048576) {B p dd : Nat} {l : Bs} {w : World} {b o : Nat} (hS : Ws B p l dd w) (hA : At w (fun b => b < B) (.mk d ks) b o) (hl : l.length + (simpleTx E (kid 0 ks) ++ ([59] ++ (([] : Bs) ++ ([59] ++ (([32] ++ simpleTx E (kid 2 ks) : Bs) ++ [32]))))).length ≤ most) :
    Calls Tryz.prog 69 #[.pointer (some ⟨p, 0, none⟩), .pointer (some ⟨b, o, none⟩)] w (Post B p l (simpleTx E (kid 0 ks) ++ ([59] ++ (([] : Bs) ++ ([59] ++ (([32] ++ simpleTx E (kid 2 ks) : Bs) ++ [32]))))) dd w) := by
  obtain ⟨a, c, hN⟩ := Nb.start hA
  have HS := Lib.hid hS
  have HL := Lib.hid hl
  have HB := Lib.hid (Below.refl B w)
  have HK : Hid (Keeps p w w) := Lib.OthersKept.refl _ _ _
  have hk0 : 0 < ks.length := by omega
  have hk1 : 1 < ks.length := by omega
  have hk2 : 2 < ks.length := by omega
  have HM0 := Lib.hid hHM0
  clear hHM0
  have HM2 := Lib.hid hHM2
  clear hHM2
  obtain ⟨kb, ko, rfl⟩ := kl_some' hN.kl hk0
  have HX := Lib.hid hN
  obtain ⟨k, tx, n, ty, s4, s5, s6⟩ := d
  obtain ⟨c0, c1, c2, c3, c7⟩ := HX.out.cells
  simp only at hn
  subst hn
  obtain ⟨kk1, hkk1⟩ : ∃ x, (kid 1 ks).d.k = x := ⟨_, rfl⟩
  obtain ⟨kt1, hkt1⟩ : ∃ x, (kid 1 ks).d.text = x := ⟨_, rfl⟩
  have hkc1 : ∀ (W : World), Nb B W b o ⟨k, tx, 2, ty, s4, s5, s6⟩ ks (some ⟨kb, ko, none⟩) c → W.cell? ⟨kb, ko + 8, none⟩ = some (.int .i64 kk1) ∧ W.cell? ⟨kb, ko + 9, none⟩ = some (.string kt1) := fun W h => by
    have q := kid_cells h hk1
    rw [hkk1, hkt1] at q
    simp only [Nat.one_mul, Nat.add_assoc, Nat.reduceAdd] at q
    exact q
  have HKC1 := Lib.hid hkc1
  obtain ⟨k10, k11⟩ := HKC1.out _ HX.out
  clear hkc1
  obtain ⟨kk2, hkk2⟩ : ∃ x, (kid 2 ks).d.k = x := ⟨_, rfl⟩
  obtain ⟨kt2, hkt2⟩ : ∃ x, (kid 2 ks).d.text = x := ⟨_, rfl⟩
  have hkc2 : ∀ (W : World), Nb B W b o ⟨k, tx, 2, ty, s4, s5, s6⟩ ks (some ⟨kb, ko, none⟩) c → W.cell? ⟨kb, ko + 16, none⟩ = some (.int .i64 kk2) ∧ W.cell? ⟨kb, ko + 17, none⟩ = some (.string kt2) := fun W h => by
    have q := kid_cells h hk2
    rw [hkk2, hkt2] at q
    simp only [Nat.reduceMul, Nat.add_assoc, Nat.reduceAdd] at q
    exact q
  have HKC2 := Lib.hid hkc2
  obtain ⟨k20, k21⟩ := HKC2.out _ HX.out
  clear hkc2
  rw [hkk1] at ha
  rw [hkk2] at hb
  subst ha
  have e2 : (kk2 != 0) = true := by simp [hb]
  clear hb  hkk1 hkt1 hkk2 hkt2
  have HL2 := Lib.hid h2
  rw [h2] at c7
  clear h2
  clear hS hl hA hN
  go_enter Tryz.func69, Tryz.ntmps69
  go_wp2_with fail
  refine (HM0.out B p dd _ _ _ _ HS.out (kid_at HX.out hk0) (by have := HL.out; simp at this ⊢; omega)).mono ?_
  rintro e w1 ⟨rfl, h1, h2, h3⟩
  have HS := Lib.hid h1
  have HX := Lib.hid (HX.out.kept h2)
  have HB := Lib.hid (HB.out.trans h2)
  have HK : Hid (Keeps p w w1) := HK.out.trans h3
  clear h1 h2 h3 c0 c1 c2 c3 c7 k10 k11 k20 k21
  obtain ⟨c0, c1, c2, c3, c7⟩ := HX.out.cells
  rw [HL2.out] at c7
  obtain ⟨k10, k11⟩ := HKC1.out _ HX.out
  obtain ⟨k20, k21⟩ := HKC2.out _ HX.out
  go_wp2_with fail
  refine (add1 ⟨#[59]⟩ HS.out (by have := HL.out; simp at this ⊢; omega)).mono ?_
  rintro e w2 ⟨rfl, h1, h2, h3⟩
  have HS := Lib.hid h1
  have HX := Lib.hid (HX.out.kept h2)
  have HB := Lib.hid (HB.out.trans h2)
  have HK : Hid (Keeps p w w2) := HK.out.trans h3
  clear h1 h2 h3 c0 c1 c2 c3 c7 k10 k11 k20 k21
  obtain ⟨c0, c1, c2, c3, c7⟩ := HX.out.cells
  rw [HL2.out] at c7
  obtain ⟨k10, k11⟩ := HKC1.out _ HX.out
  obtain ⟨k20, k21⟩ := HKC2.out _ HX.out
  go_wp2_with fail
  refine (add1 ⟨#[59]⟩ HS.out (by have := HL.out; simp at this ⊢; omega)).mono ?_
  rintro e w3 ⟨rfl, h1, h2, h3⟩
  have HS := Lib.hid h1
  have HX := Lib.hid (HX.out.kept h2)
  have HB := Lib.hid (HB.out.trans h2)
  have HK : Hid (Keeps p w w3) := HK.out.trans h3
  clear h1 h2 h3 c0 c1 c2 c3 c7 k10 k11 k20 k21
  obtain ⟨c0, c1, c2, c3, c7⟩ := HX.out.cells
  rw [HL2.out] at c7
  obtain ⟨k10, k11⟩ := HKC1.out _ HX.out
  obtain ⟨k20, k21⟩ := HKC2.out _ HX.out
  go_wp2_with fail
  refine (add1 ⟨#[32]⟩ HS.out (by have := HL.out; simp at this ⊢; omega)).mono ?_
  rintro e w4 ⟨rfl, h1, h2, h3⟩
  have HS := Lib.hid h1
  have HX := Lib.hid (HX.out.kept h2)
  have HB := Lib.hid (HB.out.trans h2)
  have HK : Hid (Keeps p w w4) := HK.out.trans h3
  clear h1 h2 h3 c0 c1 c2 c3 c7 k10 k11 k20 k21
  obtain ⟨c0, c1, c2, c3, c7⟩ := HX.out.cells
  rw [HL2.out] at c7
  obtain ⟨k10, k11⟩ := HKC1.out _ HX.out
  obtain ⟨k20, k21⟩ := HKC2.out _ HX.out
  go_wp2_with fail
  refine (HM2.out B p dd _ _ _ _ HS.out (kid_at HX.out hk2) (by have := HL.out; simp at this ⊢; omega)).mono ?_
  rintro e w5 ⟨rfl, h1, h2, h3⟩
  have HS := Lib.hid h1
  have HX := Lib.hid (HX.out.kept h2)
  have HB := Lib.hid (HB.out.trans h2)
  have HK : Hid (Keeps p w w5) := HK.out.trans h3
  clear h1 h2 h3 c0 c1 c2 c3 c7 k10 k11 k20 k21
  obtain ⟨c0, c1, c2, c3, c7⟩ := HX.out.cells
  rw [HL2.out] at c7
  obtain ⟨k10, k11⟩ := HKC1.out _ HX.out
  obtain ⟨k20, k21⟩ := HKC2.out _ HX.out
  go_wp2_with fail
  refine (add1 ⟨#[32]⟩ HS.out (by have := HL.out; simp at this ⊢; omega)).mono ?_
  rintro e w6 ⟨rfl, h1, h2, h3⟩
  have HS := Lib.hid h1
  have HX := Lib.hid (HX.out.kept h2)
  have HB := Lib.hid (HB.out.trans h2)
  have HK : Hid (Keeps p w w6) := HK.out.trans h3
  clear h1 h2 h3 c0 c1 c2 c3 c7 k10 k11 k20 k21
  obtain ⟨c0, c1, c2, c3, c7⟩ := HX.out.cells
  rw [HL2.out] at c7
  obtain ⟨k10, k11⟩ := HKC1.out _ HX.out
  obtain ⟨k20, k21⟩ := HKC2.out _ HX.out
  go_wp2
  go_end0
  refine ⟨rfl, ?_, HB.out, HK.out⟩
  have := HS.out
  simpa using this
set_option maxHeartbeats 8000000 in
set_option maxRecDepth 100000 in
theorem head_2e (E : Tr → Bs) (d : Nd) (ks : List Tr) (hn : d.n = 2) (ha : (kid 1 ks).d.k ≠ 0) (hb : (kid 2 ks).d.k = 0) (hHM0 : Writes 71 (simpleTx E (kid 0 ks)) (kid 0 ks)) (hHE1 : Writes 68 (E (kid 1 ks)) (kid 1 ks)) (h2 : ks.length = 4) (hlen : ks.length ≤ 1048576) {B p dd : Nat} {l : Bs} {w : World} {b o : Nat} (hS : Ws B p l dd w) (hA : At w (fun b => b < B) (.mk d ks) b o) (hl : l.length + (simpleTx E (kid 0 ks) ++ ([59] ++ (([32] ++ E (kid 1 ks) : Bs) ++ ([59] ++ (([] : Bs) ++ [32]))))).length ≤ most) :
    Calls Tryz.prog 69 #[.pointer (some ⟨p, 0, none⟩), .pointer (some ⟨b, o, none⟩)] w (Post B p l (simpleTx E (kid 0 ks) ++ ([59] ++ (([32] ++ E (kid 1 ks) : Bs) ++ ([59] ++ (([] : Bs) ++ [32]))))) dd w) := by
  obtain ⟨a, c, hN⟩ := Nb.start hA
  have HS := Lib.hid hS
  have HL := Lib.hid hl
  have HB := Lib.hid (Below.refl B w)
  have HK : Hid (Keeps p w w) := Lib.OthersKept.refl _ _ _
  have hk0 : 0 < ks.length := by omega
  have hk1 : 1 < ks.length := by omega
  have hk2 : 2 < ks.length := by omega
  have HM0 := Lib.hid hHM0
  clear hHM0
  have HE1 := Lib.hid hHE1
  clear hHE1
  obtain ⟨kb, ko, rfl⟩ := kl_some' hN.kl hk0
  have HX := Lib.hid hN
  obtain ⟨k, tx, n, ty, s4, s5, s6⟩ := d
  obtain ⟨c0, c1, c2, c3, c7⟩ := HX.out.cells
  simp only at hn
  subst hn
  obtain ⟨kk1, hkk1⟩ : ∃ x, (kid 1 ks).d.k = x := ⟨_, rfl⟩
  obtain ⟨kt1, hkt1⟩ : ∃ x, (kid 1 ks).d.text = x := ⟨_, rfl⟩
  have hkc1 : ∀ (W : World), Nb B W b o ⟨k, tx, 2, ty, s4, s5, s6⟩ ks (some ⟨kb, ko, none⟩) c → W.cell? ⟨kb, ko + 8, none⟩ = some (.int .i64 kk1) ∧ W.cell? ⟨kb, ko + 9, none⟩ = some (.string kt1) := fun W h => by
    have q := kid_cells h hk1
    rw [hkk1, hkt1] at q
    simp only [Nat.one_mul, Nat.add_assoc, Nat.reduceAdd] at q
    exact q
  have HKC1 := Lib.hid hkc1
  obtain ⟨k10, k11⟩ := HKC1.out _ HX.out
  clear hkc1
  obtain ⟨kk2, hkk2⟩ : ∃ x, (kid 2 ks).d.k = x := ⟨_, rfl⟩
  obtain ⟨kt2, hkt2⟩ : ∃ x, (kid 2 ks).d.text = x := ⟨_, rfl⟩
  have hkc2 : ∀ (W : World), Nb B W b o ⟨k, tx, 2, ty, s4, s5, s6⟩ ks (some ⟨kb, ko, none⟩) c → W.cell? ⟨kb, ko + 16, none⟩ = some (.int .i64 kk2) ∧ W.cell? ⟨kb, ko + 17, none⟩ = some (.string kt2) := fun W h => by
    have q := kid_cells h hk2
    rw [hkk2, hkt2] at q
    simp only [Nat.reduceMul, Nat.add_assoc, Nat.reduceAdd] at q
    exact q
  have HKC2 := Lib.hid hkc2
  obtain ⟨k20, k21⟩ := HKC2.out _ HX.out
  clear hkc2
  rw [hkk1] at ha
  rw [hkk2] at hb
  have e1 : (kk1 != 0) = true := by simp [ha]
  subst hb
  clear ha  hkk1 hkt1 hkk2 hkt2
  have HL2 := Lib.hid h2
  rw [h2] at c7
  clear h2
  clear hS hl hA hN
  go_enter Tryz.func69, Tryz.ntmps69
  go_wp2_with fail
  refine (HM0.out B p dd _ _ _ _ HS.out (kid_at HX.out hk0) (by have := HL.out; simp at this ⊢; omega)).mono ?_
  rintro e w1 ⟨rfl, h1, h2, h3⟩
  have HS := Lib.hid h1
  have HX := Lib.hid (HX.out.kept h2)
  have HB := Lib.hid (HB.out.trans h2)
  have HK : Hid (Keeps p w w1) := HK.out.trans h3
  clear h1 h2 h3 c0 c1 c2 c3 c7 k10 k11 k20 k21
  obtain ⟨c0, c1, c2, c3, c7⟩ := HX.out.cells
  rw [HL2.out] at c7
  obtain ⟨k10, k11⟩ := HKC1.out _ HX.out
  obtain ⟨k20, k21⟩ := HKC2.out _ HX.out
  go_wp2_with fail
  refine (add1 ⟨#[59]⟩ HS.out (by have := HL.out; simp at this ⊢; omega)).mono ?_
  rintro e w2 ⟨rfl, h1, h2, h3⟩
  have HS := Lib.hid h1
  have HX := Lib.hid (HX.out.kept h2)
  have HB := Lib.hid (HB.out.trans h2)
  have HK : Hid (Keeps p w w2) := HK.out.trans h3
  clear h1 h2 h3 c0 c1 c2 c3 c7 k10 k11 k20 k21
  obtain ⟨c0, c1, c2, c3, c7⟩ := HX.out.cells
  rw [HL2.out] at c7
  obtain ⟨k10, k11⟩ := HKC1.out _ HX.out
  obtain ⟨k20, k21⟩ := HKC2.out _ HX.out
  go_wp2_with fail
  refine (add1 ⟨#[32]⟩ HS.out (by have := HL.out; simp at this ⊢; omega)).mono ?_
  rintro e w3 ⟨rfl, h1, h2, h3⟩
  have HS := Lib.hid h1
  have HX := Lib.hid (HX.out.kept h2)
  have HB := Lib.hid (HB.out.trans h2)
  have HK : Hid (Keeps p w w3) := HK.out.trans h3
  clear h1 h2 h3 c0 c1 c2 c3 c7 k10 k11 k20 k21
  obtain ⟨c0, c1, c2, c3, c7⟩ := HX.out.cells
  rw [HL2.out] at c7
  obtain ⟨k10, k11⟩ := HKC1.out _ HX.out
  obtain ⟨k20, k21⟩ := HKC2.out _ HX.out
  go_wp2_with fail
  refine (HE1.out B p dd _ _ _ _ HS.out (kid_at HX.out hk1) (by have := HL.out; simp at this ⊢; omega)).mono ?_
  rintro e w4 ⟨rfl, h1, h2, h3⟩
  have HS := Lib.hid h1
  have HX := Lib.hid (HX.out.kept h2)
  have HB := Lib.hid (HB.out.trans h2)
  have HK : Hid (Keeps p w w4) := HK.out.trans h3
  clear h1 h2 h3 c0 c1 c2 c3 c7 k10 k11 k20 k21
  obtain ⟨c0, c1, c2, c3, c7⟩ := HX.out.cells
  rw [HL2.out] at c7
  obtain ⟨k10, k11⟩ := HKC1.out _ HX.out
  obtain ⟨k20, k21⟩ := HKC2.out _ HX.out
  go_wp2_with fail
  refine (add1 ⟨#[59]⟩ HS.out (by have := HL.out; simp at this ⊢; omega)).mono ?_
  rintro e w5 ⟨rfl, h1, h2, h3⟩
  have HS := Lib.hid h1
  have HX := Lib.hid (HX.out.kept h2)
  have HB := Lib.hid (HB.out.trans h2)
  have HK : Hid (Keeps p w w5) := HK.out.trans h3
  clear h1 h2 h3 c0 c1 c2 c3 c7 k10 k11 k20 k21
  obtain ⟨c0, c1, c2, c3, c7⟩ := HX.out.cells
  rw [HL2.out] at c7
  obtain ⟨k10, k11⟩ := HKC1.out _ HX.out
  obtain ⟨k20, k21⟩ := HKC2.out _ HX.out
  go_wp2_with fail
  refine (add1 ⟨#[32]⟩ HS.out (by have := HL.out; simp at this ⊢; omega)).mono ?_
  rintro e w6 ⟨rfl, h1, h2, h3⟩
  have HS := Lib.hid h1
  have HX := Lib.hid (HX.out.kept h2)
  have HB := Lib.hid (HB.out.trans h2)
  have HK : Hid (Keeps p w w6) := HK.out.trans h3
  clear h1 h2 h3 c0 c1 c2 c3 c7 k10 k11 k20 k21
  obtain ⟨c0, c1, c2, c3, c7⟩ := HX.out.cells
  rw [HL2.out] at c7
  obtain ⟨k10, k11⟩ := HKC1.out _ HX.out
  obtain ⟨k20, k21⟩ := HKC2.out _ HX.out
  go_wp2
  go_end0
  refine ⟨rfl, ?_, HB.out, HK.out⟩
  have := HS.out
  simpa using this
set_option maxHeartbeats 8000000 in
set_option maxRecDepth 100000 in
theorem head_2es (E : Tr → Bs) (d : Nd) (ks : List Tr) (hn : d.n = 2) (ha : (kid 1 ks).d.k ≠ 0) (hb : (kid 2 ks).d.k ≠ 0) (hHM0 : Writes 71 (simpleTx E (kid 0 ks)) (kid 0 ks)) (hHE1 : Writes 68 (E (kid 1 ks)) (kid 1 ks)) (hHM2 : Writes 71 (simpleTx E (kid 2 ks)) (kid 2 ks)) (h2 : ks.length = 4) (hlen : ks.length ≤ 1048576) {B p dd : Nat} {l : Bs} {w : World} {b o : Nat} (hS : Ws B p l dd w) (hA : At w (fun b => b < B) (.mk d ks) b o) (hl : l.length + (simpleTx E (kid 0 ks) ++ ([59] ++ (([32] ++ E (kid 1 ks) : Bs) ++ ([59] ++ (([32] ++ simpleTx E (kid 2 ks) : Bs) ++ [32]))))).length ≤ most) :
    Calls Tryz.prog 69 #[.pointer (some ⟨p, 0, none⟩), .pointer (some ⟨b, o, none⟩)] w (Post B p l (simpleTx E (kid 0 ks) ++ ([59] ++ (([32] ++ E (kid 1 ks) : Bs) ++ ([59] ++ (([32] ++ simpleTx E (kid 2 ks) : Bs) ++ [32]))))) dd w) := by
  obtain ⟨a, c, hN⟩ := Nb.start hA
  have HS := Lib.hid hS
  have HL := Lib.hid hl
  have HB := Lib.hid (Below.refl B w)
  have HK : Hid (Keeps p w w) := Lib.OthersKept.refl _ _ _
  have hk0 : 0 < ks.length := by omega
  have hk1 : 1 < ks.length := by omega
  have hk2 : 2 < ks.length := by omega
  have HM0 := Lib.hid hHM0
  clear hHM0
  have HE1 := Lib.hid hHE1
  clear hHE1
  have HM2 := Lib.hid hHM2
  clear hHM2
  obtain ⟨kb, ko, rfl⟩ := kl_some' hN.kl hk0
  have HX := Lib.hid hN
  obtain ⟨k, tx, n, ty, s4, s5, s6⟩ := d
  obtain ⟨c0, c1, c2, c3, c7⟩ := HX.out.cells
  simp only at hn
  subst hn
  obtain ⟨kk1, hkk1⟩ : ∃ x, (kid 1 ks).d.k = x := ⟨_, rfl⟩
  obtain ⟨kt1, hkt1⟩ : ∃ x, (kid 1 ks).d.text = x := ⟨_, rfl⟩
  have hkc1 : ∀ (W : World), Nb B W b o ⟨k, tx, 2, ty, s4, s5, s6⟩ ks (some ⟨kb, ko, none⟩) c → W.cell? ⟨kb, ko + 8, none⟩ = some (.int .i64 kk1) ∧ W.cell? ⟨kb, ko + 9, none⟩ = some (.string kt1) := fun W h => by
    have q := kid_cells h hk1
    rw [hkk1, hkt1] at q
    simp only [Nat.one_mul, Nat.add_assoc, Nat.reduceAdd] at q
    exact q
  have HKC1 := Lib.hid hkc1
  obtain ⟨k10, k11⟩ := HKC1.out _ HX.out
  clear hkc1
  obtain ⟨kk2, hkk2⟩ : ∃ x, (kid 2 ks).d.k = x := ⟨_, rfl⟩
  obtain ⟨kt2, hkt2⟩ : ∃ x, (kid 2 ks).d.text = x := ⟨_, rfl⟩
  have hkc2 : ∀ (W : World), Nb B W b o ⟨k, tx, 2, ty, s4, s5, s6⟩ ks (some ⟨kb, ko, none⟩) c → W.cell? ⟨kb, ko + 16, none⟩ = some (.int .i64 kk2) ∧ W.cell? ⟨kb, ko + 17, none⟩ = some (.string kt2) := fun W h => by
    have q := kid_cells h hk2
    rw [hkk2, hkt2] at q
    simp only [Nat.reduceMul, Nat.add_assoc, Nat.reduceAdd] at q
    exact q
  have HKC2 := Lib.hid hkc2
  obtain ⟨k20, k21⟩ := HKC2.out _ HX.out
  clear hkc2
  rw [hkk1] at ha
  rw [hkk2] at hb
  have e1 : (kk1 != 0) = true := by simp [ha]
  have e2 : (kk2 != 0) = true := by simp [hb]
  clear ha hb  hkk1 hkt1 hkk2 hkt2
  have HL2 := Lib.hid h2
  rw [h2] at c7
  clear h2
  clear hS hl hA hN
  go_enter Tryz.func69, Tryz.ntmps69
  go_wp2_with fail
  refine (HM0.out B p dd _ _ _ _ HS.out (kid_at HX.out hk0) (by have := HL.out; simp at this ⊢; omega)).mono ?_
  rintro e w1 ⟨rfl, h1, h2, h3⟩
  have HS := Lib.hid h1
  have HX := Lib.hid (HX.out.kept h2)
  have HB := Lib.hid (HB.out.trans h2)
  have HK : Hid (Keeps p w w1) := HK.out.trans h3
  clear h1 h2 h3 c0 c1 c2 c3 c7 k10 k11 k20 k21
  obtain ⟨c0, c1, c2, c3, c7⟩ := HX.out.cells
  rw [HL2.out] at c7
  obtain ⟨k10, k11⟩ := HKC1.out _ HX.out
  obtain ⟨k20, k21⟩ := HKC2.out _ HX.out
  go_wp2_with fail
  refine (add1 ⟨#[59]⟩ HS.out (by have := HL.out; simp at this ⊢; omega)).mono ?_
  rintro e w2 ⟨rfl, h1, h2, h3⟩
  have HS := Lib.hid h1
  have HX := Lib.hid (HX.out.kept h2)
  have HB := Lib.hid (HB.out.trans h2)
  have HK : Hid (Keeps p w w2) := HK.out.trans h3
  clear h1 h2 h3 c0 c1 c2 c3 c7 k10 k11 k20 k21
  obtain ⟨c0, c1, c2, c3, c7⟩ := HX.out.cells
  rw [HL2.out] at c7
  obtain ⟨k10, k11⟩ := HKC1.out _ HX.out
  obtain ⟨k20, k21⟩ := HKC2.out _ HX.out
  go_wp2_with fail
  refine (add1 ⟨#[32]⟩ HS.out (by have := HL.out; simp at this ⊢; omega)).mono ?_
  rintro e w3 ⟨rfl, h1, h2, h3⟩
  have HS := Lib.hid h1
  have HX := Lib.hid (HX.out.kept h2)
  have HB := Lib.hid (HB.out.trans h2)
  have HK : Hid (Keeps p w w3) := HK.out.trans h3
  clear h1 h2 h3 c0 c1 c2 c3 c7 k10 k11 k20 k21
  obtain ⟨c0, c1, c2, c3, c7⟩ := HX.out.cells
  rw [HL2.out] at c7
  obtain ⟨k10, k11⟩ := HKC1.out _ HX.out
  obtain ⟨k20, k21⟩ := HKC2.out _ HX.out
  go_wp2_with fail
  refine (HE1.out B p dd _ _ _ _ HS.out (kid_at HX.out hk1) (by have := HL.out; simp at this ⊢; omega)).mono ?_
  rintro e w4 ⟨rfl, h1, h2, h3⟩
  have HS := Lib.hid h1
  have HX := Lib.hid (HX.out.kept h2)
  have HB := Lib.hid (HB.out.trans h2)
  have HK : Hid (Keeps p w w4) := HK.out.trans h3
  clear h1 h2 h3 c0 c1 c2 c3 c7 k10 k11 k20 k21
  obtain ⟨c0, c1, c2, c3, c7⟩ := HX.out.cells
  rw [HL2.out] at c7
  obtain ⟨k10, k11⟩ := HKC1.out _ HX.out
  obtain ⟨k20, k21⟩ := HKC2.out _ HX.out
  go_wp2_with fail
  refine (add1 ⟨#[59]⟩ HS.out (by have := HL.out; simp at this ⊢; omega)).mono ?_
  rintro e w5 ⟨rfl, h1, h2, h3⟩
  have HS := Lib.hid h1
  have HX := Lib.hid (HX.out.kept h2)
  have HB := Lib.hid (HB.out.trans h2)
  have HK : Hid (Keeps p w w5) := HK.out.trans h3
  clear h1 h2 h3 c0 c1 c2 c3 c7 k10 k11 k20 k21
  obtain ⟨c0, c1, c2, c3, c7⟩ := HX.out.cells
  rw [HL2.out] at c7
  obtain ⟨k10, k11⟩ := HKC1.out _ HX.out
  obtain ⟨k20, k21⟩ := HKC2.out _ HX.out
  go_wp2_with fail
  refine (add1 ⟨#[32]⟩ HS.out (by have := HL.out; simp at this ⊢; omega)).mono ?_
  rintro e w6 ⟨rfl, h1, h2, h3⟩
  have HS := Lib.hid h1
  have HX := Lib.hid (HX.out.kept h2)
  have HB := Lib.hid (HB.out.trans h2)
  have HK : Hid (Keeps p w w6) := HK.out.trans h3
  clear h1 h2 h3 c0 c1 c2 c3 c7 k10 k11 k20 k21
  obtain ⟨c0, c1, c2, c3, c7⟩ := HX.out.cells
  rw [HL2.out] at c7
  obtain ⟨k10, k11⟩ := HKC1.out _ HX.out
  obtain ⟨k20, k21⟩ := HKC2.out _ HX.out
  go_wp2_with fail
  refine (HM2.out B p dd _ _ _ _ HS.out (kid_at HX.out hk2) (by have := HL.out; simp at this ⊢; omega)).mono ?_
  rintro e w7 ⟨rfl, h1, h2, h3⟩
  have HS := Lib.hid h1
  have HX := Lib.hid (HX.out.kept h2)
  have HB := Lib.hid (HB.out.trans h2)
  have HK : Hid (Keeps p w w7) := HK.out.trans h3
  clear h1 h2 h3 c0 c1 c2 c3 c7 k10 k11 k20 k21
  obtain ⟨c0, c1, c2, c3, c7⟩ := HX.out.cells
  rw [HL2.out] at c7
  obtain ⟨k10, k11⟩ := HKC1.out _ HX.out
  obtain ⟨k20, k21⟩ := HKC2.out _ HX.out
  go_wp2_with fail
  refine (add1 ⟨#[32]⟩ HS.out (by have := HL.out; simp at this ⊢; omega)).mono ?_
  rintro e w8 ⟨rfl, h1, h2, h3⟩
  have HS := Lib.hid h1
  have HX := Lib.hid (HX.out.kept h2)
  have HB := Lib.hid (HB.out.trans h2)
  have HK : Hid (Keeps p w w8) := HK.out.trans h3
  clear h1 h2 h3 c0 c1 c2 c3 c7 k10 k11 k20 k21
  obtain ⟨c0, c1, c2, c3, c7⟩ := HX.out.cells
  rw [HL2.out] at c7
  obtain ⟨k10, k11⟩ := HKC1.out _ HX.out
  obtain ⟨k20, k21⟩ := HKC2.out _ HX.out
  go_wp2
  go_end0
  refine ⟨rfl, ?_, HB.out, HK.out⟩
  have := HS.out
  simpa using this
set_option maxHeartbeats 8000000 in
set_option maxRecDepth 100000 in
theorem head_3 (E : Tr → Bs) (d : Nd) (ks : List Tr) (hn : d.n = 3) (he : d.text.toList.isEmpty = true) (hHE1 : Writes 68 (E (kid 1 ks)) (kid 1 ks)) (h2 : ks.length = 3) (hlen : ks.length ≤ 1048576) {B p dd : Nat} {l : Bs} {w : World} {b o : Nat} (hS : Ws B p l dd w) (hA : At w (fun b => b < B) (.mk d ks) b o) (hl : l.length + ([114, 97, 110, 103, 101, 32] ++ (E (kid 1 ks) ++ [32])).length ≤ most) :
    Calls Tryz.prog 69 #[.pointer (some ⟨p, 0, none⟩), .pointer (some ⟨b, o, none⟩)] w (Post B p l ([114, 97, 110, 103, 101, 32] ++ (E (kid 1 ks) ++ [32])) dd w) := by
  obtain ⟨a, c, hN⟩ := Nb.start hA
  have HS := Lib.hid hS
  have HL := Lib.hid hl
  have HB := Lib.hid (Below.refl B w)
  have HK : Hid (Keeps p w w) := Lib.OthersKept.refl _ _ _
  have hk0 : 0 < ks.length := by omega
  have hk1 : 1 < ks.length := by omega
  have hk2 : 2 < ks.length := by omega
  have HE1 := Lib.hid hHE1
  clear hHE1
  obtain ⟨kb, ko, rfl⟩ := kl_some' hN.kl hk0
  have HX := Lib.hid hN
  obtain ⟨k, tx, n, ty, s4, s5, s6⟩ := d
  obtain ⟨c0, c1, c2, c3, c7⟩ := HX.out.cells
  simp only at hn
  subst hn
  have HL2 := Lib.hid h2
  rw [h2] at c7
  clear h2
  clear hS hl hA hN
  go_enter Tryz.func69, Tryz.ntmps69
  go_wp2_with fail
  refine (add1 ⟨#[114, 97, 110, 103, 101, 32]⟩ HS.out (by have := HL.out; simp at this ⊢; omega)).mono ?_
  rintro e w1 ⟨rfl, h1, h2, h3⟩
  have HS := Lib.hid h1
  have HX := Lib.hid (HX.out.kept h2)
  have HB := Lib.hid (HB.out.trans h2)
  have HK : Hid (Keeps p w w1) := HK.out.trans h3
  clear h1 h2 h3 c0 c1 c2 c3 c7
  obtain ⟨c0, c1, c2, c3, c7⟩ := HX.out.cells
  rw [HL2.out] at c7
  go_wp2_with fail
  refine (HE1.out B p dd _ _ _ _ HS.out (kid_at HX.out hk1) (by have := HL.out; simp at this ⊢; omega)).mono ?_
  rintro e w2 ⟨rfl, h1, h2, h3⟩
  have HS := Lib.hid h1
  have HX := Lib.hid (HX.out.kept h2)
  have HB := Lib.hid (HB.out.trans h2)
  have HK : Hid (Keeps p w w2) := HK.out.trans h3
  clear h1 h2 h3 c0 c1 c2 c3 c7
  obtain ⟨c0, c1, c2, c3, c7⟩ := HX.out.cells
  rw [HL2.out] at c7
  go_wp2_with fail
  refine (add1 ⟨#[32]⟩ HS.out (by have := HL.out; simp at this ⊢; omega)).mono ?_
  rintro e w3 ⟨rfl, h1, h2, h3⟩
  have HS := Lib.hid h1
  have HX := Lib.hid (HX.out.kept h2)
  have HB := Lib.hid (HB.out.trans h2)
  have HK : Hid (Keeps p w w3) := HK.out.trans h3
  clear h1 h2 h3 c0 c1 c2 c3 c7
  obtain ⟨c0, c1, c2, c3, c7⟩ := HX.out.cells
  rw [HL2.out] at c7
  go_wp2
  go_end0
  refine ⟨rfl, ?_, HB.out, HK.out⟩
  have := HS.out
  simpa using this
set_option maxHeartbeats 8000000 in
set_option maxRecDepth 100000 in
theorem head_3t (E : Tr → Bs) (d : Nd) (ks : List Tr) (hn : d.n = 3) (he : d.text.toList.isEmpty = false) (hHE1 : Writes 68 (E (kid 1 ks)) (kid 1 ks)) (h2 : ks.length = 3) (hlen : ks.length ≤ 1048576) {B p dd : Nat} {l : Bs} {w : World} {b o : Nat} (hS : Ws B p l dd w) (hA : At w (fun b => b < B) (.mk d ks) b o) (hl : l.length + ((s8 (kid 0 ks).d.text ++ [32] ++ s8 d.text ++ [32]) ++ ([114, 97, 110, 103, 101, 32] ++ (E (kid 1 ks) ++ [32]))).length ≤ most) :
    Calls Tryz.prog 69 #[.pointer (some ⟨p, 0, none⟩), .pointer (some ⟨b, o, none⟩)] w (Post B p l ((s8 (kid 0 ks).d.text ++ [32] ++ s8 d.text ++ [32]) ++ ([114, 97, 110, 103, 101, 32] ++ (E (kid 1 ks) ++ [32]))) dd w) := by
  obtain ⟨a, c, hN⟩ := Nb.start hA
  have HS := Lib.hid hS
  have HL := Lib.hid hl
  have HB := Lib.hid (Below.refl B w)
  have HK : Hid (Keeps p w w) := Lib.OthersKept.refl _ _ _
  have hk0 : 0 < ks.length := by omega
  have hk1 : 1 < ks.length := by omega
  have hk2 : 2 < ks.length := by omega
  have HE1 := Lib.hid hHE1
  clear hHE1
  obtain ⟨kb, ko, rfl⟩ := kl_some' hN.kl hk0
  have HX := Lib.hid hN
  obtain ⟨k, tx, n, ty, s4, s5, s6⟩ := d
  obtain ⟨c0, c1, c2, c3, c7⟩ := HX.out.cells
  simp only at hn
  subst hn
  obtain ⟨kk0, hkk0⟩ : ∃ x, (kid 0 ks).d.k = x := ⟨_, rfl⟩
  obtain ⟨kt0, hkt0⟩ : ∃ x, (kid 0 ks).d.text = x := ⟨_, rfl⟩
  have hkc0 : ∀ (W : World), Nb B W b o ⟨k, tx, 3, ty, s4, s5, s6⟩ ks (some ⟨kb, ko, none⟩) c → W.cell? ⟨kb, ko, none⟩ = some (.int .i64 kk0) ∧ W.cell? ⟨kb, ko + 1, none⟩ = some (.string kt0) := fun W h => by
    have q := kid_cells h hk0
    rw [hkk0, hkt0] at q
    simp only [Nat.zero_mul, Nat.add_zero] at q
    exact q
  have HKC0 := Lib.hid hkc0
  obtain ⟨k00, k01⟩ := HKC0.out _ HX.out
  clear hkc0
  have HKT := Lib.hid hkt0
  clear hkk0 hkt0
  have HL2 := Lib.hid h2
  rw [h2] at c7
  clear h2
  clear hS hl hA hN
  go_enter Tryz.func69, Tryz.ntmps69
  have HSA : Hid (∀ W, Below B w W → W.cell? ⟨b, o + 7, none⟩ = some (.slice (some ⟨kb, ko, none⟩) 3 c) ∧ W.cell? ⟨kb, ko + 1, none⟩ = some (.string kt0) ∧ W.cell? ⟨b, o + 1, none⟩ = some (.string tx)) := fun W hb => by
    have q := HX.out.kept hb
    obtain ⟨_, q1, _, _, q7⟩ := q.cells
    rw [HL2.out] at q7
    exact ⟨q7, (HKC0.out _ q).2, q1⟩
  go_wp2_with fail
  refine wp_region_held_drew (S := fun W => W.cell? ⟨b, o + 7, none⟩ = some (.slice (some ⟨kb, ko, none⟩) 3 c) ∧ W.cell? ⟨kb, ko + 1, none⟩ = some (.string kt0) ∧ W.cell? ⟨b, o + 1, none⟩ = some (.string tx)) (by kernel_rfl) (HSA.out _ (Below.refl B w).drew) (fun hHeld => ?_)
  change wpAnyH _ _ _ _ _ 14 #[false, false, false, false, false, false, false, false, false, false, false, false, false, false] _ _
  refine wpAnyH_take (i := 0) (v := ?_) rfl (by kernel_rfl) (by kernel_rfl) (by kernel_rfl) (fun _ _ _ h => h) (Or.inl ⟨by rfl, ?_⟩) hHeld ?_
  rotate_left
  · intro w hSw
    try dsimp only at hSw
    go_simp
    with_reducible rfl
  try dsimp only [Act.put, List.getElem_toArray, List.getElem_cons_zero, List.getElem_cons_succ]
  try simp only [List.setIfInBounds_toArray, List.set_cons_zero, List.set_cons_succ]
  refine wpAnyH_take (i := 1) (v := ?_) rfl (by kernel_rfl) (by kernel_rfl) (by kernel_rfl) (fun _ _ _ h => h) (Or.inl ⟨by rfl, ?_⟩) hHeld ?_
  rotate_left
  · intro w hSw
    try dsimp only at hSw
    go_simp
    with_reducible rfl
  try dsimp only [Act.put, List.getElem_toArray, List.getElem_cons_zero, List.getElem_cons_succ]
  try simp only [List.setIfInBounds_toArray, List.set_cons_zero, List.set_cons_succ]
  refine wpAnyH_take (i := 2) (v := ?_) rfl (by kernel_rfl) (by kernel_rfl) (by kernel_rfl) (fun _ _ _ h => h) (Or.inl ⟨by rfl, ?_⟩) hHeld ?_
  rotate_left
  · intro w hSw
    try dsimp only at hSw
    go_simp
    with_reducible rfl
  try dsimp only [Act.put, List.getElem_toArray, List.getElem_cons_zero, List.getElem_cons_succ]
  try simp only [List.setIfInBounds_toArray, List.set_cons_zero, List.set_cons_succ]
  refine wpAnyH_take (i := 3) (v := ?_) rfl (by kernel_rfl) (by kernel_rfl) (by kernel_rfl) (fun _ _ _ h => h) (Or.inl ⟨by rfl, ?_⟩) hHeld ?_
  rotate_left
  · intro w hSw
    try dsimp only at hSw
    go_simp
    with_reducible rfl
  try dsimp only [Act.put, List.getElem_toArray, List.getElem_cons_zero, List.getElem_cons_succ]
  try simp only [List.setIfInBounds_toArray, List.set_cons_zero, List.set_cons_succ]
  refine wpAnyH_take (i := 4) (v := ?_) rfl (by kernel_rfl) (by kernel_rfl) (by kernel_rfl) (fun _ _ _ h => h) (Or.inl ⟨by rfl, ?_⟩) hHeld ?_
  rotate_left
  · intro w hSw
    try dsimp only at hSw
    go_simp
    with_reducible rfl
  try dsimp only [Act.put, List.getElem_toArray, List.getElem_cons_zero, List.getElem_cons_succ]
  try simp only [List.setIfInBounds_toArray, List.set_cons_zero, List.set_cons_succ]
  refine wpAnyH_take (i := 5) (v := ?_) rfl (by kernel_rfl) (by kernel_rfl) (by kernel_rfl) (fun _ _ _ h => h) (Or.inl ⟨by rfl, ?_⟩) hHeld ?_
  rotate_left
  · intro w hSw
    try dsimp only at hSw
    go_simp
    with_reducible rfl
  try dsimp only [Act.put, List.getElem_toArray, List.getElem_cons_zero, List.getElem_cons_succ]
  try simp only [List.setIfInBounds_toArray, List.set_cons_zero, List.set_cons_succ]
  refine wpAnyH_take (i := 6) (v := ?_) rfl (by kernel_rfl) (by kernel_rfl) (by kernel_rfl) (fun _ _ _ h => h) (Or.inl ⟨by rfl, ?_⟩) hHeld ?_
  rotate_left
  · intro w hSw
    try dsimp only at hSw
    go_simp
    with_reducible rfl
  try dsimp only [Act.put, List.getElem_toArray, List.getElem_cons_zero, List.getElem_cons_succ]
  try simp only [List.setIfInBounds_toArray, List.set_cons_zero, List.set_cons_succ]
  refine wpAnyH_take (i := 7) (v := ?_) rfl (by kernel_rfl) (by kernel_rfl) (by kernel_rfl) (fun _ _ _ h => h) (Or.inl ⟨by rfl, ?_⟩) hHeld ?_
  rotate_left
  · intro w hSw
    try dsimp only at hSw
    go_simp
    with_reducible rfl
  try dsimp only [Act.put, List.getElem_toArray, List.getElem_cons_zero, List.getElem_cons_succ]
  try simp only [List.setIfInBounds_toArray, List.set_cons_zero, List.set_cons_succ]
  refine wpAnyH_take (i := 8) (v := ?_) rfl (by kernel_rfl) (by kernel_rfl) (by kernel_rfl) (fun _ _ _ h => h) (Or.inl ⟨by rfl, ?_⟩) hHeld ?_
  rotate_left
  · intro w hSw
    try dsimp only at hSw
    go_simp
    with_reducible rfl
  try dsimp only [Act.put, List.getElem_toArray, List.getElem_cons_zero, List.getElem_cons_succ]
  try simp only [List.setIfInBounds_toArray, List.set_cons_zero, List.set_cons_succ]
  refine wpAnyH_take (i := 9) (v := ?_) rfl (by kernel_rfl) (by kernel_rfl) (by kernel_rfl) (fun _ _ _ h => h) (Or.inl ⟨by rfl, ?_⟩) hHeld ?_
  rotate_left
  · intro w hSw
    try dsimp only at hSw
    go_simp
    with_reducible rfl
  try dsimp only [Act.put, List.getElem_toArray, List.getElem_cons_zero, List.getElem_cons_succ]
  try simp only [List.setIfInBounds_toArray, List.set_cons_zero, List.set_cons_succ]
  refine wpAnyH_take (i := 10) (v := ?_) rfl (by kernel_rfl) (by kernel_rfl) (by kernel_rfl) (fun _ _ _ h => h) (Or.inl ⟨by rfl, ?_⟩) hHeld ?_
  rotate_left
  · intro w hSw
    try dsimp only at hSw
    go_simp
    with_reducible rfl
  try dsimp only [Act.put, List.getElem_toArray, List.getElem_cons_zero, List.getElem_cons_succ]
  try simp only [List.setIfInBounds_toArray, List.set_cons_zero, List.set_cons_succ]
  refine wpAnyH_take (i := 11) (v := ?_) rfl (by kernel_rfl) (by kernel_rfl) (by kernel_rfl) (fun _ _ _ h => h) (Or.inl ⟨by rfl, ?_⟩) hHeld ?_
  rotate_left
  · intro w hSw
    try dsimp only at hSw
    go_simp
    with_reducible rfl
  try dsimp only [Act.put, List.getElem_toArray, List.getElem_cons_zero, List.getElem_cons_succ]
  try simp only [List.setIfInBounds_toArray, List.set_cons_zero, List.set_cons_succ]
  have hd := (Below.refl w.heap.size w).drew
  have hd2 := (Below.refl B w).drew
  have HB := Lib.hid (HB.out.trans hd2)
  have HK : Hid (Keeps p w w.drew) := HK.out.trans (keeps_below hd)
  have HX := Lib.hid (HX.out.kept hd2)
  have HS := Lib.hid (HS.out.kept hd)
  have HSA : Hid (∀ W, Below B w.drew W → W.cell? ⟨b, o + 7, none⟩ = some (.slice (some ⟨kb, ko, none⟩) 3 c) ∧ W.cell? ⟨kb, ko + 1, none⟩ = some (.string kt0) ∧ W.cell? ⟨b, o + 1, none⟩ = some (.string tx)) := fun W hb => HSA.out W (hd2.trans hb)
  obtain ⟨wd1, hwd⟩ : ∃ W, W = w.drew := ⟨_, rfl⟩
  rw [← hwd] at HB HK HX HS HSA hHeld
  rw [← hwd]
  clear hd hd2 hwd c0 c1 c2 c3 c7 k00 k01
  refine wpAnyH_ready (rs := [12]) (by kernel_rfl) (by simp) ?_
  refine AllReadyH.cons rfl (fun K hKK => ?_) AllReadyH.nil
  go_simp
  refine hKK.out _ _ (HSA.out _ ((Below.refl B wd1).alloc HS.out.hB _)) (fun hHeld => ?_)
  clear hKK K
  try dsimp only [Act.put, List.getElem_toArray, List.getElem_cons_zero, List.getElem_cons_succ]
  try simp only [List.setIfInBounds_toArray, List.set_cons_zero, List.set_cons_succ]
  refine wpAnyH_ready (rs := [13]) (by kernel_rfl) (by simp) ?_
  refine AllReadyH.cons rfl (fun K hKK => ?_) AllReadyH.nil
  go_simp
  go_at_call 27
  refine (add4 kt0 ⟨#[32]⟩ tx ⟨#[32]⟩ HS.out (by have := HL.out; rw [HKT.out] at this; simp at this ⊢; omega)).mono ?_
  rintro e w1 ⟨rfl, h1, h2, h3⟩
  refine hKK.out _ _ (HSA.out _ h2) (fun hHeld => ?_)
  clear hKK K hHeld
  try dsimp only [Act.put, List.getElem_toArray, List.getElem_cons_zero, List.getElem_cons_succ]
  try simp only [List.setIfInBounds_toArray, List.set_cons_zero, List.set_cons_succ]
  have HS := Lib.hid h1
  have HX := Lib.hid (HX.out.kept h2)
  have HB := Lib.hid (HB.out.trans h2)
  have HK : Hid (Keeps p w w1) := HK.out.trans h3
  clear h1 h2 h3 HSA
  obtain ⟨c0, c1, c2, c3, c7⟩ := HX.out.cells
  rw [HL2.out] at c7
  obtain ⟨k00, k01⟩ := HKC0.out _ HX.out
  refine wpAnyH_done (by kernel_rfl) ?_ _
  go_wp2_with fail
  refine (add1 ⟨#[114, 97, 110, 103, 101, 32]⟩ HS.out (by have := HL.out; rw [HKT.out] at this; simp at this ⊢; omega)).mono ?_
  rintro e w2 ⟨rfl, h1, h2, h3⟩
  have HS := Lib.hid h1
  have HX := Lib.hid (HX.out.kept h2)
  have HB := Lib.hid (HB.out.trans h2)
  have HK : Hid (Keeps p w w2) := HK.out.trans h3
  clear h1 h2 h3 c0 c1 c2 c3 c7 k00 k01
  obtain ⟨c0, c1, c2, c3, c7⟩ := HX.out.cells
  rw [HL2.out] at c7
  obtain ⟨k00, k01⟩ := HKC0.out _ HX.out
  go_wp2_with fail
  refine (HE1.out B p dd _ _ _ _ HS.out (kid_at HX.out hk1) (by have := HL.out; rw [HKT.out] at this; simp at this ⊢; omega)).mono ?_
  rintro e w3 ⟨rfl, h1, h2, h3⟩
  have HS := Lib.hid h1
  have HX := Lib.hid (HX.out.kept h2)
  have HB := Lib.hid (HB.out.trans h2)
  have HK : Hid (Keeps p w w3) := HK.out.trans h3
  clear h1 h2 h3 c0 c1 c2 c3 c7 k00 k01
  obtain ⟨c0, c1, c2, c3, c7⟩ := HX.out.cells
  rw [HL2.out] at c7
  obtain ⟨k00, k01⟩ := HKC0.out _ HX.out
  go_wp2_with fail
  refine (add1 ⟨#[32]⟩ HS.out (by have := HL.out; rw [HKT.out] at this; simp at this ⊢; omega)).mono ?_
  rintro e w4 ⟨rfl, h1, h2, h3⟩
  have HS := Lib.hid h1
  have HX := Lib.hid (HX.out.kept h2)
  have HB := Lib.hid (HB.out.trans h2)
  have HK : Hid (Keeps p w w4) := HK.out.trans h3
  clear h1 h2 h3 c0 c1 c2 c3 c7 k00 k01
  obtain ⟨c0, c1, c2, c3, c7⟩ := HX.out.cells
  rw [HL2.out] at c7
  obtain ⟨k00, k01⟩ := HKC0.out _ HX.out
  go_wp2
  go_end0
  refine ⟨rfl, ?_, HB.out, HK.out⟩
  have := HS.out
  rw [HKT.out]
  simpa using this
end Go.Proofs.YtgodeffkboihlaaGreatDoor.Twi
