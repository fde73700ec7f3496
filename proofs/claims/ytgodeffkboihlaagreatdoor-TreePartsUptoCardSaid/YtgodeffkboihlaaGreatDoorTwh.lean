/- tree's writer: simple. Printed by mkwrite.py. -/
import Derived.Test.YtgodeffkboihlaaGreatDoorTwg
set_option linter.unusedVariables false
namespace Go.Proofs.YtgodeffkboihlaaGreatDoor.Twh
open Go.RowKit Tra Trb Trf Trd Tcn Trh Tha Txa Tpr Tpt Twa Twb Twc Twd Twe Twf

set_option maxHeartbeats 8000000 in
set_option maxRecDepth 100000 in
theorem let_1_6 (E : Tr → Bs) (d : Nd) (ks : List Tr) (hk : d.k = 6) (hn : d.n = 1) (h2 : ks.length = 2) (hlen : ks.length ≤ 1048576) (hE : ∀ j, j < ks.length → Writes 68 (E (kid j ks)) (kid j ks)) {B p dd : Nat} {l : Bs} {w : World} {b o : Nat} (hS : Ws B p l dd w) (hA : At w (fun b => b < B) (.mk d ks) b o) (hl : l.length + (letX E [32, 58, 61, 32] 1 ks).length ≤ most) :
    Calls Tryz.prog 71 #[.pointer (some ⟨p, 0, none⟩), .pointer (some ⟨b, o, none⟩)] w (Post B p l (letX E [32, 58, 61, 32] 1 ks) dd w) := by
  obtain ⟨a, c, hN⟩ := Nb.start hA
  have HE := Lib.hid hE
  have HS := Lib.hid hS
  have HL := Lib.hid hl
  have HB := Lib.hid (Below.refl B w)
  have HK : Hid (Keeps p w w) := Lib.OthersKept.refl _ _ _
  unfold letX at HL ⊢
  have hk0 : 0 < ks.length := by omega
  have hk1 : 1 < ks.length := by omega
  obtain ⟨kb, ko, rfl⟩ := kl_some' hN.kl hk0
  have HX := Lib.hid hN
  obtain ⟨k, tx, n, ty, s4, s5, s6⟩ := d
  simp only at hk
  subst hk
  obtain ⟨c0, c1, c2, c3, c7⟩ := HX.out.cells
  simp only at hn
  subst hn
  have hcap := HX.out.cap
  have hdl : (ks.take 1).length = 1 := by simp; omega
  have hEd : ∀ j, j < (ks.take 1).length → Writes 68 (E ((ks.take 1).getD j tr0)) ((ks.take 1).getD j tr0) := fun j hj => by
    rw [hdl] at hj
    rw [show (ks.take 1).getD j tr0 = kid j ks by simp [kid, List.getD_eq_getElem?_getD, hj]]
    exact HE.out _ (by omega)
  have hli := fun (l : Bs) (W : World) (h1 : Ws B p l dd W) (h2 : KL W (fun b => b < B) (ks.take 1) (some ⟨kb, ko, none⟩)) (h3 : l.length + (commas E (ks.take 1)).length ≤ most) => list_any E (ks.take 1) (some ⟨kb, ko, none⟩) c (by omega) hEd h1 h2 h3
  rw [hdl] at hli
  have HLI := Lib.hid hli
  have hmc : 1 ≤ c := by omega
  have hmci : (1 : Int) ≤ (c : Int) := by omega
  clear hdl hEd hli hcap
  have HL2 := Lib.hid h2
  rw [h2] at c7
  clear h2
  clear hE hS hl hA hN
  go_enter Tryz.func71, Tryz.ntmps71
  go_wp2_with fail
  go_still_tail 10, (by kernel_rfl)
  change wpList _ _ _ _ _ w.drew
  have hd := (Below.refl w.heap.size w).drew
  have HB := Lib.hid (HB.out.trans (hd.mono HS.out.hB))
  have HK : Hid (Keeps p w w.drew) := HK.out.trans (keeps_below hd)
  have HX := Lib.hid (HX.out.kept (hd.mono HS.out.hB))
  have HS := Lib.hid (HS.out.kept hd)
  obtain ⟨w1, hwd⟩ : ∃ W, W = w.drew := ⟨_, rfl⟩
  rw [← hwd] at HB HK HX HS
  rw [← hwd]
  clear hd hwd c0 c1 c2 c3 c7
  obtain ⟨c0, c1, c2, c3, c7⟩ := HX.out.cells
  rw [HL2.out] at c7
  go_wp2_with fail
  refine (HLI.out _ _ HS.out (HX.out.kl.take 1) (by have := HL.out; simp at this ⊢; omega)).mono ?_
  rintro e w2 ⟨rfl, h1, h2, h3⟩
  have HS := Lib.hid h1
  have HX := Lib.hid (HX.out.kept h2)
  have HB := Lib.hid (HB.out.trans h2)
  have HK : Hid (Keeps p w w2) := HK.out.trans h3
  clear h1 h2 h3 c0 c1 c2 c3 c7
  obtain ⟨c0, c1, c2, c3, c7⟩ := HX.out.cells
  rw [HL2.out] at c7
  go_wp2_with fail
  refine (add1 ⟨#[32, 58, 61, 32]⟩ HS.out (by have := HL.out; simp at this ⊢; omega)).mono ?_
  rintro e w3 ⟨rfl, h1, h2, h3⟩
  have HS := Lib.hid h1
  have HX := Lib.hid (HX.out.kept h2)
  have HB := Lib.hid (HB.out.trans h2)
  have HK : Hid (Keeps p w w3) := HK.out.trans h3
  clear h1 h2 h3 c0 c1 c2 c3 c7
  obtain ⟨c0, c1, c2, c3, c7⟩ := HX.out.cells
  rw [HL2.out] at c7
  go_wp2_with fail
  go_still_tail 10, (by kernel_rfl)
  change wpList _ _ _ _ _ w3.drew
  have hd := (Below.refl w3.heap.size w3).drew
  have HB := Lib.hid (HB.out.trans (hd.mono HS.out.hB))
  have HK : Hid (Keeps p w w3.drew) := HK.out.trans (keeps_below hd)
  have HX := Lib.hid (HX.out.kept (hd.mono HS.out.hB))
  have HS := Lib.hid (HS.out.kept hd)
  obtain ⟨w4, hwd⟩ : ∃ W, W = w3.drew := ⟨_, rfl⟩
  rw [← hwd] at HB HK HX HS
  rw [← hwd]
  clear hd hwd c0 c1 c2 c3 c7
  obtain ⟨c0, c1, c2, c3, c7⟩ := HX.out.cells
  rw [HL2.out] at c7
  go_wp2_with fail
  refine (HE.out 1 hk1 B p dd _ _ _ _ HS.out (kid_at HX.out hk1) (by have := HL.out; simp at this ⊢; omega)).mono ?_
  rintro e w5 ⟨rfl, h1, h2, h3⟩
  have HS := Lib.hid h1
  have HX := Lib.hid (HX.out.kept h2)
  have HB := Lib.hid (HB.out.trans h2)
  have HK : Hid (Keeps p w w5) := HK.out.trans h3
  clear h1 h2 h3 c0 c1 c2 c3 c7
  obtain ⟨c0, c1, c2, c3, c7⟩ := HX.out.cells
  rw [HL2.out] at c7
  go_wp2
  go_end0
  refine ⟨rfl, ?_, HB.out, HK.out⟩
  have := HS.out
  simpa using this
set_option maxHeartbeats 8000000 in
set_option maxRecDepth 100000 in
theorem let_1_7 (E : Tr → Bs) (d : Nd) (ks : List Tr) (hk : d.k = 7) (hn : d.n = 1) (h2 : ks.length = 2) (hlen : ks.length ≤ 1048576) (hE : ∀ j, j < ks.length → Writes 68 (E (kid j ks)) (kid j ks)) {B p dd : Nat} {l : Bs} {w : World} {b o : Nat} (hS : Ws B p l dd w) (hA : At w (fun b => b < B) (.mk d ks) b o) (hl : l.length + (letX E [32, 61, 32] 1 ks).length ≤ most) :
    Calls Tryz.prog 71 #[.pointer (some ⟨p, 0, none⟩), .pointer (some ⟨b, o, none⟩)] w (Post B p l (letX E [32, 61, 32] 1 ks) dd w) := by
  obtain ⟨a, c, hN⟩ := Nb.start hA
  have HE := Lib.hid hE
  have HS := Lib.hid hS
  have HL := Lib.hid hl
  have HB := Lib.hid (Below.refl B w)
  have HK : Hid (Keeps p w w) := Lib.OthersKept.refl _ _ _
  unfold letX at HL ⊢
  have hk0 : 0 < ks.length := by omega
  have hk1 : 1 < ks.length := by omega
  obtain ⟨kb, ko, rfl⟩ := kl_some' hN.kl hk0
  have HX := Lib.hid hN
  obtain ⟨k, tx, n, ty, s4, s5, s6⟩ := d
  simp only at hk
  subst hk
  obtain ⟨c0, c1, c2, c3, c7⟩ := HX.out.cells
  simp only at hn
  subst hn
  have hcap := HX.out.cap
  have hdl : (ks.take 1).length = 1 := by simp; omega
  have hEd : ∀ j, j < (ks.take 1).length → Writes 68 (E ((ks.take 1).getD j tr0)) ((ks.take 1).getD j tr0) := fun j hj => by
    rw [hdl] at hj
    rw [show (ks.take 1).getD j tr0 = kid j ks by simp [kid, List.getD_eq_getElem?_getD, hj]]
    exact HE.out _ (by omega)
  have hli := fun (l : Bs) (W : World) (h1 : Ws B p l dd W) (h2 : KL W (fun b => b < B) (ks.take 1) (some ⟨kb, ko, none⟩)) (h3 : l.length + (commas E (ks.take 1)).length ≤ most) => list_any E (ks.take 1) (some ⟨kb, ko, none⟩) c (by omega) hEd h1 h2 h3
  rw [hdl] at hli
  have HLI := Lib.hid hli
  have hmc : 1 ≤ c := by omega
  have hmci : (1 : Int) ≤ (c : Int) := by omega
  clear hdl hEd hli hcap
  have HL2 := Lib.hid h2
  rw [h2] at c7
  clear h2
  clear hE hS hl hA hN
  go_enter Tryz.func71, Tryz.ntmps71
  go_wp2_with fail
  go_still_tail 10, (by kernel_rfl)
  change wpList _ _ _ _ _ w.drew
  have hd := (Below.refl w.heap.size w).drew
  have HB := Lib.hid (HB.out.trans (hd.mono HS.out.hB))
  have HK : Hid (Keeps p w w.drew) := HK.out.trans (keeps_below hd)
  have HX := Lib.hid (HX.out.kept (hd.mono HS.out.hB))
  have HS := Lib.hid (HS.out.kept hd)
  obtain ⟨w1, hwd⟩ : ∃ W, W = w.drew := ⟨_, rfl⟩
  rw [← hwd] at HB HK HX HS
  rw [← hwd]
  clear hd hwd c0 c1 c2 c3 c7
  obtain ⟨c0, c1, c2, c3, c7⟩ := HX.out.cells
  rw [HL2.out] at c7
  go_wp2_with fail
  refine (HLI.out _ _ HS.out (HX.out.kl.take 1) (by have := HL.out; simp at this ⊢; omega)).mono ?_
  rintro e w2 ⟨rfl, h1, h2, h3⟩
  have HS := Lib.hid h1
  have HX := Lib.hid (HX.out.kept h2)
  have HB := Lib.hid (HB.out.trans h2)
  have HK : Hid (Keeps p w w2) := HK.out.trans h3
  clear h1 h2 h3 c0 c1 c2 c3 c7
  obtain ⟨c0, c1, c2, c3, c7⟩ := HX.out.cells
  rw [HL2.out] at c7
  go_wp2_with fail
  refine (add1 ⟨#[32, 61, 32]⟩ HS.out (by have := HL.out; simp at this ⊢; omega)).mono ?_
  rintro e w3 ⟨rfl, h1, h2, h3⟩
  have HS := Lib.hid h1
  have HX := Lib.hid (HX.out.kept h2)
  have HB := Lib.hid (HB.out.trans h2)
  have HK : Hid (Keeps p w w3) := HK.out.trans h3
  clear h1 h2 h3 c0 c1 c2 c3 c7
  obtain ⟨c0, c1, c2, c3, c7⟩ := HX.out.cells
  rw [HL2.out] at c7
  go_wp2_with fail
  go_still_tail 10, (by kernel_rfl)
  change wpList _ _ _ _ _ w3.drew
  have hd := (Below.refl w3.heap.size w3).drew
  have HB := Lib.hid (HB.out.trans (hd.mono HS.out.hB))
  have HK : Hid (Keeps p w w3.drew) := HK.out.trans (keeps_below hd)
  have HX := Lib.hid (HX.out.kept (hd.mono HS.out.hB))
  have HS := Lib.hid (HS.out.kept hd)
  obtain ⟨w4, hwd⟩ : ∃ W, W = w3.drew := ⟨_, rfl⟩
  rw [← hwd] at HB HK HX HS
  rw [← hwd]
  clear hd hwd c0 c1 c2 c3 c7
  obtain ⟨c0, c1, c2, c3, c7⟩ := HX.out.cells
  rw [HL2.out] at c7
  go_wp2_with fail
  refine (HE.out 1 hk1 B p dd _ _ _ _ HS.out (kid_at HX.out hk1) (by have := HL.out; simp at this ⊢; omega)).mono ?_
  rintro e w5 ⟨rfl, h1, h2, h3⟩
  have HS := Lib.hid h1
  have HX := Lib.hid (HX.out.kept h2)
  have HB := Lib.hid (HB.out.trans h2)
  have HK : Hid (Keeps p w w5) := HK.out.trans h3
  clear h1 h2 h3 c0 c1 c2 c3 c7
  obtain ⟨c0, c1, c2, c3, c7⟩ := HX.out.cells
  rw [HL2.out] at c7
  go_wp2
  go_end0
  refine ⟨rfl, ?_, HB.out, HK.out⟩
  have := HS.out
  simpa using this
set_option maxHeartbeats 8000000 in
set_option maxRecDepth 100000 in
theorem let_2_6 (E : Tr → Bs) (d : Nd) (ks : List Tr) (hk : d.k = 6) (hn : d.n = 2) (h2 : ks.length = 3) (hlen : ks.length ≤ 1048576) (hE : ∀ j, j < ks.length → Writes 68 (E (kid j ks)) (kid j ks)) {B p dd : Nat} {l : Bs} {w : World} {b o : Nat} (hS : Ws B p l dd w) (hA : At w (fun b => b < B) (.mk d ks) b o) (hl : l.length + (letX E [32, 58, 61, 32] 2 ks).length ≤ most) :
    Calls Tryz.prog 71 #[.pointer (some ⟨p, 0, none⟩), .pointer (some ⟨b, o, none⟩)] w (Post B p l (letX E [32, 58, 61, 32] 2 ks) dd w) := by
  obtain ⟨a, c, hN⟩ := Nb.start hA
  have HE := Lib.hid hE
  have HS := Lib.hid hS
  have HL := Lib.hid hl
  have HB := Lib.hid (Below.refl B w)
  have HK : Hid (Keeps p w w) := Lib.OthersKept.refl _ _ _
  unfold letX at HL ⊢
  have hk0 : 0 < ks.length := by omega
  have hk1 : 1 < ks.length := by omega
  have hk2 : 2 < ks.length := by omega
  obtain ⟨kb, ko, rfl⟩ := kl_some' hN.kl hk0
  have HX := Lib.hid hN
  obtain ⟨k, tx, n, ty, s4, s5, s6⟩ := d
  simp only at hk
  subst hk
  obtain ⟨c0, c1, c2, c3, c7⟩ := HX.out.cells
  simp only at hn
  subst hn
  have hcap := HX.out.cap
  have hdl : (ks.take 2).length = 2 := by simp; omega
  have hEd : ∀ j, j < (ks.take 2).length → Writes 68 (E ((ks.take 2).getD j tr0)) ((ks.take 2).getD j tr0) := fun j hj => by
    rw [hdl] at hj
    rw [show (ks.take 2).getD j tr0 = kid j ks by simp [kid, List.getD_eq_getElem?_getD, hj]]
    exact HE.out _ (by omega)
  have hli := fun (l : Bs) (W : World) (h1 : Ws B p l dd W) (h2 : KL W (fun b => b < B) (ks.take 2) (some ⟨kb, ko, none⟩)) (h3 : l.length + (commas E (ks.take 2)).length ≤ most) => list_any E (ks.take 2) (some ⟨kb, ko, none⟩) c (by omega) hEd h1 h2 h3
  rw [hdl] at hli
  have HLI := Lib.hid hli
  have hmc : 2 ≤ c := by omega
  have hmci : (2 : Int) ≤ (c : Int) := by omega
  clear hdl hEd hli hcap
  have HL2 := Lib.hid h2
  rw [h2] at c7
  clear h2
  clear hE hS hl hA hN
  go_enter Tryz.func71, Tryz.ntmps71
  go_wp2_with fail
  go_still_tail 10, (by kernel_rfl)
  change wpList _ _ _ _ _ w.drew
  have hd := (Below.refl w.heap.size w).drew
  have HB := Lib.hid (HB.out.trans (hd.mono HS.out.hB))
  have HK : Hid (Keeps p w w.drew) := HK.out.trans (keeps_below hd)
  have HX := Lib.hid (HX.out.kept (hd.mono HS.out.hB))
  have HS := Lib.hid (HS.out.kept hd)
  obtain ⟨w1, hwd⟩ : ∃ W, W = w.drew := ⟨_, rfl⟩
  rw [← hwd] at HB HK HX HS
  rw [← hwd]
  clear hd hwd c0 c1 c2 c3 c7
  obtain ⟨c0, c1, c2, c3, c7⟩ := HX.out.cells
  rw [HL2.out] at c7
  go_wp2_with fail
  refine (HLI.out _ _ HS.out (HX.out.kl.take 2) (by have := HL.out; simp at this ⊢; omega)).mono ?_
  rintro e w2 ⟨rfl, h1, h2, h3⟩
  have HS := Lib.hid h1
  have HX := Lib.hid (HX.out.kept h2)
  have HB := Lib.hid (HB.out.trans h2)
  have HK : Hid (Keeps p w w2) := HK.out.trans h3
  clear h1 h2 h3 c0 c1 c2 c3 c7
  obtain ⟨c0, c1, c2, c3, c7⟩ := HX.out.cells
  rw [HL2.out] at c7
  go_wp2_with fail
  refine (add1 ⟨#[32, 58, 61, 32]⟩ HS.out (by have := HL.out; simp at this ⊢; omega)).mono ?_
  rintro e w3 ⟨rfl, h1, h2, h3⟩
  have HS := Lib.hid h1
  have HX := Lib.hid (HX.out.kept h2)
  have HB := Lib.hid (HB.out.trans h2)
  have HK : Hid (Keeps p w w3) := HK.out.trans h3
  clear h1 h2 h3 c0 c1 c2 c3 c7
  obtain ⟨c0, c1, c2, c3, c7⟩ := HX.out.cells
  rw [HL2.out] at c7
  go_wp2_with fail
  go_still_tail 10, (by kernel_rfl)
  change wpList _ _ _ _ _ w3.drew
  have hd := (Below.refl w3.heap.size w3).drew
  have HB := Lib.hid (HB.out.trans (hd.mono HS.out.hB))
  have HK : Hid (Keeps p w w3.drew) := HK.out.trans (keeps_below hd)
  have HX := Lib.hid (HX.out.kept (hd.mono HS.out.hB))
  have HS := Lib.hid (HS.out.kept hd)
  obtain ⟨w4, hwd⟩ : ∃ W, W = w3.drew := ⟨_, rfl⟩
  rw [← hwd] at HB HK HX HS
  rw [← hwd]
  clear hd hwd c0 c1 c2 c3 c7
  obtain ⟨c0, c1, c2, c3, c7⟩ := HX.out.cells
  rw [HL2.out] at c7
  go_wp2_with fail
  refine (HE.out 2 hk2 B p dd _ _ _ _ HS.out (kid_at HX.out hk2) (by have := HL.out; simp at this ⊢; omega)).mono ?_
  rintro e w5 ⟨rfl, h1, h2, h3⟩
  have HS := Lib.hid h1
  have HX := Lib.hid (HX.out.kept h2)
  have HB := Lib.hid (HB.out.trans h2)
  have HK : Hid (Keeps p w w5) := HK.out.trans h3
  clear h1 h2 h3 c0 c1 c2 c3 c7
  obtain ⟨c0, c1, c2, c3, c7⟩ := HX.out.cells
  rw [HL2.out] at c7
  go_wp2
  go_end0
  refine ⟨rfl, ?_, HB.out, HK.out⟩
  have := HS.out
  simpa using this
set_option maxHeartbeats 8000000 in
set_option maxRecDepth 100000 in
theorem let_2_7 (E : Tr → Bs) (d : Nd) (ks : List Tr) (hk : d.k = 7) (hn : d.n = 2) (h2 : ks.length = 3) (hlen : ks.length ≤ 1048576) (hE : ∀ j, j < ks.length → Writes 68 (E (kid j ks)) (kid j ks)) {B p dd : Nat} {l : Bs} {w : World} {b o : Nat} (hS : Ws B p l dd w) (hA : At w (fun b => b < B) (.mk d ks) b o) (hl : l.length + (letX E [32, 61, 32] 2 ks).length ≤ most) :
    Calls Tryz.prog 71 #[.pointer (some ⟨p, 0, none⟩), .pointer (some ⟨b, o, none⟩)] w (Post B p l (letX E [32, 61, 32] 2 ks) dd w) := by
  obtain ⟨a, c, hN⟩ := Nb.start hA
  have HE := Lib.hid hE
  have HS := Lib.hid hS
  have HL := Lib.hid hl
  have HB := Lib.hid (Below.refl B w)
  have HK : Hid (Keeps p w w) := Lib.OthersKept.refl _ _ _
  unfold letX at HL ⊢
  have hk0 : 0 < ks.length := by omega
  have hk1 : 1 < ks.length := by omega
  have hk2 : 2 < ks.length := by omega
  obtain ⟨kb, ko, rfl⟩ := kl_some' hN.kl hk0
  have HX := Lib.hid hN
  obtain ⟨k, tx, n, ty, s4, s5, s6⟩ := d
  simp only at hk
  subst hk
  obtain ⟨c0, c1, c2, c3, c7⟩ := HX.out.cells
  simp only at hn
  subst hn
  have hcap := HX.out.cap
  have hdl : (ks.take 2).length = 2 := by simp; omega
  have hEd : ∀ j, j < (ks.take 2).length → Writes 68 (E ((ks.take 2).getD j tr0)) ((ks.take 2).getD j tr0) := fun j hj => by
    rw [hdl] at hj
    rw [show (ks.take 2).getD j tr0 = kid j ks by simp [kid, List.getD_eq_getElem?_getD, hj]]
    exact HE.out _ (by omega)
  have hli := fun (l : Bs) (W : World) (h1 : Ws B p l dd W) (h2 : KL W (fun b => b < B) (ks.take 2) (some ⟨kb, ko, none⟩)) (h3 : l.length + (commas E (ks.take 2)).length ≤ most) => list_any E (ks.take 2) (some ⟨kb, ko, none⟩) c (by omega) hEd h1 h2 h3
  rw [hdl] at hli
  have HLI := Lib.hid hli
  have hmc : 2 ≤ c := by omega
  have hmci : (2 : Int) ≤ (c : Int) := by omega
  clear hdl hEd hli hcap
  have HL2 := Lib.hid h2
  rw [h2] at c7
  clear h2
  clear hE hS hl hA hN
  go_enter Tryz.func71, Tryz.ntmps71
  go_wp2_with fail
  go_still_tail 10, (by kernel_rfl)
  change wpList _ _ _ _ _ w.drew
  have hd := (Below.refl w.heap.size w).drew
  have HB := Lib.hid (HB.out.trans (hd.mono HS.out.hB))
  have HK : Hid (Keeps p w w.drew) := HK.out.trans (keeps_below hd)
  have HX := Lib.hid (HX.out.kept (hd.mono HS.out.hB))
  have HS := Lib.hid (HS.out.kept hd)
  obtain ⟨w1, hwd⟩ : ∃ W, W = w.drew := ⟨_, rfl⟩
  rw [← hwd] at HB HK HX HS
  rw [← hwd]
  clear hd hwd c0 c1 c2 c3 c7
  obtain ⟨c0, c1, c2, c3, c7⟩ := HX.out.cells
  rw [HL2.out] at c7
  go_wp2_with fail
  refine (HLI.out _ _ HS.out (HX.out.kl.take 2) (by have := HL.out; simp at this ⊢; omega)).mono ?_
  rintro e w2 ⟨rfl, h1, h2, h3⟩
  have HS := Lib.hid h1
  have HX := Lib.hid (HX.out.kept h2)
  have HB := Lib.hid (HB.out.trans h2)
  have HK : Hid (Keeps p w w2) := HK.out.trans h3
  clear h1 h2 h3 c0 c1 c2 c3 c7
  obtain ⟨c0, c1, c2, c3, c7⟩ := HX.out.cells
  rw [HL2.out] at c7
  go_wp2_with fail
  refine (add1 ⟨#[32, 61, 32]⟩ HS.out (by have := HL.out; simp at this ⊢; omega)).mono ?_
  rintro e w3 ⟨rfl, h1, h2, h3⟩
  have HS := Lib.hid h1
  have HX := Lib.hid (HX.out.kept h2)
  have HB := Lib.hid (HB.out.trans h2)
  have HK : Hid (Keeps p w w3) := HK.out.trans h3
  clear h1 h2 h3 c0 c1 c2 c3 c7
  obtain ⟨c0, c1, c2, c3, c7⟩ := HX.out.cells
  rw [HL2.out] at c7
  go_wp2_with fail
  go_still_tail 10, (by kernel_rfl)
  change wpList _ _ _ _ _ w3.drew
  have hd := (Below.refl w3.heap.size w3).drew
  have HB := Lib.hid (HB.out.trans (hd.mono HS.out.hB))
  have HK : Hid (Keeps p w w3.drew) := HK.out.trans (keeps_below hd)
  have HX := Lib.hid (HX.out.kept (hd.mono HS.out.hB))
  have HS := Lib.hid (HS.out.kept hd)
  obtain ⟨w4, hwd⟩ : ∃ W, W = w3.drew := ⟨_, rfl⟩
  rw [← hwd] at HB HK HX HS
  rw [← hwd]
  clear hd hwd c0 c1 c2 c3 c7
  obtain ⟨c0, c1, c2, c3, c7⟩ := HX.out.cells
  rw [HL2.out] at c7
  go_wp2_with fail
  refine (HE.out 2 hk2 B p dd _ _ _ _ HS.out (kid_at HX.out hk2) (by have := HL.out; simp at this ⊢; omega)).mono ?_
  rintro e w5 ⟨rfl, h1, h2, h3⟩
  have HS := Lib.hid h1
  have HX := Lib.hid (HX.out.kept h2)
  have HB := Lib.hid (HB.out.trans h2)
  have HK : Hid (Keeps p w w5) := HK.out.trans h3
  clear h1 h2 h3 c0 c1 c2 c3 c7
  obtain ⟨c0, c1, c2, c3, c7⟩ := HX.out.cells
  rw [HL2.out] at c7
  go_wp2
  go_end0
  refine ⟨rfl, ?_, HB.out, HK.out⟩
  have := HS.out
  simpa using this
set_option maxHeartbeats 8000000 in
set_option maxRecDepth 100000 in
theorem step_1 (E : Tr → Bs) (d : Nd) (ks : List Tr) (hk : d.k = 8) (hn : d.n = 1) (h2 : ks.length = 1) (hlen : ks.length ≤ 1048576) (hE : ∀ j, j < ks.length → Writes 68 (E (kid j ks)) (kid j ks)) {B p dd : Nat} {l : Bs} {w : World} {b o : Nat} (hS : Ws B p l dd w) (hA : At w (fun b => b < B) (.mk d ks) b o) (hl : l.length + (s8 (kid 0 ks).d.text ++ [43, 43]).length ≤ most) :
    Calls Tryz.prog 71 #[.pointer (some ⟨p, 0, none⟩), .pointer (some ⟨b, o, none⟩)] w (Post B p l (s8 (kid 0 ks).d.text ++ [43, 43]) dd w) := by
  obtain ⟨a, c, hN⟩ := Nb.start hA
  have HE := Lib.hid hE
  have HS := Lib.hid hS
  have HL := Lib.hid hl
  have HB := Lib.hid (Below.refl B w)
  have HK : Hid (Keeps p w w) := Lib.OthersKept.refl _ _ _
  have hk0 : 0 < ks.length := by omega
  obtain ⟨kb, ko, rfl⟩ := kl_some' hN.kl hk0
  have HX := Lib.hid hN
  obtain ⟨k, tx, n, ty, s4, s5, s6⟩ := d
  simp only at hk
  subst hk
  obtain ⟨c0, c1, c2, c3, c7⟩ := HX.out.cells
  simp only at hn
  subst hn
  obtain ⟨kk0, hkk0⟩ : ∃ x, (kid 0 ks).d.k = x := ⟨_, rfl⟩
  obtain ⟨kt0, hkt0⟩ : ∃ x, (kid 0 ks).d.text = x := ⟨_, rfl⟩
  have hkc0 : ∀ (W : World), Nb B W b o ⟨8, tx, 1, ty, s4, s5, s6⟩ ks (some ⟨kb, ko, none⟩) c → W.cell? ⟨kb, ko, none⟩ = some (.int .i64 kk0) ∧ W.cell? ⟨kb, ko + 1, none⟩ = some (.string kt0) := fun W h => by
    have q := kid_cells h hk0
    rw [hkk0, hkt0] at q
    simp only [Nat.zero_mul, Nat.add_zero] at q
    exact q
  have HKC0 := Lib.hid hkc0
  obtain ⟨k00, k01⟩ := HKC0.out _ HX.out
  clear hkc0
  have HKT := Lib.hid hkt0
  clear hkk0 hkt0
  have HL2 := Lib.hid h2
  rw [h2] at c7
  clear h2
  clear hE hS hl hA hN
  go_enter Tryz.func71, Tryz.ntmps71
  go_wp2_with fail
  refine (add2 kt0 ⟨#[43, 43]⟩ HS.out (by have := HL.out; rw [HKT.out] at this; simp at this ⊢; omega)).mono ?_
  rintro e w1 ⟨rfl, h1, h2, h3⟩
  have HS := Lib.hid h1
  have HX := Lib.hid (HX.out.kept h2)
  have HB := Lib.hid (HB.out.trans h2)
  have HK : Hid (Keeps p w w1) := HK.out.trans h3
  clear h1 h2 h3 c0 c1 c2 c3 c7 k00 k01
  obtain ⟨c0, c1, c2, c3, c7⟩ := HX.out.cells
  rw [HL2.out] at c7
  obtain ⟨k00, k01⟩ := HKC0.out _ HX.out
  go_wp2
  go_end0
  refine ⟨rfl, ?_, HB.out, HK.out⟩
  have := HS.out
  rw [HKT.out]
  simpa using this
set_option maxHeartbeats 8000000 in
set_option maxRecDepth 100000 in
theorem step_m (E : Tr → Bs) (d : Nd) (ks : List Tr) (hk : d.k = 8) (hn : d.n ≠ 1) (h2 : ks.length = 1) (hlen : ks.length ≤ 1048576) (hE : ∀ j, j < ks.length → Writes 68 (E (kid j ks)) (kid j ks)) {B p dd : Nat} {l : Bs} {w : World} {b o : Nat} (hS : Ws B p l dd w) (hA : At w (fun b => b < B) (.mk d ks) b o) (hl : l.length + (s8 (kid 0 ks).d.text ++ [45, 45]).length ≤ most) :
    Calls Tryz.prog 71 #[.pointer (some ⟨p, 0, none⟩), .pointer (some ⟨b, o, none⟩)] w (Post B p l (s8 (kid 0 ks).d.text ++ [45, 45]) dd w) := by
  obtain ⟨a, c, hN⟩ := Nb.start hA
  have HE := Lib.hid hE
  have HS := Lib.hid hS
  have HL := Lib.hid hl
  have HB := Lib.hid (Below.refl B w)
  have HK : Hid (Keeps p w w) := Lib.OthersKept.refl _ _ _
  have hk0 : 0 < ks.length := by omega
  obtain ⟨kb, ko, rfl⟩ := kl_some' hN.kl hk0
  have HX := Lib.hid hN
  obtain ⟨k, tx, n, ty, s4, s5, s6⟩ := d
  simp only at hk
  subst hk
  obtain ⟨c0, c1, c2, c3, c7⟩ := HX.out.cells
  simp only at hn
  have e1 : (n == 1) = false := beq_false_of_ne hn
  clear hn
  obtain ⟨kk0, hkk0⟩ : ∃ x, (kid 0 ks).d.k = x := ⟨_, rfl⟩
  obtain ⟨kt0, hkt0⟩ : ∃ x, (kid 0 ks).d.text = x := ⟨_, rfl⟩
  have hkc0 : ∀ (W : World), Nb B W b o ⟨8, tx, n, ty, s4, s5, s6⟩ ks (some ⟨kb, ko, none⟩) c → W.cell? ⟨kb, ko, none⟩ = some (.int .i64 kk0) ∧ W.cell? ⟨kb, ko + 1, none⟩ = some (.string kt0) := fun W h => by
    have q := kid_cells h hk0
    rw [hkk0, hkt0] at q
    simp only [Nat.zero_mul, Nat.add_zero] at q
    exact q
  have HKC0 := Lib.hid hkc0
  obtain ⟨k00, k01⟩ := HKC0.out _ HX.out
  clear hkc0
  have HKT := Lib.hid hkt0
  clear hkk0 hkt0
  have HL2 := Lib.hid h2
  rw [h2] at c7
  clear h2
  clear hE hS hl hA hN
  go_enter Tryz.func71, Tryz.ntmps71
  go_wp2_with fail
  refine (add2 kt0 ⟨#[45, 45]⟩ HS.out (by have := HL.out; rw [HKT.out] at this; simp at this ⊢; omega)).mono ?_
  rintro e w1 ⟨rfl, h1, h2, h3⟩
  have HS := Lib.hid h1
  have HX := Lib.hid (HX.out.kept h2)
  have HB := Lib.hid (HB.out.trans h2)
  have HK : Hid (Keeps p w w1) := HK.out.trans h3
  clear h1 h2 h3 c0 c1 c2 c3 c7 k00 k01
  obtain ⟨c0, c1, c2, c3, c7⟩ := HX.out.cells
  rw [HL2.out] at c7
  obtain ⟨k00, k01⟩ := HKC0.out _ HX.out
  go_wp2
  go_end0
  refine ⟨rfl, ?_, HB.out, HK.out⟩
  have := HS.out
  rw [HKT.out]
  simpa using this
set_option maxHeartbeats 8000000 in
set_option maxRecDepth 100000 in
theorem send (E : Tr → Bs) (d : Nd) (ks : List Tr) (hk : d.k = 9) (h2 : ks.length = 2) (hlen : ks.length ≤ 1048576) (hE : ∀ j, j < ks.length → Writes 68 (E (kid j ks)) (kid j ks)) {B p dd : Nat} {l : Bs} {w : World} {b o : Nat} (hS : Ws B p l dd w) (hA : At w (fun b => b < B) (.mk d ks) b o) (hl : l.length + (E (kid 0 ks) ++ ([32, 60, 45, 32] ++ E (kid 1 ks))).length ≤ most) :
    Calls Tryz.prog 71 #[.pointer (some ⟨p, 0, none⟩), .pointer (some ⟨b, o, none⟩)] w (Post B p l (E (kid 0 ks) ++ ([32, 60, 45, 32] ++ E (kid 1 ks))) dd w) := by
  obtain ⟨a, c, hN⟩ := Nb.start hA
  have HE := Lib.hid hE
  have HS := Lib.hid hS
  have HL := Lib.hid hl
  have HB := Lib.hid (Below.refl B w)
  have HK : Hid (Keeps p w w) := Lib.OthersKept.refl _ _ _
  have hk0 : 0 < ks.length := by omega
  have hk1 : 1 < ks.length := by omega
  obtain ⟨kb, ko, rfl⟩ := kl_some' hN.kl hk0
  have HX := Lib.hid hN
  obtain ⟨k, tx, n, ty, s4, s5, s6⟩ := d
  simp only at hk
  subst hk
  obtain ⟨c0, c1, c2, c3, c7⟩ := HX.out.cells
  have HL2 := Lib.hid h2
  rw [h2] at c7
  clear h2
  clear hE hS hl hA hN
  go_enter Tryz.func71, Tryz.ntmps71
  go_wp2_with fail
  refine (HE.out 0 hk0 B p dd _ _ _ _ HS.out (kid_at HX.out hk0) (by have := HL.out; simp at this ⊢; omega)).mono ?_
  rintro e w1 ⟨rfl, h1, h2, h3⟩
  have HS := Lib.hid h1
  have HX := Lib.hid (HX.out.kept h2)
  have HB := Lib.hid (HB.out.trans h2)
  have HK : Hid (Keeps p w w1) := HK.out.trans h3
  clear h1 h2 h3 c0 c1 c2 c3 c7
  obtain ⟨c0, c1, c2, c3, c7⟩ := HX.out.cells
  rw [HL2.out] at c7
  go_wp2_with fail
  refine (add1 ⟨#[32, 60, 45, 32]⟩ HS.out (by have := HL.out; simp at this ⊢; omega)).mono ?_
  rintro e w2 ⟨rfl, h1, h2, h3⟩
  have HS := Lib.hid h1
  have HX := Lib.hid (HX.out.kept h2)
  have HB := Lib.hid (HB.out.trans h2)
  have HK : Hid (Keeps p w w2) := HK.out.trans h3
  clear h1 h2 h3 c0 c1 c2 c3 c7
  obtain ⟨c0, c1, c2, c3, c7⟩ := HX.out.cells
  rw [HL2.out] at c7
  go_wp2_with fail
  refine (HE.out 1 hk1 B p dd _ _ _ _ HS.out (kid_at HX.out hk1) (by have := HL.out; simp at this ⊢; omega)).mono ?_
  rintro e w3 ⟨rfl, h1, h2, h3⟩
  have HS := Lib.hid h1
  have HX := Lib.hid (HX.out.kept h2)
  have HB := Lib.hid (HB.out.trans h2)
  have HK : Hid (Keeps p w w3) := HK.out.trans h3
  clear h1 h2 h3 c0 c1 c2 c3 c7
  obtain ⟨c0, c1, c2, c3, c7⟩ := HX.out.cells
  rw [HL2.out] at c7
  go_wp2
  go_end0
  refine ⟨rfl, ?_, HB.out, HK.out⟩
  have := HS.out
  simpa using this
set_option maxHeartbeats 8000000 in
set_option maxRecDepth 100000 in
theorem do_ (E : Tr → Bs) (d : Nd) (ks : List Tr) (hk : d.k = 10) (h2 : ks.length = 1) (hlen : ks.length ≤ 1048576) (hE : ∀ j, j < ks.length → Writes 68 (E (kid j ks)) (kid j ks)) {B p dd : Nat} {l : Bs} {w : World} {b o : Nat} (hS : Ws B p l dd w) (hA : At w (fun b => b < B) (.mk d ks) b o) (hl : l.length + (E (kid 0 ks)).length ≤ most) :
    Calls Tryz.prog 71 #[.pointer (some ⟨p, 0, none⟩), .pointer (some ⟨b, o, none⟩)] w (Post B p l (E (kid 0 ks)) dd w) := by
  obtain ⟨a, c, hN⟩ := Nb.start hA
  have HE := Lib.hid hE
  have HS := Lib.hid hS
  have HL := Lib.hid hl
  have HB := Lib.hid (Below.refl B w)
  have HK : Hid (Keeps p w w) := Lib.OthersKept.refl _ _ _
  have hk0 : 0 < ks.length := by omega
  obtain ⟨kb, ko, rfl⟩ := kl_some' hN.kl hk0
  have HX := Lib.hid hN
  obtain ⟨k, tx, n, ty, s4, s5, s6⟩ := d
  simp only at hk
  subst hk
  obtain ⟨c0, c1, c2, c3, c7⟩ := HX.out.cells
  have HL2 := Lib.hid h2
  rw [h2] at c7
  clear h2
  clear hE hS hl hA hN
  go_enter Tryz.func71, Tryz.ntmps71
  go_wp2_with fail
  refine (HE.out 0 hk0 B p dd _ _ _ _ HS.out (kid_at HX.out hk0) (by have := HL.out; simp at this ⊢; omega)).mono ?_
  rintro e w1 ⟨rfl, h1, h2, h3⟩
  have HS := Lib.hid h1
  have HX := Lib.hid (HX.out.kept h2)
  have HB := Lib.hid (HB.out.trans h2)
  have HK : Hid (Keeps p w w1) := HK.out.trans h3
  clear h1 h2 h3 c0 c1 c2 c3 c7
  obtain ⟨c0, c1, c2, c3, c7⟩ := HX.out.cells
  rw [HL2.out] at c7
  go_wp2
  go_end0
  refine ⟨rfl, ?_, HB.out, HK.out⟩
  have := HS.out
  simpa using this
set_option maxHeartbeats 8000000 in
set_option maxRecDepth 100000 in
theorem none_ (E : Tr → Bs) (d : Nd) (ks : List Tr) (hk : d.k = 0) (hlen : ks.length ≤ 1048576) {B p dd : Nat} {l : Bs} {w : World} {b o : Nat} (hS : Ws B p l dd w) (hA : At w (fun b => b < B) (.mk d ks) b o) (hl : l.length + (([] : Bs)).length ≤ most) :
    Calls Tryz.prog 71 #[.pointer (some ⟨p, 0, none⟩), .pointer (some ⟨b, o, none⟩)] w (Post B p l (([] : Bs)) dd w) := by
  obtain ⟨a, c, hN⟩ := Nb.start hA
  have HS := Lib.hid hS
  have HL := Lib.hid hl
  have HB := Lib.hid (Below.refl B w)
  have HK : Hid (Keeps p w w) := Lib.OthersKept.refl _ _ _

  have HX := Lib.hid hN
  obtain ⟨k, tx, n, ty, s4, s5, s6⟩ := d
  simp only at hk
  subst hk
  obtain ⟨c0, c1, c2, c3, c7⟩ := HX.out.cells

  clear hS hl hA hN
  go_enter Tryz.func71, Tryz.ntmps71
  go_wp2
  go_end0
  refine ⟨rfl, ?_, HB.out, HK.out⟩
  have := HS.out
  rwa [List.append_nil]
end Go.Proofs.YtgodeffkboihlaaGreatDoor.Twh
