/- tree's writer: expr. Printed by mkwrite.py. -/
import Derived.Test.YtgodeffkboihlaaGreatDoorTwd
set_option linter.unusedVariables false
namespace Go.Proofs.YtgodeffkboihlaaGreatDoor.Twe
open Go.RowKit Tra Trb Trf Trd Tcn Trh Tha Txa Tpr Tpt Twa Twb Twc Twd

theorem kl_some' {w : World} {B : Nat} {ks : List Tr} {a : Option Addr} (h : KL w (fun b => b < B) ks a) (hk : 0 < ks.length) : ∃ b' o', a = some ⟨b', o', none⟩ := by
  rcases h with h | ⟨b, o, e, _⟩
  · rw [h] at hk; simp at hk
  · exact ⟨b, o, e⟩
theorem kid_cells {B b o c kb ko : Nat} {w : World} {d : Nd} {ks : List Tr} (h : Nb B w b o d ks (some ⟨kb, ko, none⟩) c) {j : Nat} (hj : j < ks.length) :
    w.cell? ⟨kb, ko + j * 8, none⟩ = some (.int .i64 (kid j ks).d.k) ∧ w.cell? ⟨kb, ko + j * 8 + 1, none⟩ = some (.string (kid j ks).d.text) := by
  obtain ⟨_, _, _, h0, h1, _⟩ := (kid_at h hj).cells
  exact ⟨h0, h1⟩
set_option maxHeartbeats 8000000 in
set_option maxRecDepth 100000 in
theorem expr_21 (E : Tr → Bs) (d : Nd) (ks : List Tr) (hk : d.k = 21) (hlen : ks.length ≤ 1048576) {B p dd : Nat} {l : Bs} {w : World} {b o : Nat} (hS : Ws B p l dd w) (hA : At w (fun b => b < B) (.mk d ks) b o) (hl : l.length + (s8 d.text).length ≤ most) :
    Calls Tryz.prog 68 #[.pointer (some ⟨p, 0, none⟩), .pointer (some ⟨b, o, none⟩)] w (Post B p l (s8 d.text) dd w) := by
  obtain ⟨a, c, hN⟩ := Nb.start hA
  have HS := Lib.hid hS
  have HL := Lib.hid hl
  have HB := Lib.hid (Below.refl B w)
  have HK : Hid (Keeps p w w) := Lib.OthersKept.refl _ _ _

  have HX := Lib.hid hN
  obtain ⟨k, tx, n, ty, s4, s5, s6⟩ := d
  simp only at hk
  subst hk
  obtain ⟨c0, c1, c2, c3, c7⟩ := HX.out.cells

  clear hS hl hA hN
  go_enter Tryz.func68, Tryz.ntmps68
  go_wp2_with fail
  refine (add1 tx HS.out (by have := HL.out; simp at this ⊢; omega)).mono ?_
  rintro e w1 ⟨rfl, h1, h2, h3⟩
  have HS := Lib.hid h1
  have HX := Lib.hid (HX.out.kept h2)
  have HB := Lib.hid (HB.out.trans h2)
  have HK : Hid (Keeps p w w1) := HK.out.trans h3
  clear h1 h2 h3 c0 c1 c2 c3 c7
  obtain ⟨c0, c1, c2, c3, c7⟩ := HX.out.cells
  go_wp2
  go_end0
  refine ⟨rfl, ?_, HB.out, HK.out⟩
  have := HS.out
  simpa using this
set_option maxHeartbeats 8000000 in
set_option maxRecDepth 100000 in
theorem expr_24 (E : Tr → Bs) (d : Nd) (ks : List Tr) (hk : d.k = 24) (hlen : ks.length ≤ 1048576) {B p dd : Nat} {l : Bs} {w : World} {b o : Nat} (hS : Ws B p l dd w) (hA : At w (fun b => b < B) (.mk d ks) b o) (hl : l.length + ([110, 105, 108]).length ≤ most) :
    Calls Tryz.prog 68 #[.pointer (some ⟨p, 0, none⟩), .pointer (some ⟨b, o, none⟩)] w (Post B p l ([110, 105, 108]) dd w) := by
  obtain ⟨a, c, hN⟩ := Nb.start hA
  have HS := Lib.hid hS
  have HL := Lib.hid hl
  have HB := Lib.hid (Below.refl B w)
  have HK : Hid (Keeps p w w) := Lib.OthersKept.refl _ _ _

  have HX := Lib.hid hN
  obtain ⟨k, tx, n, ty, s4, s5, s6⟩ := d
  simp only at hk
  subst hk
  obtain ⟨c0, c1, c2, c3, c7⟩ := HX.out.cells

  clear hS hl hA hN
  go_enter Tryz.func68, Tryz.ntmps68
  go_wp2_with fail
  refine (add1 ⟨#[110, 105, 108]⟩ HS.out (by have := HL.out; simp at this ⊢; omega)).mono ?_
  rintro e w1 ⟨rfl, h1, h2, h3⟩
  have HS := Lib.hid h1
  have HX := Lib.hid (HX.out.kept h2)
  have HB := Lib.hid (HB.out.trans h2)
  have HK : Hid (Keeps p w w1) := HK.out.trans h3
  clear h1 h2 h3 c0 c1 c2 c3 c7
  obtain ⟨c0, c1, c2, c3, c7⟩ := HX.out.cells
  go_wp2
  go_end0
  refine ⟨rfl, ?_, HB.out, HK.out⟩
  have := HS.out
  simpa using this
set_option maxHeartbeats 8000000 in
set_option maxRecDepth 100000 in
theorem expr_22 (E : Tr → Bs) (d : Nd) (ks : List Tr) (hk : d.k = 22) (hn : Trb.In64 d.n) (hlen : ks.length ≤ 1048576) {B p dd : Nat} {l : Bs} {w : World} {b o : Nat} (hS : Ws B p l dd w) (hA : At w (fun b => b < B) (.mk d ks) b o) (hl : l.length + (Lib.itoa d.n).length ≤ most) :
    Calls Tryz.prog 68 #[.pointer (some ⟨p, 0, none⟩), .pointer (some ⟨b, o, none⟩)] w (Post B p l (Lib.itoa d.n) dd w) := by
  obtain ⟨a, c, hN⟩ := Nb.start hA
  have HS := Lib.hid hS
  have HL := Lib.hid hl
  have HB := Lib.hid (Below.refl B w)
  have HK : Hid (Keeps p w w) := Lib.OthersKept.refl _ _ _

  have HX := Lib.hid hN
  obtain ⟨k, tx, n, ty, s4, s5, s6⟩ := d
  simp only at hk
  subst hk
  obtain ⟨c0, c1, c2, c3, c7⟩ := HX.out.cells
  obtain ⟨s, hs⟩ : ∃ s : ByteArray, s = ⟨(Lib.itoa n).toArray⟩ := ⟨_, rfl⟩
  have HSS : Hid (s.data.toList = Lib.itoa n) := by show _ = _; rw [hs]
  have hI := fun W hW => Twq.int_pow n W hn.1 hn.2 hW
  rw [← hs] at hI
  have HI := Lib.hid hI
  clear hI hs hn
  clear hS hl hA hN
  go_enter Tryz.func68, Tryz.ntmps68
  go_wp2_with fail
  refine (HI.out _ HS.out.toPow).mono ?_
  rintro e w1 ⟨rfl, hb⟩
  have HB := Lib.hid (HB.out.trans (hb.mono HS.out.hB))
  have HK : Hid (Keeps p w w1) := HK.out.trans (keeps_below hb)
  have HX := Lib.hid (HX.out.kept (hb.mono HS.out.hB))
  have HS := Lib.hid (HS.out.kept hb)
  clear hb c0 c1 c2 c3 c7
  obtain ⟨c0, c1, c2, c3, c7⟩ := HX.out.cells
  go_wp2_with fail
  refine (add1 s HS.out (by have := HL.out; rw [HSS.out]; exact this)).mono ?_
  rintro e w2 ⟨rfl, h1, h2, h3⟩
  have HS := Lib.hid h1
  have HX := Lib.hid (HX.out.kept h2)
  have HB := Lib.hid (HB.out.trans h2)
  have HK : Hid (Keeps p w w2) := HK.out.trans h3
  clear h1 h2 h3 c0 c1 c2 c3 c7
  obtain ⟨c0, c1, c2, c3, c7⟩ := HX.out.cells
  go_wp2
  go_end0
  refine ⟨rfl, ?_, HB.out, HK.out⟩
  have := HS.out
  rwa [HSS.out] at this
set_option maxHeartbeats 8000000 in
set_option maxRecDepth 100000 in
theorem expr_25 (E : Tr → Bs) (d : Nd) (ks : List Tr) (hk : d.k = 25) (hx : d.text.size ≤ 35184372088832) (hlen : ks.length ≤ 1048576) {B p dd : Nat} {l : Bs} {w : World} {b o : Nat} (hS : Ws B p l dd w) (hA : At w (fun b => b < B) (.mk d ks) b o) (hl : l.length + (Plw.quote (s8 d.text)).length ≤ most) :
    Calls Tryz.prog 68 #[.pointer (some ⟨p, 0, none⟩), .pointer (some ⟨b, o, none⟩)] w (Post B p l (Plw.quote (s8 d.text)) dd w) := by
  obtain ⟨a, c, hN⟩ := Nb.start hA
  have HS := Lib.hid hS
  have HL := Lib.hid hl
  have HB := Lib.hid (Below.refl B w)
  have HK : Hid (Keeps p w w) := Lib.OthersKept.refl _ _ _

  have HX := Lib.hid hN
  obtain ⟨k, tx, n, ty, s4, s5, s6⟩ := d
  simp only at hk
  subst hk
  obtain ⟨c0, c1, c2, c3, c7⟩ := HX.out.cells
  obtain ⟨s, hs⟩ : ∃ s : ByteArray, s = ⟨(Plw.quote tx.data.toList).toArray⟩ := ⟨_, rfl⟩
  have HSS : Hid (s.data.toList = Plw.quote tx.data.toList) := by show _ = _; rw [hs]
  have hI := fun W => Tqu.quote_any tx W hx
  rw [← hs] at hI
  have HI := Lib.hid hI
  clear hI hs hx
  clear hS hl hA hN
  go_enter Tryz.func68, Tryz.ntmps68
  go_wp2_with fail
  refine (HI.out _).mono ?_
  rintro e w1 ⟨rfl, hb⟩
  have HB := Lib.hid (HB.out.trans (hb.mono HS.out.hB))
  have HK : Hid (Keeps p w w1) := HK.out.trans (keeps_below hb)
  have HX := Lib.hid (HX.out.kept (hb.mono HS.out.hB))
  have HS := Lib.hid (HS.out.kept hb)
  clear hb c0 c1 c2 c3 c7
  obtain ⟨c0, c1, c2, c3, c7⟩ := HX.out.cells
  go_wp2_with fail
  refine (add1 s HS.out (by have := HL.out; rw [HSS.out]; exact this)).mono ?_
  rintro e w2 ⟨rfl, h1, h2, h3⟩
  have HS := Lib.hid h1
  have HX := Lib.hid (HX.out.kept h2)
  have HB := Lib.hid (HB.out.trans h2)
  have HK : Hid (Keeps p w w2) := HK.out.trans h3
  clear h1 h2 h3 c0 c1 c2 c3 c7
  obtain ⟨c0, c1, c2, c3, c7⟩ := HX.out.cells
  go_wp2
  go_end0
  refine ⟨rfl, ?_, HB.out, HK.out⟩
  have := HS.out
  rwa [HSS.out] at this
set_option maxHeartbeats 8000000 in
set_option maxRecDepth 100000 in
theorem expr_23_0 (E : Tr → Bs) (d : Nd) (ks : List Tr) (hk : d.k = 23) (hn : d.n = 0) (hlen : ks.length ≤ 1048576) {B p dd : Nat} {l : Bs} {w : World} {b o : Nat} (hS : Ws B p l dd w) (hA : At w (fun b => b < B) (.mk d ks) b o) (hl : l.length + (([102, 97, 108, 115, 101] : Bs)).length ≤ most) :
    Calls Tryz.prog 68 #[.pointer (some ⟨p, 0, none⟩), .pointer (some ⟨b, o, none⟩)] w (Post B p l (([102, 97, 108, 115, 101] : Bs)) dd w) := by
  obtain ⟨a, c, hN⟩ := Nb.start hA
  have HS := Lib.hid hS
  have HL := Lib.hid hl
  have HB := Lib.hid (Below.refl B w)
  have HK : Hid (Keeps p w w) := Lib.OthersKept.refl _ _ _

  have HX := Lib.hid hN
  obtain ⟨k, tx, n, ty, s4, s5, s6⟩ := d
  simp only at hk
  subst hk
  obtain ⟨c0, c1, c2, c3, c7⟩ := HX.out.cells
  simp only at hn
  subst hn
  have hlt : b < w.heap.size := Nat.lt_of_lt_of_le HX.out.lt HS.out.hB
  clear hS hl hA hN
  go_enter Tryz.func68, Tryz.ntmps68
  go_wp2_with fail
  obtain ⟨W2, hW2⟩ : ∃ W2, w.alloc (.cells #[.string ⟨#[102, 97, 108, 115, 101]⟩, .string ⟨#[116, 114, 117, 101]⟩] 9) = W2 := ⟨_, rfl⟩
  have hb : Below w.heap.size w W2 := by rw [← hW2]; exact (Below.refl _ w).alloc (Nat.le_refl _) _
  have hz : W2.heap.size = w.heap.size + 1 := by rw [← hW2]; simp
  rw [hW2, ← hz]
  have HB := Lib.hid (HB.out.trans (hb.mono HS.out.hB))
  have HK : Hid (Keeps p w W2) := HK.out.trans (keeps_below hb)
  have HX := Lib.hid (HX.out.kept (hb.mono HS.out.hB))
  have HS := Lib.hid (HS.out.kept hb)
  clear hb hz hW2 c0 c1 c2 c3 c7
  obtain ⟨c0, c1, c2, c3, c7⟩ := HX.out.cells
  refine (add1 ⟨#[102, 97, 108, 115, 101]⟩ HS.out (by have := HL.out; simp at this ⊢; omega)).mono ?_
  rintro e w1 ⟨rfl, h1, h2, h3⟩
  have HS := Lib.hid h1
  have HX := Lib.hid (HX.out.kept h2)
  have HB := Lib.hid (HB.out.trans h2)
  have HK : Hid (Keeps p w w1) := HK.out.trans h3
  clear h1 h2 h3 c0 c1 c2 c3 c7
  obtain ⟨c0, c1, c2, c3, c7⟩ := HX.out.cells
  go_wp2
  go_end0
  refine ⟨rfl, ?_, HB.out, HK.out⟩
  have := HS.out
  simpa using this
set_option maxHeartbeats 8000000 in
set_option maxRecDepth 100000 in
theorem expr_23_1 (E : Tr → Bs) (d : Nd) (ks : List Tr) (hk : d.k = 23) (hn : d.n = 1) (hlen : ks.length ≤ 1048576) {B p dd : Nat} {l : Bs} {w : World} {b o : Nat} (hS : Ws B p l dd w) (hA : At w (fun b => b < B) (.mk d ks) b o) (hl : l.length + (([116, 114, 117, 101] : Bs)).length ≤ most) :
    Calls Tryz.prog 68 #[.pointer (some ⟨p, 0, none⟩), .pointer (some ⟨b, o, none⟩)] w (Post B p l (([116, 114, 117, 101] : Bs)) dd w) := by
  obtain ⟨a, c, hN⟩ := Nb.start hA
  have HS := Lib.hid hS
  have HL := Lib.hid hl
  have HB := Lib.hid (Below.refl B w)
  have HK : Hid (Keeps p w w) := Lib.OthersKept.refl _ _ _

  have HX := Lib.hid hN
  obtain ⟨k, tx, n, ty, s4, s5, s6⟩ := d
  simp only at hk
  subst hk
  obtain ⟨c0, c1, c2, c3, c7⟩ := HX.out.cells
  simp only at hn
  subst hn
  have hlt : b < w.heap.size := Nat.lt_of_lt_of_le HX.out.lt HS.out.hB
  clear hS hl hA hN
  go_enter Tryz.func68, Tryz.ntmps68
  go_wp2_with fail
  obtain ⟨W2, hW2⟩ : ∃ W2, w.alloc (.cells #[.string ⟨#[102, 97, 108, 115, 101]⟩, .string ⟨#[116, 114, 117, 101]⟩] 9) = W2 := ⟨_, rfl⟩
  have hb : Below w.heap.size w W2 := by rw [← hW2]; exact (Below.refl _ w).alloc (Nat.le_refl _) _
  have hz : W2.heap.size = w.heap.size + 1 := by rw [← hW2]; simp
  rw [hW2, ← hz]
  have HB := Lib.hid (HB.out.trans (hb.mono HS.out.hB))
  have HK : Hid (Keeps p w W2) := HK.out.trans (keeps_below hb)
  have HX := Lib.hid (HX.out.kept (hb.mono HS.out.hB))
  have HS := Lib.hid (HS.out.kept hb)
  clear hb hz hW2 c0 c1 c2 c3 c7
  obtain ⟨c0, c1, c2, c3, c7⟩ := HX.out.cells
  refine (add1 ⟨#[116, 114, 117, 101]⟩ HS.out (by have := HL.out; simp at this ⊢; omega)).mono ?_
  rintro e w1 ⟨rfl, h1, h2, h3⟩
  have HS := Lib.hid h1
  have HX := Lib.hid (HX.out.kept h2)
  have HB := Lib.hid (HB.out.trans h2)
  have HK : Hid (Keeps p w w1) := HK.out.trans h3
  clear h1 h2 h3 c0 c1 c2 c3 c7
  obtain ⟨c0, c1, c2, c3, c7⟩ := HX.out.cells
  go_wp2
  go_end0
  refine ⟨rfl, ?_, HB.out, HK.out⟩
  have := HS.out
  simpa using this
set_option maxHeartbeats 8000000 in
set_option maxRecDepth 100000 in
theorem expr_28 (E : Tr → Bs) (d : Nd) (ks : List Tr) (hk : d.k = 28) (hlen : ks.length ≤ 1048576) (hE : ∀ j, j < ks.length → Writes 68 (E (kid j ks)) (kid j ks)) {B p dd : Nat} {l : Bs} {w : World} {b o : Nat} (hS : Ws B p l dd w) (hA : At w (fun b => b < B) (.mk d ks) b o) (hl : l.length + (callX E d ks).length ≤ most) :
    Calls Tryz.prog 68 #[.pointer (some ⟨p, 0, none⟩), .pointer (some ⟨b, o, none⟩)] w (Post B p l (callX E d ks) dd w) := by
  obtain ⟨a, c, hN⟩ := Nb.start hA
  have HE := Lib.hid hE
  have HS := Lib.hid hS
  have HL := Lib.hid hl
  have HB := Lib.hid (Below.refl B w)
  have HK : Hid (Keeps p w w) := Lib.OthersKept.refl _ _ _
  unfold callX at HL ⊢
  have HX := Lib.hid hN
  obtain ⟨k, tx, n, ty, s4, s5, s6⟩ := d
  simp only at hk
  subst hk
  obtain ⟨c0, c1, c2, c3, c7⟩ := HX.out.cells

  clear hE hS hl hA hN
  go_enter Tryz.func68, Tryz.ntmps68
  go_wp2_with fail
  refine (add2 tx ⟨#[40]⟩ HS.out (by have := HL.out; simp at this ⊢; omega)).mono ?_
  rintro e w1 ⟨rfl, h1, h2, h3⟩
  have HS := Lib.hid h1
  have HX := Lib.hid (HX.out.kept h2)
  have HB := Lib.hid (HB.out.trans h2)
  have HK : Hid (Keeps p w w1) := HK.out.trans h3
  clear h1 h2 h3 c0 c1 c2 c3 c7
  obtain ⟨c0, c1, c2, c3, c7⟩ := HX.out.cells
  go_wp2_with fail
  refine (list_any E ks _ _ hlen HE.out HS.out HX.out.kl (by have := HL.out; simp at this ⊢; omega)).mono ?_
  rintro e w2 ⟨rfl, h1, h2, h3⟩
  have HS := Lib.hid h1
  have HX := Lib.hid (HX.out.kept h2)
  have HB := Lib.hid (HB.out.trans h2)
  have HK : Hid (Keeps p w w2) := HK.out.trans h3
  clear h1 h2 h3 c0 c1 c2 c3 c7
  obtain ⟨c0, c1, c2, c3, c7⟩ := HX.out.cells
  go_wp2_with fail
  refine (add1 ⟨#[41]⟩ HS.out (by have := HL.out; simp at this ⊢; omega)).mono ?_
  rintro e w3 ⟨rfl, h1, h2, h3⟩
  have HS := Lib.hid h1
  have HX := Lib.hid (HX.out.kept h2)
  have HB := Lib.hid (HB.out.trans h2)
  have HK : Hid (Keeps p w w3) := HK.out.trans h3
  clear h1 h2 h3 c0 c1 c2 c3 c7
  obtain ⟨c0, c1, c2, c3, c7⟩ := HX.out.cells
  go_wp2
  go_end0
  refine ⟨rfl, ?_, HB.out, HK.out⟩
  have := HS.out
  simpa using this
set_option maxHeartbeats 8000000 in
set_option maxRecDepth 100000 in
theorem expr_29_0 (E : Tr → Bs) (d : Nd) (ks : List Tr) (hk : d.k = 29) (h0 : ks = []) (hlen : ks.length ≤ 1048576) (hE : ∀ j, j < ks.length → Writes 68 (E (kid j ks)) (kid j ks)) {B p dd : Nat} {l : Bs} {w : World} {b o : Nat} (hS : Ws B p l dd w) (hA : At w (fun b => b < B) (.mk d ks) b o) (hl : l.length + (makeX E d ks).length ≤ most) :
    Calls Tryz.prog 68 #[.pointer (some ⟨p, 0, none⟩), .pointer (some ⟨b, o, none⟩)] w (Post B p l (makeX E d ks) dd w) := by
  obtain ⟨a, c, hN⟩ := Nb.start hA
  have HE := Lib.hid hE
  have HS := Lib.hid hS
  have HL := Lib.hid hl
  have HB := Lib.hid (Below.refl B w)
  have HK : Hid (Keeps p w w) := Lib.OthersKept.refl _ _ _
  unfold makeX at HL ⊢
  rw [h0] at HL ⊢
  simp only [List.length_nil, Nat.zero_ne_one, if_false] at HL ⊢
  have HX := Lib.hid hN
  obtain ⟨k, tx, n, ty, s4, s5, s6⟩ := d
  simp only at hk
  subst hk
  obtain ⟨c0, c1, c2, c3, c7⟩ := HX.out.cells
  have hk1 : ks.length = 0 := by rw [h0]; rfl
  have HN0 := Lib.hid hk1
  rw [hk1] at c7
  clear hk1
  clear h0
  clear hE hS hl hA hN
  go_enter Tryz.func68, Tryz.ntmps68
  go_wp2_with fail
  refine (add2 ⟨#[109, 97, 107, 101, 40]⟩ ty HS.out (by have := HL.out; simp at this ⊢; omega)).mono ?_
  rintro e w1 ⟨rfl, h1, h2, h3⟩
  have HS := Lib.hid h1
  have HX := Lib.hid (HX.out.kept h2)
  have HB := Lib.hid (HB.out.trans h2)
  have HK : Hid (Keeps p w w1) := HK.out.trans h3
  clear h1 h2 h3 c0 c1 c2 c3 c7
  obtain ⟨c0, c1, c2, c3, c7⟩ := HX.out.cells
  rw [HN0.out] at c7
  go_wp2_with fail
  refine (add1 ⟨#[41]⟩ HS.out (by have := HL.out; simp at this ⊢; omega)).mono ?_
  rintro e w2 ⟨rfl, h1, h2, h3⟩
  have HS := Lib.hid h1
  have HX := Lib.hid (HX.out.kept h2)
  have HB := Lib.hid (HB.out.trans h2)
  have HK : Hid (Keeps p w w2) := HK.out.trans h3
  clear h1 h2 h3 c0 c1 c2 c3 c7
  obtain ⟨c0, c1, c2, c3, c7⟩ := HX.out.cells
  rw [HN0.out] at c7
  go_wp2
  go_end0
  refine ⟨rfl, ?_, HB.out, HK.out⟩
  have := HS.out
  simpa using this
set_option maxHeartbeats 8000000 in
set_option maxRecDepth 100000 in
theorem expr_29_1 (E : Tr → Bs) (d : Nd) (ks : List Tr) (hk : d.k = 29) (h1 : ks.length = 1) (hlen : ks.length ≤ 1048576) (hE : ∀ j, j < ks.length → Writes 68 (E (kid j ks)) (kid j ks)) {B p dd : Nat} {l : Bs} {w : World} {b o : Nat} (hS : Ws B p l dd w) (hA : At w (fun b => b < B) (.mk d ks) b o) (hl : l.length + (makeX E d ks).length ≤ most) :
    Calls Tryz.prog 68 #[.pointer (some ⟨p, 0, none⟩), .pointer (some ⟨b, o, none⟩)] w (Post B p l (makeX E d ks) dd w) := by
  obtain ⟨a, c, hN⟩ := Nb.start hA
  have HE := Lib.hid hE
  have HS := Lib.hid hS
  have HL := Lib.hid hl
  have HB := Lib.hid (Below.refl B w)
  have HK : Hid (Keeps p w w) := Lib.OthersKept.refl _ _ _
  unfold makeX at HL ⊢
  rw [if_pos h1] at HL ⊢
  have hk0 : 0 < ks.length := by omega
  obtain ⟨kb, ko, rfl⟩ := kl_some' hN.kl hk0
  have HX := Lib.hid hN
  obtain ⟨k, tx, n, ty, s4, s5, s6⟩ := d
  simp only at hk
  subst hk
  obtain ⟨c0, c1, c2, c3, c7⟩ := HX.out.cells
  have HN0 := Lib.hid h1
  rw [h1] at c7
  clear h1
  clear hE hS hl hA hN
  go_enter Tryz.func68, Tryz.ntmps68
  go_wp2_with fail
  refine (add2 ⟨#[109, 97, 107, 101, 40]⟩ ty HS.out (by have := HL.out; simp at this ⊢; omega)).mono ?_
  rintro e w1 ⟨rfl, h1, h2, h3⟩
  have HS := Lib.hid h1
  have HX := Lib.hid (HX.out.kept h2)
  have HB := Lib.hid (HB.out.trans h2)
  have HK : Hid (Keeps p w w1) := HK.out.trans h3
  clear h1 h2 h3 c0 c1 c2 c3 c7
  obtain ⟨c0, c1, c2, c3, c7⟩ := HX.out.cells
  rw [HN0.out] at c7
  go_wp2_with fail
  refine (add1 ⟨#[44, 32]⟩ HS.out (by have := HL.out; simp at this ⊢; omega)).mono ?_
  rintro e w2 ⟨rfl, h1, h2, h3⟩
  have HS := Lib.hid h1
  have HX := Lib.hid (HX.out.kept h2)
  have HB := Lib.hid (HB.out.trans h2)
  have HK : Hid (Keeps p w w2) := HK.out.trans h3
  clear h1 h2 h3 c0 c1 c2 c3 c7
  obtain ⟨c0, c1, c2, c3, c7⟩ := HX.out.cells
  rw [HN0.out] at c7
  go_wp2_with fail
  refine (HE.out 0 hk0 B p dd _ _ _ _ HS.out (kid_at HX.out hk0) (by have := HL.out; simp at this ⊢; omega)).mono ?_
  rintro e w3 ⟨rfl, h1, h2, h3⟩
  have HS := Lib.hid h1
  have HX := Lib.hid (HX.out.kept h2)
  have HB := Lib.hid (HB.out.trans h2)
  have HK : Hid (Keeps p w w3) := HK.out.trans h3
  clear h1 h2 h3 c0 c1 c2 c3 c7
  obtain ⟨c0, c1, c2, c3, c7⟩ := HX.out.cells
  rw [HN0.out] at c7
  go_wp2_with fail
  refine (add1 ⟨#[41]⟩ HS.out (by have := HL.out; simp at this ⊢; omega)).mono ?_
  rintro e w4 ⟨rfl, h1, h2, h3⟩
  have HS := Lib.hid h1
  have HX := Lib.hid (HX.out.kept h2)
  have HB := Lib.hid (HB.out.trans h2)
  have HK : Hid (Keeps p w w4) := HK.out.trans h3
  clear h1 h2 h3 c0 c1 c2 c3 c7
  obtain ⟨c0, c1, c2, c3, c7⟩ := HX.out.cells
  rw [HN0.out] at c7
  go_wp2
  go_end0
  refine ⟨rfl, ?_, HB.out, HK.out⟩
  have := HS.out
  simpa using this
end Go.Proofs.YtgodeffkboihlaaGreatDoor.Twe
