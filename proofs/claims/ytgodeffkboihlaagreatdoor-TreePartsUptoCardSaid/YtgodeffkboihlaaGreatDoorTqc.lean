/- tree.clauses$1 where number, shape and block are right. -/
import Derived.Test.YtgodeffkboihlaaGreatDoorM5
import Derived.StillTailTactics
set_option linter.unusedVariables false
namespace Go.Proofs.YtgodeffkboihlaaGreatDoor.Tqc
open Go.RowKit Go.Sort Tra Trb Trf Trd Tcn Trh Tha Nam Txa Tpr Tyq Txe Txg Txs Txi Txu Txv Txw Tqb Tpt

/-- What the closure captured: the counter at q, the test at r. -/
structure Cap (F : FuncId) (q r c : Nat) (w : World) : Prop where
  q : w.heap[q]? = some (.cells #[.int .i64 c] 3 (0, 0))
  r : w.heap[r]? = some (.cells #[.func (.func F) #[] #[]] 43 (0, 0))
variable {F : FuncId} {q r c B : Nat} {w w' : World}
theorem Cap.kept (h : Cap F q r c w) (hb : Below w.heap.size w w') : Cap F q r c w' :=
  ⟨(hb.block q (Array.getElem?_eq_some_iff.1 h.q).1).trans h.q, (hb.block r (Array.getElem?_eq_some_iff.1 h.r).1).trans h.r⟩
theorem Cap.ne (h : Cap F q r c w) : q ≠ r := by
  intro e; have h1 := h.q; rw [e, h.r] at h1; simp at h1
theorem Cap.set (h : Cap F q r c w) (n : Nat) : Cap F q r n (w.setCell ⟨q, 0, none⟩ (.int .i64 n)) := by
  refine ⟨?_, ?_⟩
  · simp [World.setCell, Array.getElem?_modify, h.q]
  · rw [Below.heap_setCell _ _ _ _ (fun e => h.ne e.symm)]; exact h.r
set_option maxHeartbeats 8000000 in
set_option maxRecDepth 100000 in
theorem clause_is (P is : Tr → Bool) (d : Nd) (ks : List Tr) (m : Nat) (hm : ks.length = m + 1) (hF : Fit (.mk d ks)) (hn : d.n = 0) (hh : hasB false false true d = true) (hbk : blockT P (kn m ks) = true) (ihb : Pays 38 (blockT P) (ks.getD m tr0))
    (hf : Enters Tryz.prog F) (hi : Pays F is (.mk d ks)) (hc : c ≤ 1048576) (b o : Nat) (hC : Cap F q r c w) (hBq : B ≤ q) (hBr : B ≤ r) (hA : At w (fun b => b < B) (.mk d ks) b o) :
    Calls Tryz.prog 144 #[.pointer (some ⟨b, o, none⟩), .pointer (some ⟨q, 0, none⟩), .pointer (some ⟨r, 0, none⟩)] w fun e w' => e = .returned (.bool (is (.mk d ks))) ∧ Cap F q r (c + 0) w' ∧ Below B w w' := by
  obtain ⟨a, cc, hN⟩ := Nod.start hA
  have hlen := fit_len hF
  have hm1 : m < ks.length := by omega
  obtain ⟨kb, ko, rfl⟩ := kl_some hN.kl (by omega)
  have hBw : B ≤ w.heap.size := Nat.le_trans hBq (Nat.le_of_lt (Array.getElem?_eq_some_iff.1 hC.q).1)
  have H := reg (w := w) (f := 24) (args := #[.pointer (some ⟨b, o, none⟩), .int .i64 4]) (v := .bool true) fun W hb => by
    obtain ⟨x0, x1, x2, x3, _⟩ := (hN.kept hb).cells
    have := same_below (has_4 d b o W x0 x1 x2 x3)
    rw [hh] at this; exact this
  have H2 := reg (w := w) (f := 38) (args := #[.pointer (some ⟨kb, ko + m * 8, none⟩)]) (v := .bool true) fun W hb => by
    have := ihb _ _ _ W (kl_at (hN.kept hb).kl hm1)
    rw [show ks.getD m tr0 = kn m ks from rfl, hbk] at this; exact this
  obtain ⟨res, hres⟩ : ∃ x, is (.mk d ks) = x := ⟨_, rfl⟩
  unfold Pays at hi
  rw [hres] at hi
  rw [hres]
  have HI := fun W h => hi (fun _ => True) b o W h
  have HN := Lib.hid hN
  have HC := Lib.hid hC
  have HAB := Lib.hid (fun W (h : Below B w W) => (at_below hA (fun b h => h) h).mono (S' := fun _ => True) fun _ _ _ => trivial)
  have hbB : b < B := hA.1
  obtain ⟨k, tx, n, ty, s4, s5, s6⟩ := d
  obtain ⟨c0, c1, c2, c3, c4, c5, c6, c7⟩ := hN.cells
  obtain ⟨L, hL⟩ : ∃ L, ks.length = L := ⟨_, rfl⟩
  rw [hL] at c7 hm hlen
  have g2 := cell_regrown c2
  have g7 := cell_regrown c7
  have hlt := hN.lt
  have hz : ((L : Int) == 0) = false := beq_false_of_ne (by omega)
  have hw1 : IntKind.i64.wrap (m : Int) = (m : Int) := IntWalk.i64_in _ (by omega)
  have hsub : (L : Int) - 1 = (m : Int) := by omega
  have hlt2 : (m : Int) < (L : Int) := by omega
  have HM := Lib.hid hm
  have HL := Lib.hid hL
  have hm0 : (0 : Int) ≤ (m : Int) := by omega
  simp only at hn
  subst hn
  have he : ∀ (args : Array Value) (w : World), (callFunc F args).run Tryz.prog w = .ok (.enter F args) w := hf
  clear hA hF hN hh hbk ihb hm1 hm hL hi hres hC
  go_enter Tryz.func144, Tryz.ntmps144
  go_wp2_with fail
  refine wp_region_quiet_below (by kernel_rfl) (by kernel_rfl) ?_
  repeat (go_big_quiet_step (first | exact H.out _ _ | exact H2.out _ _ | fail))
  refine wpQuiet_nil ?_
  intro w4 hw4
  have hb4 := Drw.cls_below (w := w) hw4
  have HB4 := Lib.hid (hb4.mono hBw)
  have HC4 := Lib.hid (HC.out.kept hb4)
  have HN4 := Lib.hid (HN.out.kept hb4)
  clear hw4 c0 c1 c2 c3 c4 c5 c6 c7 g2 g7 hb4
  obtain ⟨c0, c1, c2, c3, c4, c5, c6, c7⟩ := HN4.out.cells
  rw [HL.out] at c7
  have q0 : w4.cell? ⟨q, 0, none⟩ = some (.int .i64 c) := by rw [Lib.cell_of_heap HC4.out.q]; rfl
  have q1 : w4.frozen? ⟨q, 0, none⟩ = false := Lib.frozen_of_heap HC4.out.q 0
  have hqb : q ≠ b := by omega
  have hbq : b ≠ q := by omega
  have r0 : w4.cell? ⟨r, 0, none⟩ = some (.func (.func F) #[] #[]) := by rw [Lib.cell_of_heap HC4.out.r]; rfl
  have hrq : r ≠ q := fun e => HC.out.ne e.symm
  have hwc : IntKind.i64.wrap (c : Int) = (c : Int) := IntWalk.i64_in _ (by omega)
  go_wp2_with fail
  go_still_tail 6, (by kernel_rfl)
  change wpList _ _ _ _ _ w4.drew
  go_wp2
  have HB5 : Hid (Below B w ((w4.setCell ⟨q, 0, none⟩ (.int .i64 c)).drew)) := (HB4.out.setCell (p := ⟨q, 0, none⟩) hBq _).drew
  have HC5 : Hid (Cap F q r c (w4.setCell ⟨q, 0, none⟩ (.int .i64 c))) := HC4.out.set c
  have HC5' : Hid (Cap F q r c ((w4.setCell ⟨q, 0, none⟩ (.int .i64 c)).drew)) := ⟨HC5.out.q, HC5.out.r⟩
  refine (HI _ (HAB.out _ HB5.out)).mono ?_
  rintro e w5 ⟨rfl, hb5⟩
  have HB6 := Lib.hid (HB5.out.trans (hb5.mono (Nat.le_trans hBw HB5.out.size)))
  have HC6 := Lib.hid (HC5'.out.kept hb5)
  clear hb5
  go_wp2
  go_ret
  exact ⟨rfl, HC6.out, HB6.out⟩
set_option maxHeartbeats 8000000 in
set_option maxRecDepth 100000 in
theorem clause_def (P is : Tr → Bool) (d : Nd) (ks : List Tr) (m : Nat) (hm : ks.length = m + 1) (hF : Fit (.mk d ks)) (hn : d.n = 1) (hh : hasB false false true d = true) (hbk : blockT P (kn m ks) = true) (ihb : Pays 38 (blockT P) (ks.getD m tr0))
    (hf : Enters Tryz.prog F) (hi : Pays F is (.mk d ks)) (hc : c ≤ 1048576) (b o : Nat) (hC : Cap F q r c w) (hBq : B ≤ q) (hBr : B ≤ r) (hA : At w (fun b => b < B) (.mk d ks) b o) :
    Calls Tryz.prog 144 #[.pointer (some ⟨b, o, none⟩), .pointer (some ⟨q, 0, none⟩), .pointer (some ⟨r, 0, none⟩)] w fun e w' => e = .returned (.bool (c == 0 && ks.length == 1)) ∧ Cap F q r (c + 1) w' ∧ Below B w w' := by
  obtain ⟨a, cc, hN⟩ := Nod.start hA
  have hlen := fit_len hF
  have hm1 : m < ks.length := by omega
  obtain ⟨kb, ko, rfl⟩ := kl_some hN.kl (by omega)
  have hBw : B ≤ w.heap.size := Nat.le_trans hBq (Nat.le_of_lt (Array.getElem?_eq_some_iff.1 hC.q).1)
  have H := reg (w := w) (f := 24) (args := #[.pointer (some ⟨b, o, none⟩), .int .i64 4]) (v := .bool true) fun W hb => by
    obtain ⟨x0, x1, x2, x3, _⟩ := (hN.kept hb).cells
    have := same_below (has_4 d b o W x0 x1 x2 x3)
    rw [hh] at this; exact this
  have H2 := reg (w := w) (f := 38) (args := #[.pointer (some ⟨kb, ko + m * 8, none⟩)]) (v := .bool true) fun W hb => by
    have := ihb _ _ _ W (kl_at (hN.kept hb).kl hm1)
    rw [show ks.getD m tr0 = kn m ks from rfl, hbk] at this; exact this
  obtain ⟨res, hres⟩ : ∃ x, is (.mk d ks) = x := ⟨_, rfl⟩
  unfold Pays at hi
  rw [hres] at hi
  have HI := fun W h => hi (fun _ => True) b o W h
  have HN := Lib.hid hN
  have HC := Lib.hid hC
  have HAB := Lib.hid (fun W (h : Below B w W) => (at_below hA (fun b h => h) h).mono (S' := fun _ => True) fun _ _ _ => trivial)
  have hbB : b < B := hA.1
  obtain ⟨k, tx, n, ty, s4, s5, s6⟩ := d
  obtain ⟨c0, c1, c2, c3, c4, c5, c6, c7⟩ := hN.cells
  obtain ⟨L, hL⟩ : ∃ L, ks.length = L := ⟨_, rfl⟩
  rw [hL] at c7 hm hlen
  have g2 := cell_regrown c2
  have g7 := cell_regrown c7
  have hlt := hN.lt
  have hz : ((L : Int) == 0) = false := beq_false_of_ne (by omega)
  have hw1 : IntKind.i64.wrap (m : Int) = (m : Int) := IntWalk.i64_in _ (by omega)
  have hsub : (L : Int) - 1 = (m : Int) := by omega
  have hlt2 : (m : Int) < (L : Int) := by omega
  have HM := Lib.hid hm
  have HL := Lib.hid hL
  have hm0 : (0 : Int) ≤ (m : Int) := by omega
  simp only at hn
  subst hn
  have he : ∀ (args : Array Value) (w : World), (callFunc F args).run Tryz.prog w = .ok (.enter F args) w := hf
  rw [hL]
  obtain ⟨n1, hn1⟩ : ∃ n1 : Nat, c + 1 = n1 := ⟨_, rfl⟩
  rw [hn1]
  have hsum : (c : Int) + 1 = (n1 : Int) := by omega
  have hwc : IntKind.i64.wrap (n1 : Int) = (n1 : Int) := IntWalk.i64_in _ (by omega)
  have hcz : (c == 0) = (n1 == 1) := by
    by_cases h : c = 0
    · subst h; subst hn1; rfl
    · rw [beq_false_of_ne h, beq_false_of_ne (by omega)]
  rw [hcz]
  obtain ⟨p0, hp0, hp0'⟩ : ∃ p0, ((n1 : Int) == 1) = p0 ∧ (n1 == 1) = p0 := by
    by_cases h : n1 = 1
    · exact ⟨true, by simp [h], by simp [h]⟩
    · exact ⟨false, beq_false_of_ne (by omega), beq_false_of_ne h⟩
  obtain ⟨p1, hp1, hp1'⟩ : ∃ p1, ((L : Int) == 1) = p1 ∧ (L == 1) = p1 := by
    by_cases h : L = 1
    · exact ⟨true, by simp [h], by simp [h]⟩
    · exact ⟨false, beq_false_of_ne (by omega), beq_false_of_ne h⟩
  rw [hp0', hp1']
  have HN1 := Lib.hid hn1
  clear hcz hp0' hp1' hn1
  clear hA hF hN hh hbk ihb hm1 hm hL hi hres hC
  go_enter Tryz.func144, Tryz.ntmps144
  go_wp2_with fail
  refine wp_region_quiet_below (by kernel_rfl) (by kernel_rfl) ?_
  repeat (go_big_quiet_step (first | exact H.out _ _ | exact H2.out _ _ | fail))
  refine wpQuiet_nil ?_
  intro w4 hw4
  have hb4 := Drw.cls_below (w := w) hw4
  have HB4 := Lib.hid (hb4.mono hBw)
  have HC4 := Lib.hid (HC.out.kept hb4)
  have HN4 := Lib.hid (HN.out.kept hb4)
  clear hw4 c0 c1 c2 c3 c4 c5 c6 c7 g2 g7 hb4
  obtain ⟨c0, c1, c2, c3, c4, c5, c6, c7⟩ := HN4.out.cells
  rw [HL.out] at c7
  have q0 : w4.cell? ⟨q, 0, none⟩ = some (.int .i64 c) := by rw [Lib.cell_of_heap HC4.out.q]; rfl
  have q1 : w4.frozen? ⟨q, 0, none⟩ = false := Lib.frozen_of_heap HC4.out.q 0
  have hqb : q ≠ b := by omega
  have hbq : b ≠ q := by omega
  have r0 : w4.cell? ⟨r, 0, none⟩ = some (.func (.func F) #[] #[]) := by rw [Lib.cell_of_heap HC4.out.r]; rfl
  have hrq : r ≠ q := fun e => HC.out.ne e.symm
  go_wp2_with fail
  go_still_tail 6, (by kernel_rfl)
  change wpList _ _ _ _ _ w4.drew
  have HB5 : Hid (Below B w ((w4.setCell ⟨q, 0, none⟩ (.int .i64 n1)).drew)) := (HB4.out.setCell (p := ⟨q, 0, none⟩) hBq _).drew
  have HC5 : Hid (Cap F q r n1 (w4.setCell ⟨q, 0, none⟩ (.int .i64 n1))) := HC4.out.set n1
  have HC5' : Hid (Cap F q r n1 ((w4.setCell ⟨q, 0, none⟩ (.int .i64 n1)).drew)) := ⟨HC5.out.q, HC5.out.r⟩
  cases p0
  · go_wp2
    go_ret
    exact ⟨rfl, HC5'.out, HB5.out⟩
  · cases p1
    all_goals
      go_wp2
      go_ret
      exact ⟨rfl, HC5'.out, HB5.out⟩
end Go.Proofs.YtgodeffkboihlaaGreatDoor.Tqc
