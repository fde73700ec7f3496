/- tree's writer: clauses. Printed by mkclw.py. -/
import Derived.Test.YtgodeffkboihlaaGreatDoorTwj
set_option linter.unusedVariables false
namespace Go.Proofs.YtgodeffkboihlaaGreatDoor.Twk
open Go.RowKit Tra Trb Trf Trd Tcn Trh Tha Txa Tpr Tpt Twa Twb Twc Twd Twe Twj

/-- What is asked of a clause that is written. -/
structure ClauseOk (E : Tr → Bs) (S : Nat → Tr → Bs) (t : Tr) : Prop where
  pos : 0 < t.kids.length
  head : t.d.n = 1 ∨ (t.d.n ≠ 1 ∧ t.d.k = 14 ∧ ∀ i, i < t.kids.length - 1 → Writes 68 (E (kid i t.kids)) (kid i t.kids)) ∨ (t.d.n ≠ 1 ∧ t.d.k ≠ 14 ∧ Writes 71 (simpleTx E (kid 0 t.kids)) (kid 0 t.kids))
  lines : ∀ i, i < (kid (t.kids.length - 1) t.kids).kids.length → WritesS 52 (fun k => S k (kid i (kid (t.kids.length - 1) t.kids).kids)) (kid i (kid (t.kids.length - 1) t.kids).kids)
theorem clausesTo_le (E : Tr → Bs) (S : Nat → Tr → Bs) (k : Nat) (ks : List Tr) {m n : Nat} (h : m ≤ n) : (clausesTo E S k ks m).length ≤ (clausesTo E S k ks n).length := by
  induction n with
  | zero => obtain rfl : m = 0 := by omega
            exact Nat.le_refl _
  | succ n ih =>
    by_cases e : m = n + 1
    · subst e; exact Nat.le_refl _
    · have := ih (by omega); simp only [clausesTo, List.length_append]; omega
variable {B p k : Nat} {l : Bs} {w : World}
set_option maxHeartbeats 8000000 in
set_option maxRecDepth 100000 in
theorem clauses_writes (E : Tr → Bs) (S : Nat → Tr → Bs) (ks : List Tr) (a : Option Addr) (c : Nat) (hlen : ks.length ≤ 1048576) (hF : ∀ j, j < ks.length → Fit (kid j ks)) (hok : ∀ j, j < ks.length → ClauseOk E S (kid j ks)) (hS : Ws B p l k w) (hk : k + 1 + sizes ks ≤ 1000000000000) (hK : KL w (fun b => b < B) ks a) (hl : l.length + (clausesX E S k ks).length ≤ most) :
    Calls Tryz.prog 70 #[.pointer (some ⟨p, 0, none⟩), .slice a ks.length c] w (Post B p l (clausesX E S k ks) k w) := by
  have HS := Lib.hid hS
  have HKK := Lib.hid hK
  have HOK := Lib.hid hok
  have HF := Lib.hid hF
  have HKZ := Lib.hid hk
  have HKB : Hid (k ≤ 1000000000000) := by show k ≤ _; omega
  have HL : Hid ((l ++ [123, 10] ++ clausesTo E S k ks ks.length ++ (tabsT k ++ [125])).length ≤ most) := by
    show _ ≤ _
    unfold clausesX at hl
    simp at hl ⊢; omega
  unfold clausesX
  clear hS hK hok hF hk hl
  go_enter Tryz.func70, Tryz.ntmps70
  go_wp2_with fail
  refine (add1 ⟨#[123, 10]⟩ HS.out (by have := HL.out; simp at this ⊢; omega)).mono ?_
  rintro e w0 ⟨rfl, h1, h2, h3⟩
  have HS0 := Lib.hid h1
  have HB0 := Lib.hid h2
  have HK0 : Hid (Keeps p w w0) := h3
  clear h1 h2 h3
  go_wp2_with fail
  go_loopw [12] (fun i wr => ∃ j : Nat, j ≤ ks.length ∧ i = .int .i64 j ∧ Hid (Ws B p (l ++ [123, 10] ++ clausesTo E S k ks j) k wr) ∧ Hid (Below B w wr) ∧ Hid (Keeps p w wr)) (fun i _ => ks.length - (intOf i).toNat)
  case atStart => exact ⟨0, Nat.zero_le _, rfl, by show Ws B p (l ++ [123, 10] ++ []) k _; rw [List.append_nil]; exact HS0.out, HB0.out, HK0.out⟩
  case round =>
    obtain ⟨j, hj, rfl, hw, hbw, hkw⟩ := hrel
    by_cases hlt : j < ks.length
    · obtain ⟨kb, ko, e⟩ : ∃ kb ko, a = some ⟨kb, ko, none⟩ := by
        rcases HKK.out with h | ⟨kb, ko, e, _⟩
        · rw [h] at hlt; simp at hlt
        · exact ⟨kb, ko, e⟩
      subst e
      have HC := Lib.hid (clausesTo_le E S k ks hlt)
      have hAT := kl_at (KL.low HKK.out hbw.out) hlt
      have hok := HOK.out j hlt
      have hfit := HF.out j hlt
      have hkj : ks.getD j tr0 = kid j ks := rfl
      have hsz := size_kid hlt
      rw [hkj] at hAT hsz
      obtain ⟨t, hkj⟩ : ∃ t, kid j ks = t := ⟨_, rfl⟩
      rw [hkj] at hok hfit hAT hsz
      obtain ⟨d, nks⟩ := t
      obtain ⟨na, nc, hN⟩ := Nb.start hAT
      have hpos := hok.pos
      have hhead := hok.head
      have hlines := hok.lines
      have hnl := fit_len hfit
      simp only [Tr.kids, Tr.d] at hpos hhead hlines
      obtain ⟨m, hm⟩ : ∃ m, nks.length = m + 1 := ⟨nks.length - 1, by omega⟩
      have hml : m < nks.length := by omega
      have hk0 : 0 < nks.length := by omega
      rw [show nks.length - 1 = m by omega] at hhead hlines
      obtain ⟨u, hku⟩ : ∃ u, kid m nks = u := ⟨_, rfl⟩
      have hfu := fit_kid hfit hml
      have husz := size_kid hml
      rw [show nks.getD m tr0 = u from hku] at hfu husz
      rw [hku] at hlines
      obtain ⟨du, kus⟩ := u
      simp only at hlines
      have hul := fit_len hfu
      have hkl : k + 1 + sizes kus ≤ 1000000000000 := by
        have := HKZ.out
        simp only [size] at hsz husz
        omega
      obtain ⟨ub, uo, rfl⟩ := kl_some' hN.kl hk0
      have hcap := hN.cap
      have hdl : (nks.take m).length = m := by simp; omega
      have HUL := Lib.hid hul
      have HLN := Lib.hid hlines
      have HKL := Lib.hid hkl
      have HX := Lib.hid hN
      have HS := hw
      have HB := hbw
      have HK := hkw
      obtain ⟨nk, tx, nn, ty, s4, s5, s6⟩ := d
      simp only at hhead
      obtain ⟨c0, c1, c2, c3, c7⟩ := HX.out.cells
      have HKU : Hid (kid m nks = .mk du kus) := hku
      have hku : (kid m nks).kids = kus := by rw [hku]; rfl
      have HM1 := Lib.hid hm
      obtain ⟨L, hL⟩ : ∃ L, nks.length = L := ⟨_, rfl⟩
      have HLL := Lib.hid hL
      rw [hL] at c7
      have hmi : (m : Int) < (L : Int) := by omega
      have hw1 : IntKind.i64.wrap (m : Int) = (m : Int) := IntWalk.i64_in _ (by omega)
      have hsub : (L : Int) - 1 = (m : Int) := by omega
      have hm0 : (0 : Int) ≤ (m : Int) := by omega
      have hmc : m ≤ nc := by omega
      have hmb : m ≤ 1048576 := by omega
      have hmci : (m : Int) ≤ (nc : Int) := by omega
      clear hok hfit hsz hN hAT hpos hlines hnl hm hul hkl hfu husz hL hcap
      rcases hhead with q1 | ⟨q1, q2, q3⟩ | ⟨q1, q2, q3⟩
      · have HXP : clauseX E S k (.mk ⟨nk, tx, nn, ty, s4, s5, s6⟩ nks) = tabsT k ++ ([100, 101, 102, 97, 117, 108, 116] ++ ([58, 10] ++ linesX S k kus)) := by
          have e : clauseHead E (.mk ⟨nk, tx, nn, ty, s4, s5, s6⟩ nks) = [100, 101, 102, 97, 117, 108, 116] := by
            unfold clauseHead
            show (if nn = 1 then [100, 101, 102, 97, 117, 108, 116] else if nk = 14 then [99, 97, 115, 101, 32] ++ commas E (nks.take (nks.length - 1)) else [99, 97, 115, 101, 32] ++ simpleTx E (kid 0 nks)) = _
            rw [show nks.length - 1 = m by have := HM1.out; omega]
            simp [q1]
          show tabsT k ++ (clauseHead E (.mk ⟨nk, tx, nn, ty, s4, s5, s6⟩ nks) ++ ([58, 10] ++ linesX S k (kid (nks.length - 1) nks).kids)) = _
          rw [e, show nks.length - 1 = m by have := HM1.out; omega, hku]
        have HCL : Hid (clausesTo E S k ks (j + 1) = clausesTo E S k ks j ++ (tabsT k ++ ([100, 101, 102, 97, 117, 108, 116] ++ ([58, 10] ++ linesX S k kus)))) := by
          show clausesTo E S k ks j ++ clauseX E S k (kid j ks) = _
          rw [hkj, HXP]
        have LEN : Hid ((l ++ [123, 10] ++ clausesTo E S k ks j ++ (tabsT k ++ ([100, 101, 102, 97, 117, 108, 116] ++ ([58, 10] ++ linesX S k kus)))).length ≤ most) := by
          show _ ≤ _
          have h1 := HL.out
          have h2 := HC.out
          rw [HCL.out] at h2
          simp only [List.length_append] at h1 h2 ⊢
          omega
        clear HXP
        subst q1
        clear hku hkj hdl
        go_wp2_with fail
        refine (tabs_any HS.out HKB.out (by have := LEN.out; simp at this ⊢; omega)).mono ?_
        rintro e w1 ⟨rfl, h1, h2, h3⟩
        have HS := Lib.hid h1
        have HX := Lib.hid (HX.out.kept h2)
        have HB := Lib.hid (HB.out.trans h2)
        have HK : Hid (Keeps p w w1) := HK.out.trans h3
        clear h1 h2 h3 c0 c1 c2 c3 c7
        obtain ⟨c0, c1, c2, c3, c7⟩ := HX.out.cells
        rw [HLL.out] at c7
        go_wp2_with fail
        refine (add1 ⟨#[100, 101, 102, 97, 117, 108, 116]⟩ HS.out (by have := LEN.out; simp at this ⊢; omega)).mono ?_
        rintro e w2 ⟨rfl, h1, h2, h3⟩
        have HS := Lib.hid h1
        have HX := Lib.hid (HX.out.kept h2)
        have HB := Lib.hid (HB.out.trans h2)
        have HK : Hid (Keeps p w w2) := HK.out.trans h3
        clear h1 h2 h3 c0 c1 c2 c3 c7
        obtain ⟨c0, c1, c2, c3, c7⟩ := HX.out.cells
        rw [HLL.out] at c7
        go_wp2_with fail
        refine (add1 ⟨#[58, 10]⟩ HS.out (by have := LEN.out; simp at this ⊢; omega)).mono ?_
        rintro e w3 ⟨rfl, h1, h2, h3⟩
        have HS := Lib.hid h1
        have HX := Lib.hid (HX.out.kept h2)
        have HB := Lib.hid (HB.out.trans h2)
        have HK : Hid (Keeps p w w3) := HK.out.trans h3
        clear h1 h2 h3 c0 c1 c2 c3 c7
        obtain ⟨c0, c1, c2, c3, c7⟩ := HX.out.cells
        rw [HLL.out] at c7
        have HUA : Hid (At w3 (fun b => b < B) (.mk du kus) ub (uo + m * 8)) := by
          have := kid_at HX.out hml
          rwa [HKU.out] at this
        obtain ⟨ua, uc, hNU⟩ := Nb.start HUA.out
        have HU := Lib.hid hNU
        clear hNU HUA
        obtain ⟨u0, u1, u2, u3, u7⟩ := HU.out.cells
        go_wp2_with fail
        refine (lines_any S kus ua uc HUL.out HLN.out HS.out HKL.out HU.out.kl (by have := LEN.out; simp at this ⊢; omega)).mono ?_
        rintro e w4 ⟨rfl, h1, h2, h3⟩
        have HS := Lib.hid h1
        have HX := Lib.hid (HX.out.kept h2)
        have HB := Lib.hid (HB.out.trans h2)
        have HK : Hid (Keeps p w w4) := HK.out.trans h3
        clear h1 h2 h3
        clear u0 u1 u2 u3 u7 c0 c1 c2 c3 c7
        have H1 : Hid (Ws B p (l ++ [123, 10] ++ clausesTo E S k ks (j + 1)) k w4) := by
          show Ws B p _ k _
          rw [HCL.out]
          have := HS.out
          simpa using this
        go_wp2
        go_roundw
        case rel => exact ⟨j + 1, by omega, by go_num, H1, HB, HK⟩
        case measure => simp [intOf]; omega
      · have HXP : clauseX E S k (.mk ⟨nk, tx, nn, ty, s4, s5, s6⟩ nks) = tabsT k ++ (([99, 97, 115, 101, 32] ++ commas E (nks.take m)) ++ ([58, 10] ++ linesX S k kus)) := by
          have e : clauseHead E (.mk ⟨nk, tx, nn, ty, s4, s5, s6⟩ nks) = ([99, 97, 115, 101, 32] ++ commas E (nks.take m)) := by
            unfold clauseHead
            show (if nn = 1 then [100, 101, 102, 97, 117, 108, 116] else if nk = 14 then [99, 97, 115, 101, 32] ++ commas E (nks.take (nks.length - 1)) else [99, 97, 115, 101, 32] ++ simpleTx E (kid 0 nks)) = _
            rw [show nks.length - 1 = m by have := HM1.out; omega]
            simp [q1, q2]
          show tabsT k ++ (clauseHead E (.mk ⟨nk, tx, nn, ty, s4, s5, s6⟩ nks) ++ ([58, 10] ++ linesX S k (kid (nks.length - 1) nks).kids)) = _
          rw [e, show nks.length - 1 = m by have := HM1.out; omega, hku]
        have HCL : Hid (clausesTo E S k ks (j + 1) = clausesTo E S k ks j ++ (tabsT k ++ (([99, 97, 115, 101, 32] ++ commas E (nks.take m)) ++ ([58, 10] ++ linesX S k kus)))) := by
          show clausesTo E S k ks j ++ clauseX E S k (kid j ks) = _
          rw [hkj, HXP]
        have LEN : Hid ((l ++ [123, 10] ++ clausesTo E S k ks j ++ (tabsT k ++ (([99, 97, 115, 101, 32] ++ commas E (nks.take m)) ++ ([58, 10] ++ linesX S k kus)))).length ≤ most) := by
          show _ ≤ _
          have h1 := HL.out
          have h2 := HC.out
          rw [HCL.out] at h2
          simp only [List.length_append] at h1 h2 ⊢
          omega
        clear HXP
        have e1 : (nn == 1) = false := beq_false_of_ne q1
        subst q2
        have hEd : ∀ j, j < (nks.take m).length → Writes 68 (E ((nks.take m).getD j tr0)) ((nks.take m).getD j tr0) := fun j hj => by
          rw [hdl] at hj
          rw [show (nks.take m).getD j tr0 = kid j nks by simp [kid, List.getD_eq_getElem?_getD, hj]]
          exact q3 _ (by omega)
        have hli := fun (l : Bs) (W : World) (h1 : Ws B p l k W) (h2 : KL W (fun b => b < B) (nks.take m) (some ⟨ub, uo, none⟩)) (h3 : l.length + (commas E (nks.take m)).length ≤ most) => list_any E (nks.take m) (some ⟨ub, uo, none⟩) nc (by rw [hdl]; exact hmb) hEd h1 h2 h3
        rw [hdl] at hli
        have HLI := Lib.hid hli
        clear q1 q3 hEd hli hku hkj hdl
        go_wp2_with fail
        refine (tabs_any HS.out HKB.out (by have := LEN.out; simp at this ⊢; omega)).mono ?_
        rintro e w1 ⟨rfl, h1, h2, h3⟩
        have HS := Lib.hid h1
        have HX := Lib.hid (HX.out.kept h2)
        have HB := Lib.hid (HB.out.trans h2)
        have HK : Hid (Keeps p w w1) := HK.out.trans h3
        clear h1 h2 h3 c0 c1 c2 c3 c7
        obtain ⟨c0, c1, c2, c3, c7⟩ := HX.out.cells
        rw [HLL.out] at c7
        go_wp2_with fail
        refine (add1 ⟨#[99, 97, 115, 101, 32]⟩ HS.out (by have := LEN.out; simp at this ⊢; omega)).mono ?_
        rintro e w2 ⟨rfl, h1, h2, h3⟩
        have HS := Lib.hid h1
        have HX := Lib.hid (HX.out.kept h2)
        have HB := Lib.hid (HB.out.trans h2)
        have HK : Hid (Keeps p w w2) := HK.out.trans h3
        clear h1 h2 h3 c0 c1 c2 c3 c7
        obtain ⟨c0, c1, c2, c3, c7⟩ := HX.out.cells
        rw [HLL.out] at c7
        go_wp2_with fail
        refine (HLI.out _ _ HS.out (HX.out.kl.take m) (by have := LEN.out; simp at this ⊢; omega)).mono ?_
        rintro e w3 ⟨rfl, h1, h2, h3⟩
        have HS := Lib.hid h1
        have HX := Lib.hid (HX.out.kept h2)
        have HB := Lib.hid (HB.out.trans h2)
        have HK : Hid (Keeps p w w3) := HK.out.trans h3
        clear h1 h2 h3 c0 c1 c2 c3 c7
        obtain ⟨c0, c1, c2, c3, c7⟩ := HX.out.cells
        rw [HLL.out] at c7
        go_wp2_with fail
        refine (add1 ⟨#[58, 10]⟩ HS.out (by have := LEN.out; simp at this ⊢; omega)).mono ?_
        rintro e w4 ⟨rfl, h1, h2, h3⟩
        have HS := Lib.hid h1
        have HX := Lib.hid (HX.out.kept h2)
        have HB := Lib.hid (HB.out.trans h2)
        have HK : Hid (Keeps p w w4) := HK.out.trans h3
        clear h1 h2 h3 c0 c1 c2 c3 c7
        obtain ⟨c0, c1, c2, c3, c7⟩ := HX.out.cells
        rw [HLL.out] at c7
        have HUA : Hid (At w4 (fun b => b < B) (.mk du kus) ub (uo + m * 8)) := by
          have := kid_at HX.out hml
          rwa [HKU.out] at this
        obtain ⟨ua, uc, hNU⟩ := Nb.start HUA.out
        have HU := Lib.hid hNU
        clear hNU HUA
        obtain ⟨u0, u1, u2, u3, u7⟩ := HU.out.cells
        go_wp2_with fail
        refine (lines_any S kus ua uc HUL.out HLN.out HS.out HKL.out HU.out.kl (by have := LEN.out; simp at this ⊢; omega)).mono ?_
        rintro e w5 ⟨rfl, h1, h2, h3⟩
        have HS := Lib.hid h1
        have HX := Lib.hid (HX.out.kept h2)
        have HB := Lib.hid (HB.out.trans h2)
        have HK : Hid (Keeps p w w5) := HK.out.trans h3
        clear h1 h2 h3
        clear u0 u1 u2 u3 u7 c0 c1 c2 c3 c7
        have H1 : Hid (Ws B p (l ++ [123, 10] ++ clausesTo E S k ks (j + 1)) k w5) := by
          show Ws B p _ k _
          rw [HCL.out]
          have := HS.out
          simpa using this
        go_wp2
        go_roundw
        case rel => exact ⟨j + 1, by omega, by go_num, H1, HB, HK⟩
        case measure => simp [intOf]; omega
      · have HXP : clauseX E S k (.mk ⟨nk, tx, nn, ty, s4, s5, s6⟩ nks) = tabsT k ++ (([99, 97, 115, 101, 32] ++ simpleTx E (kid 0 nks)) ++ ([58, 10] ++ linesX S k kus)) := by
          have e : clauseHead E (.mk ⟨nk, tx, nn, ty, s4, s5, s6⟩ nks) = ([99, 97, 115, 101, 32] ++ simpleTx E (kid 0 nks)) := by
            unfold clauseHead
            show (if nn = 1 then [100, 101, 102, 97, 117, 108, 116] else if nk = 14 then [99, 97, 115, 101, 32] ++ commas E (nks.take (nks.length - 1)) else [99, 97, 115, 101, 32] ++ simpleTx E (kid 0 nks)) = _
            rw [show nks.length - 1 = m by have := HM1.out; omega]
            simp [q1, q2]
          show tabsT k ++ (clauseHead E (.mk ⟨nk, tx, nn, ty, s4, s5, s6⟩ nks) ++ ([58, 10] ++ linesX S k (kid (nks.length - 1) nks).kids)) = _
          rw [e, show nks.length - 1 = m by have := HM1.out; omega, hku]
        have HCL : Hid (clausesTo E S k ks (j + 1) = clausesTo E S k ks j ++ (tabsT k ++ (([99, 97, 115, 101, 32] ++ simpleTx E (kid 0 nks)) ++ ([58, 10] ++ linesX S k kus)))) := by
          show clausesTo E S k ks j ++ clauseX E S k (kid j ks) = _
          rw [hkj, HXP]
        have LEN : Hid ((l ++ [123, 10] ++ clausesTo E S k ks j ++ (tabsT k ++ (([99, 97, 115, 101, 32] ++ simpleTx E (kid 0 nks)) ++ ([58, 10] ++ linesX S k kus)))).length ≤ most) := by
          show _ ≤ _
          have h1 := HL.out
          have h2 := HC.out
          rw [HCL.out] at h2
          simp only [List.length_append] at h1 h2 ⊢
          omega
        clear HXP
        have e1 : (nn == 1) = false := beq_false_of_ne q1
        have e2 : (nk == 14) = false := beq_false_of_ne q2
        have HM := Lib.hid q3
        clear q1 q2 q3 hku hkj hdl
        go_wp2_with fail
        refine (tabs_any HS.out HKB.out (by have := LEN.out; simp at this ⊢; omega)).mono ?_
        rintro e w1 ⟨rfl, h1, h2, h3⟩
        have HS := Lib.hid h1
        have HX := Lib.hid (HX.out.kept h2)
        have HB := Lib.hid (HB.out.trans h2)
        have HK : Hid (Keeps p w w1) := HK.out.trans h3
        clear h1 h2 h3 c0 c1 c2 c3 c7
        obtain ⟨c0, c1, c2, c3, c7⟩ := HX.out.cells
        rw [HLL.out] at c7
        go_wp2_with fail
        refine (add1 ⟨#[99, 97, 115, 101, 32]⟩ HS.out (by have := LEN.out; simp at this ⊢; omega)).mono ?_
        rintro e w2 ⟨rfl, h1, h2, h3⟩
        have HS := Lib.hid h1
        have HX := Lib.hid (HX.out.kept h2)
        have HB := Lib.hid (HB.out.trans h2)
        have HK : Hid (Keeps p w w2) := HK.out.trans h3
        clear h1 h2 h3 c0 c1 c2 c3 c7
        obtain ⟨c0, c1, c2, c3, c7⟩ := HX.out.cells
        rw [HLL.out] at c7
        go_wp2_with fail
        refine (HM.out B p k _ _ _ _ HS.out (kid_at HX.out hk0) (by have := LEN.out; simp at this ⊢; omega)).mono ?_
        rintro e w3 ⟨rfl, h1, h2, h3⟩
        have HS := Lib.hid h1
        have HX := Lib.hid (HX.out.kept h2)
        have HB := Lib.hid (HB.out.trans h2)
        have HK : Hid (Keeps p w w3) := HK.out.trans h3
        clear h1 h2 h3 c0 c1 c2 c3 c7
        obtain ⟨c0, c1, c2, c3, c7⟩ := HX.out.cells
        rw [HLL.out] at c7
        go_wp2_with fail
        refine (add1 ⟨#[58, 10]⟩ HS.out (by have := LEN.out; simp at this ⊢; omega)).mono ?_
        rintro e w4 ⟨rfl, h1, h2, h3⟩
        have HS := Lib.hid h1
        have HX := Lib.hid (HX.out.kept h2)
        have HB := Lib.hid (HB.out.trans h2)
        have HK : Hid (Keeps p w w4) := HK.out.trans h3
        clear h1 h2 h3 c0 c1 c2 c3 c7
        obtain ⟨c0, c1, c2, c3, c7⟩ := HX.out.cells
        rw [HLL.out] at c7
        have HUA : Hid (At w4 (fun b => b < B) (.mk du kus) ub (uo + m * 8)) := by
          have := kid_at HX.out hml
          rwa [HKU.out] at this
        obtain ⟨ua, uc, hNU⟩ := Nb.start HUA.out
        have HU := Lib.hid hNU
        clear hNU HUA
        obtain ⟨u0, u1, u2, u3, u7⟩ := HU.out.cells
        go_wp2_with fail
        refine (lines_any S kus ua uc HUL.out HLN.out HS.out HKL.out HU.out.kl (by have := LEN.out; simp at this ⊢; omega)).mono ?_
        rintro e w5 ⟨rfl, h1, h2, h3⟩
        have HS := Lib.hid h1
        have HX := Lib.hid (HX.out.kept h2)
        have HB := Lib.hid (HB.out.trans h2)
        have HK : Hid (Keeps p w w5) := HK.out.trans h3
        clear h1 h2 h3
        clear u0 u1 u2 u3 u7 c0 c1 c2 c3 c7
        have H1 : Hid (Ws B p (l ++ [123, 10] ++ clausesTo E S k ks (j + 1)) k w5) := by
          show Ws B p _ k _
          rw [HCL.out]
          have := HS.out
          simpa using this
        go_wp2
        go_roundw
        case rel => exact ⟨j + 1, by omega, by go_num, H1, HB, HK⟩
        case measure => simp [intOf]; omega
    · obtain rfl : j = ks.length := by omega
      go_wp2_with fail
      refine (tabs_any hw.out HKB.out (by have := HL.out; simp at this ⊢; omega)).mono ?_
      rintro e w1 ⟨rfl, h1, h2, h3⟩
      have HS1 := Lib.hid h1
      have HB1 := Lib.hid (hbw.out.trans h2)
      have HK1 : Hid (Keeps p w w1) := hkw.out.trans h3
      clear h1 h2 h3
      go_wp2_with fail
      refine (add1 ⟨#[125]⟩ HS1.out (by have := HL.out; simp at this ⊢; omega)).mono ?_
      rintro e w2 ⟨rfl, h1, h2, h3⟩
      have HS2 := Lib.hid h1
      have HB2 := Lib.hid (HB1.out.trans h2)
      have HK2 : Hid (Keeps p w w2) := HK1.out.trans h3
      clear h1 h2 h3
      go_wp2
      go_end0
      refine ⟨rfl, ?_, HB2.out, HK2.out⟩
      have := HS2.out
      simpa using this
end Go.Proofs.YtgodeffkboihlaaGreatDoor.Twk
