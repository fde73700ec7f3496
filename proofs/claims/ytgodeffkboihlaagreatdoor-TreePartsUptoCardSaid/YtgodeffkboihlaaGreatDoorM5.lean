/- A part of the proof; several texts in one file. -/
import Derived.Test.YtgodeffkboihlaaGreatDoorTxu
import Derived.Test.YtgodeffkboihlaaGreatDoorTst
import Derived.Test.YtgodeffkboihlaaGreatDoorTqb
/- tree.Right of any tree, where `function` pays for its kids. -/
set_option linter.unusedVariables false
namespace Go.Proofs.YtgodeffkboihlaaGreatDoor.Txv
open Go.RowKit Tra Trb Trf Trd Tcn Trh Tha Nam Txa Tpr Tyq Txe Txg Txs Txi Txu

theorem enters_func : Enters Tryz.prog 26 := enters_of Tryz.func26 (by kernel_rfl) rfl
def rightN (Fn : Tr → Bool) (d : Nd) (ks : List Tr) : Int :=
  if 40 < min (depth (.mk d ks)) 41 then 42 else if (d.k == 1 && (hasB false false false d && ks.all Fn)) = true then 0 else 41
set_option maxHeartbeats 8000000 in
set_option maxRecDepth 100000 in
theorem tright_any (Fn : Tr → Bool) (d : Nd) (ks : List Tr) (hF : Fit (.mk d ks)) (ih : ∀ j, j < ks.length → Pays 26 Fn (ks.getD j tr0)) (S : Nat → Prop) (v : Value) (w : World) (hv : Lies w S (.mk d ks) v) :
    Calls Tryz.prog 10 #[v] w fun e w' => e = .returned (.int .i64 (rightN Fn d ks)) ∧ Below w.heap.size w w' := by
  obtain ⟨a, c, rfl⟩ := hv.shape
  simp only [Tr.d, Tr.kids] at hv ⊢
  have hlen := fit_len hF
  have HB := Lib.hid (box_below w d a ks.length c)
  have hA : ∀ W, Below (box w d a ks.length c).heap.size (box w d a ks.length c) W → ∃ a c, Nod W W w.heap.size 0 d ks a c := fun W hb => Nod.start (At.box hv hb)
  have hC : ∀ W, Below (box w d a ks.length c).heap.size (box w d a ks.length c) W → ∀ i, i < 8 → W.cell? ⟨w.heap.size, i, none⟩ = (d.row a ks.length c)[i]? := fun W hb => box_cell w d a ks.length c hb
  have hK : ∀ W, Below (box w d a ks.length c).heap.size (box w d a ks.length c) W → KL W S ks a := fun W hb => by
    obtain ⟨a', c', e, hk⟩ := kids_lie hv
    have e1 : a = a' := by
      simp only [Value.agg.injEq] at e
      have := congrArg Array.toList e
      simp only [List.cons.injEq, Value.slice.injEq] at this
      exact this.2.2.2.2.2.2.2.1.1
    subst e1
    exact hk.kept ((box_below w d a ks.length c).trans (hb.mono (by simp)))
  have HD := Lib.hid (depth_any (.mk d ks) 40 _ S _ (hv.kept (box_below w d a ks.length c)) hF (by omega) (by omega))
  obtain ⟨n, hn⟩ : ∃ n, min (depth (.mk d ks)) 41 = n := ⟨_, rfl⟩
  unfold rightN
  rw [hn]
  rw [show min (depth (.mk d ks)) (40 + 1) = n from hn] at HD
  have hnb : n ≤ 41 := by omega
  have HA := Lib.hid hA
  have HC := Lib.hid hC
  have HK := Lib.hid hK
  have HALL := fun W (h : KL W S ks a) => all_of enters_func a c hlen ih W h
  obtain ⟨k, tx, nn, ty, s4, s5, s6⟩ := d
  clear hA hC hK hv hF hn ih
  by_cases h40 : 40 < n
  · have f0 : decide ((40 : Int) < (n : Int)) = true := by simp; omega
    rw [if_pos h40]
    clear HALL
    go_enter Tryz.func10, Tryz.ntmps10
    go_wp2_with fail
    refine HD.out.mono ?_
    rintro e w1 ⟨rfl, hb1⟩
    have HB1 := Lib.hid (HB.out.trans (hb1.mono HB.out.size))
    clear hb1
    go_wp2
    go_ret
    exact ⟨rfl, HB1.out⟩
  · have f0 : decide ((40 : Int) < (n : Int)) = false := by simp; omega
    rw [if_neg h40]
    cases k1 : (k == 1)
    · have f1 : (k != 1) = true := by unfold bne; rw [k1]; rfl
      simp only [Bool.false_and, Bool.false_eq_true, if_false]
      clear HALL
      go_enter Tryz.func10, Tryz.ntmps10
      go_wp2_with fail
      refine HD.out.mono ?_
      rintro e w1 ⟨rfl, hb1⟩
      have q := HC.out _ hb1
      have c0 := q 0 (by omega)
      have c1 := q 1 (by omega)
      have c2 := q 2 (by omega)
      have c3 := q 3 (by omega)
      have c7 := q 7 (by omega)
      simp only [List.getElem?_cons_succ, List.getElem?_cons_zero] at c0 c1 c2 c3 c7
      have HKL := Lib.hid (HK.out _ hb1)
      have HB1 := Lib.hid (HB.out.trans (hb1.mono HB.out.size))
      clear hb1 q
      go_wp2
      go_ret
      exact ⟨rfl, HB1.out⟩
    · have f1 : (k != 1) = false := by unfold bne; rw [k1]; rfl
      have H := fun W q0 q1 q2 q3 => has_0 (⟨k, tx, nn, ty, s4, s5, s6⟩ : Nd) w.heap.size 0 W q0 q1 q2 q3
      cases p1 : hasB false false false (⟨k, tx, nn, ty, s4, s5, s6⟩ : Nd)
      · rw [p1] at H
        have HH := Lib.hid H
        simp only [Bool.false_and, Bool.and_false, Bool.false_eq_true, if_false]
        clear H p1 HALL
        go_enter Tryz.func10, Tryz.ntmps10
        go_wp2_with fail
        refine HD.out.mono ?_
        rintro e w1 ⟨rfl, hb1⟩
        have q := HC.out _ hb1
        have c0 := q 0 (by omega)
        have c1 := q 1 (by omega)
        have c2 := q 2 (by omega)
        have c3 := q 3 (by omega)
        have c7 := q 7 (by omega)
        simp only [List.getElem?_cons_succ, List.getElem?_cons_zero] at c0 c1 c2 c3 c7
        have HKL := Lib.hid (HK.out _ hb1)
        have HB1 := Lib.hid (HB.out.trans (hb1.mono HB.out.size))
        clear hb1 q
        go_wp2_with fail
        refine (HH.out _ c0 c1 c2 c3).mono ?_
        rintro e w2 ⟨rfl, rfl⟩
        go_wp2
        go_ret
        exact ⟨rfl, HB1.out⟩
      · rw [p1] at H
        have HH := Lib.hid H
        cases p2 : ks.all Fn
        · rw [p2] at HALL
          have HAL := Lib.hid HALL
          simp only [Bool.and_false, Bool.false_eq_true, if_false]
          clear H p1 p2 HALL
          go_enter Tryz.func10, Tryz.ntmps10
          go_wp2_with fail
          refine HD.out.mono ?_
          rintro e w1 ⟨rfl, hb1⟩
          have q := HC.out _ hb1
          have c0 := q 0 (by omega)
          have c1 := q 1 (by omega)
          have c2 := q 2 (by omega)
          have c3 := q 3 (by omega)
          have c7 := q 7 (by omega)
          simp only [List.getElem?_cons_succ, List.getElem?_cons_zero] at c0 c1 c2 c3 c7
          have HKL := Lib.hid (HK.out _ hb1)
          have HB1 := Lib.hid (HB.out.trans (hb1.mono HB.out.size))
          clear hb1 q
          go_wp2_with fail
          refine (HH.out _ c0 c1 c2 c3).mono ?_
          rintro e w2 ⟨rfl, rfl⟩
          go_wp2_with fail
          refine (HAL.out _ HKL.out).mono ?_
          rintro e w2 ⟨rfl, hb2⟩
          have HB2 := Lib.hid (HB1.out.trans (hb2.mono HB1.out.size))
          clear hb2
          go_wp2
          go_ret
          exact ⟨rfl, HB2.out⟩
        · rw [p2] at HALL
          have HAL := Lib.hid HALL
          simp only [Bool.and_self, if_true]
          clear H p1 p2 HALL
          go_enter Tryz.func10, Tryz.ntmps10
          go_wp2_with fail
          refine HD.out.mono ?_
          rintro e w1 ⟨rfl, hb1⟩
          have q := HC.out _ hb1
          have c0 := q 0 (by omega)
          have c1 := q 1 (by omega)
          have c2 := q 2 (by omega)
          have c3 := q 3 (by omega)
          have c7 := q 7 (by omega)
          simp only [List.getElem?_cons_succ, List.getElem?_cons_zero] at c0 c1 c2 c3 c7
          have HKL := Lib.hid (HK.out _ hb1)
          have HB1 := Lib.hid (HB.out.trans (hb1.mono HB.out.size))
          clear hb1 q
          go_wp2_with fail
          refine (HH.out _ c0 c1 c2 c3).mono ?_
          rintro e w2 ⟨rfl, rfl⟩
          go_wp2_with fail
          refine (HAL.out _ HKL.out).mono ?_
          rintro e w2 ⟨rfl, hb2⟩
          have HB2 := Lib.hid (HB1.out.trans (hb2.mono HB1.out.size))
          clear hb2
          go_wp2
          go_ret
          exact ⟨rfl, HB2.out⟩
end Go.Proofs.YtgodeffkboihlaaGreatDoor.Txv

/- Small closures of tree: a blank name, a case, an arm. -/
set_option linter.unusedVariables false
namespace Go.Proofs.YtgodeffkboihlaaGreatDoor.Txw
open Go.RowKit Tra Trb Trf Trd Tcn Trh Tha Nam Txa Tpr

def blankT (t : Tr) : Bool := t.d.text.toList == [95]
def kindT (m : Int) (t : Tr) : Bool := t.d.k == m
set_option maxHeartbeats 1000000 in
set_option maxRecDepth 100000 in
theorem blank_pays : ∀ t : Tr, Pays 112 blankT t := by
  rintro ⟨d, ks⟩ S b o w hA
  obtain ⟨a, c, hN⟩ := Nod.start hA
  obtain ⟨k, tx, n, ty, s4, s5, s6⟩ := d
  obtain ⟨c0, c1, c2, c3, c4, c5, c6, c7⟩ := hN.cells
  unfold blankT
  simp only [Tr.d]
  clear hA hN
  cases h : (tx.toList == [95])
  all_goals
    go_enter Tryz.func112, Tryz.ntmps112
    go_wp2
    go_ret
    exact ⟨rfl, Below.refl _ _⟩
set_option maxHeartbeats 1000000 in
set_option maxRecDepth 100000 in
theorem case_pays : ∀ t : Tr, Pays 105 (kindT 14) t := by
  rintro ⟨d, ks⟩ S b o w hA
  obtain ⟨a, c, hN⟩ := Nod.start hA
  obtain ⟨k, tx, n, ty, s4, s5, s6⟩ := d
  obtain ⟨c0, c1, c2, c3, c4, c5, c6, c7⟩ := hN.cells
  unfold kindT
  simp only [Tr.d]
  clear hA hN
  cases h : (k == 14)
  all_goals
    go_enter Tryz.func105, Tryz.ntmps105
    go_wp2
    go_ret
    exact ⟨rfl, Below.refl _ _⟩
set_option maxHeartbeats 1000000 in
set_option maxRecDepth 100000 in
theorem arm_pays : ∀ t : Tr, Pays 108 (kindT 16) t := by
  rintro ⟨d, ks⟩ S b o w hA
  obtain ⟨a, c, hN⟩ := Nod.start hA
  obtain ⟨k, tx, n, ty, s4, s5, s6⟩ := d
  obtain ⟨c0, c1, c2, c3, c4, c5, c6, c7⟩ := hN.cells
  unfold kindT
  simp only [Tr.d]
  clear hA hN
  cases h : (k == 16)
  all_goals
    go_enter Tryz.func108, Tryz.ntmps108
    go_wp2
    go_ret
    exact ⟨rfl, Below.refl _ _⟩
end Go.Proofs.YtgodeffkboihlaaGreatDoor.Txw

/- Which statements are right, as the program looks (plain). -/
set_option linter.unusedVariables false
namespace Go.Proofs.YtgodeffkboihlaaGreatDoor.Tpt
open Tra Trb Trf Trd Tcn Trh Tha Nam Txa Tpr Tyq Txe Txg Txs Txi Txu Txv Txw Tqb

def targetT (t : Tr) : Bool := targetB t.d t.kids
def noneT (t : Tr) : Bool := noneB t.d t.kids
def letB (E : Tr → Bool) (d : Nd) (ks : List Tr) (m : Nat) : Bool :=
  ks.length == m + 1 && (hasB false false true d && ((ks.take m).all targetT && (E (kn m ks) && ((m == 1 || recvB (kn m ks).d) && !((ks.take m).all blankT && d.k == 6)))))
def letsB (E : Tr → Bool) (d : Nd) (ks : List Tr) : Bool := if d.n = 1 then letB E d ks 1 else if d.n = 2 then letB E d ks 2 else false
def simpleB (E : Tr → Bool) (d : Nd) (ks : List Tr) : Bool :=
  if d.k = 6 then letsB E d ks else if d.k = 7 then letsB E d ks else if d.k = 8 then stepB E d ks else if d.k = 9 then sendB E d ks else if d.k = 10 then doB E d ks else false
def simpleT (E : Tr → Bool) (t : Tr) : Bool := simpleB E t.d t.kids
def loopB (E P : Tr → Bool) (d : Nd) (ks : List Tr) : Bool :=
  if d.n = 0 then ks.length == 1 && (blockT P (kn 0 ks) && hasB false false true d)
  else if d.n = 1 then ks.length == 2 && (blockT P (kn 1 ks) && (hasB false false true d && E (kn 0 ks)))
  else if d.n = 2 then ks.length == 4 && (blockT P (kn 3 ks) && (hasB false false true d && ((noneT (kn 0 ks) || simpleT E (kn 0 ks)) && ((noneT (kn 1 ks) || E (kn 1 ks)) && (noneT (kn 2 ks) || ((kn 2 ks).d.k != 6 && simpleT E (kn 2 ks)))))))
  else if d.n = 3 then ks.length == 3 && (blockT P (kn 2 ks) && (hasB true false true d && (E (kn 1 ks) && ((d.text.toList.isEmpty && noneT (kn 0 ks)) || ((d.text.toList == [58, 61] || d.text.toList == [61]) && ((kn 0 ks).d.k == 21 && E (kn 0 ks)))))))
  else false
/-- How many defaults stand among them. -/
def defs (ks : List Tr) : Nat := (ks.filter fun t => t.d.n == 1).length
/-- The clause at place j, where c defaults stand ahead. -/
def clauseB (P is : Tr → Bool) (c : Nat) (t : Tr) : Bool := okB P t.d t.kids && (if t.d.n = 1 then c == 0 && t.kids.length == 1 else is t)
def clausesB (P is : Tr → Bool) (ks : List Tr) : Bool := (List.range ks.length).all fun j => clauseB P is (defs (ks.take j)) (ks.getD j tr0)
def caseT (E : Tr → Bool) (t : Tr) : Bool := decide (2 ≤ t.kids.length) && (t.kids.take (t.kids.length - 1)).all E
def switchB (E P : Tr → Bool) (d : Nd) (ks : List Tr) (m : Nat) : Bool :=
  decide (m ≤ ks.length) && (hasB false false true d && ((ks.take m).all E && ((ks.drop m).all (kindT 14) && clausesB P (caseT E) (ks.drop m))))
def switchesB (E P : Tr → Bool) (d : Nd) (ks : List Tr) : Bool := if d.n = 0 then switchB E P d ks 0 else if d.n = 1 then switchB E P d ks 1 else false
def armB (t : Tr) : Bool := t.d.k == 9 || (t.d.k != 8 && recvB (kn (t.kids.length - 1) t.kids).d)
def armT (E : Tr → Bool) (t : Tr) : Bool := t.kids.length == 2 && (simpleT E (kn 0 t.kids) && armB (kn 0 t.kids))
def selectsB (E P : Tr → Bool) (d : Nd) (ks : List Tr) : Bool := hasB false false false d && (ks.all (kindT 16) && clausesB P (armT E) ks)
/-- A statement, by depth. -/
def stmtB (E : Tr → Bool) : Nat → Tr → Bool
  | 0, _ => false
  | f + 1, .mk d ks =>
    if d.k = 4 then blockB (stmtB E f) d ks else if d.k = 5 then varB E d ks else if d.k = 11 then ifB E (stmtB E f) d ks else if d.k = 12 then loopB E (stmtB E f) d ks
    else if d.k = 13 then switchesB E (stmtB E f) d ks else if d.k = 15 then selectsB E (stmtB E f) d ks else if d.k = 17 then goB E d ks else if d.k = 18 then retB E d ks
    else if d.k = 19 then brkB d ks else if d.k = 20 then brkB d ks else simpleB E d ks
def funT (F : Nat) (t : Tr) : Bool := funcB (stmtB (exprB F) F) t.d t.kids
/-- Is a tree a right file? (0, 41, 42) -/
def rightT (t : Tr) : Int := rightN (funT (size t)) t.d t.kids
theorem defs_snoc (ks : List Tr) (j : Nat) (hj : j < ks.length) : defs (ks.take (j + 1)) = defs (ks.take j) + (if (ks.getD j tr0).d.n = 1 then 1 else 0) := by
  unfold defs
  rw [List.take_add_one, List.getElem?_eq_getElem hj, List.filter_append, List.length_append]
  simp only [Option.toList_some, List.getD_eq_getElem?_getD, List.getElem?_eq_getElem hj, Option.getD_some]
  by_cases h : ks[j].d.n = 1 <;> simp [h]
theorem defs_le (ks : List Tr) : defs ks ≤ ks.length := List.length_filter_le _ _
end Go.Proofs.YtgodeffkboihlaaGreatDoor.Tpt
