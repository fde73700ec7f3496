/- tree.simple, stmt, block, function of any tree; tree.Right. -/
import Derived.Test.YtgodeffkboihlaaGreatDoorTqe
import Derived.Test.YtgodeffkboihlaaGreatDoorTqf
import Derived.Test.YtgodeffkboihlaaGreatDoorTqg
set_option linter.unusedVariables false
namespace Go.Proofs.YtgodeffkboihlaaGreatDoor.Tqh
open Go.RowKit Go.Sort Tra Trb Trf Trd Tcn Trh Tha Nam Txa Tpr Tyq Txe Txg Txs Txi Txu Txv Txw Tqb Tpt Tqc Tqd Tqe Tqf Tqg

set_option maxHeartbeats 4000000 in
set_option maxRecDepth 100000 in
theorem simple_other (d : Nd) (ks : List Tr) (hk : d.k ≠ 6 ∧ d.k ≠ 7 ∧ d.k ≠ 8 ∧ d.k ≠ 9 ∧ d.k ≠ 10) (S : Nat → Prop) (b o : Nat) (w : World) (hA : At w S (.mk d ks) b o) :
    Calls Tryz.prog 66 #[.pointer (some ⟨b, o, none⟩)] w fun e w' => e = .returned (.bool false) ∧ Below w.heap.size w w' := by
  obtain ⟨a, c, hN⟩ := Nod.start hA
  obtain ⟨k, tx, n, ty, s4, s5, s6⟩ := d
  obtain ⟨c0, c1, c2, c3, c4, c5, c6, c7⟩ := hN.cells
  obtain ⟨h0, h1, h2, h3, h4⟩ := hk
  have e0 : (k == 6) = false := beq_false_of_ne h0
  have e1 : (k == 7) = false := beq_false_of_ne h1
  have e2 : (k == 8) = false := beq_false_of_ne h2
  have e3 : (k == 9) = false := beq_false_of_ne h3
  have e4 : (k == 10) = false := beq_false_of_ne h4
  clear hA hN h0 h1 h2 h3 h4
  go_enter Tryz.func66, Tryz.ntmps66
  go_wp2
  go_ret
  exact ⟨rfl, Below.refl _ _⟩
theorem simple_pays (f : Nat) : ∀ t : Tr, size t ≤ f → Fit t → Pays 66 (simpleT (exprB f)) t := by
  rintro ⟨d, ks⟩ ht hF S b o w hA
  have hE : ∀ j, j < ks.length → Pays 62 (exprB f) (ks.getD j tr0) := fun j hj => expr_pays f _ (by have := size_kid hj; simp only [size] at ht; omega) (fit_kid hF hj)
  show Calls _ _ _ _ fun e w' => e = .returned (.bool (simpleB (exprB f) d ks)) ∧ _
  unfold simpleB
  have hlet : d.k = 6 ∨ d.k = 7 → Calls Tryz.prog 66 #[.pointer (some ⟨b, o, none⟩)] w fun e w' => e = .returned (.bool (letsB (exprB f) d ks)) ∧ Below w.heap.size w w' := by
    intro hk
    unfold letsB
    by_cases h1 : d.n = 1
    · rw [if_pos h1]
      rcases hk with hk | hk
      · exact let_1_6 _ d ks hk h1 hF hE S b o w hA
      · exact let_1_7 _ d ks hk h1 hF hE S b o w hA
    rw [if_neg h1]
    by_cases h2 : d.n = 2
    · rw [if_pos h2]
      rcases hk with hk | hk
      · exact let_2_6 _ d ks hk h2 hF hE S b o w hA
      · exact let_2_7 _ d ks hk h2 hF hE S b o w hA
    rw [if_neg h2]
    exact let_none (exprB f) d ks hk ⟨h1, h2⟩ S b o w hA
  by_cases h0 : d.k = 6
  · rw [if_pos h0]; exact hlet (.inl h0)
  rw [if_neg h0]
  by_cases h1 : d.k = 7
  · rw [if_pos h1]; exact hlet (.inr h1)
  rw [if_neg h1]
  by_cases h2 : d.k = 8
  · rw [if_pos h2]; exact simple_step _ d ks hF h2 hE S b o w hA
  rw [if_neg h2]
  by_cases h3 : d.k = 9
  · rw [if_pos h3]; exact simple_send _ d ks hF h3 hE S b o w hA
  rw [if_neg h3]
  by_cases h4 : d.k = 10
  · rw [if_pos h4]; exact simple_do _ d ks hF h4 hE S b o w hA
  rw [if_neg h4]
  exact simple_other d ks ⟨h0, h1, h2, h3, h4⟩ S b o w hA
theorem block_pays (P : Tr → Bool) : ∀ t : Tr, Fit t → (∀ j, j < t.kids.length → Pays 50 P (t.kids.getD j tr0)) → Pays 38 (blockT P) t := by
  rintro ⟨d, ks⟩ hF hp S b o w hA
  exact block_any P d ks hF hp S b o w hA
set_option maxHeartbeats 4000000 in
set_option maxRecDepth 100000 in
theorem stmt_4 (d : Nd) (ks : List Tr) (hk : d.k = 4) (r : Bool) (S : Nat → Prop) (b o : Nat) (w : World) (hA : At w S (.mk d ks) b o) (h : Calls Tryz.prog 38 #[.pointer (some ⟨b, o, none⟩)] w fun e w' => e = .returned (.bool r) ∧ Below w.heap.size w w') :
    Calls Tryz.prog 50 #[.pointer (some ⟨b, o, none⟩)] w fun e w' => e = .returned (.bool r) ∧ Below w.heap.size w w' := by
  obtain ⟨a, c, hN⟩ := Nod.start hA
  obtain ⟨k, tx, n, ty, s4, s5, s6⟩ := d
  simp only at hk
  subst hk
  obtain ⟨c0, c1, c2, c3, c4, c5, c6, c7⟩ := hN.cells
  have H := Lib.hid h
  clear hA hN h
  go_enter Tryz.func50, Tryz.ntmps50
  go_wp2_with fail
  refine H.out.mono ?_
  rintro e w1 ⟨rfl, hb⟩
  go_wp2
  go_ret
  exact ⟨rfl, hb⟩
set_option maxHeartbeats 4000000 in
set_option maxRecDepth 100000 in
theorem stmt_12 (d : Nd) (ks : List Tr) (hk : d.k = 12) (r : Bool) (S : Nat → Prop) (b o : Nat) (w : World) (hA : At w S (.mk d ks) b o) (h : Calls Tryz.prog 63 #[.pointer (some ⟨b, o, none⟩)] w fun e w' => e = .returned (.bool r) ∧ Below w.heap.size w w') :
    Calls Tryz.prog 50 #[.pointer (some ⟨b, o, none⟩)] w fun e w' => e = .returned (.bool r) ∧ Below w.heap.size w w' := by
  obtain ⟨a, c, hN⟩ := Nod.start hA
  obtain ⟨k, tx, n, ty, s4, s5, s6⟩ := d
  simp only at hk
  subst hk
  obtain ⟨c0, c1, c2, c3, c4, c5, c6, c7⟩ := hN.cells
  have H := Lib.hid h
  clear hA hN h
  go_enter Tryz.func50, Tryz.ntmps50
  go_wp2_with fail
  refine H.out.mono ?_
  rintro e w1 ⟨rfl, hb⟩
  go_wp2
  go_ret
  exact ⟨rfl, hb⟩
set_option maxHeartbeats 4000000 in
set_option maxRecDepth 100000 in
theorem stmt_13 (d : Nd) (ks : List Tr) (hk : d.k = 13) (r : Bool) (S : Nat → Prop) (b o : Nat) (w : World) (hA : At w S (.mk d ks) b o) (h : Calls Tryz.prog 64 #[.pointer (some ⟨b, o, none⟩)] w fun e w' => e = .returned (.bool r) ∧ Below w.heap.size w w') :
    Calls Tryz.prog 50 #[.pointer (some ⟨b, o, none⟩)] w fun e w' => e = .returned (.bool r) ∧ Below w.heap.size w w' := by
  obtain ⟨a, c, hN⟩ := Nod.start hA
  obtain ⟨k, tx, n, ty, s4, s5, s6⟩ := d
  simp only at hk
  subst hk
  obtain ⟨c0, c1, c2, c3, c4, c5, c6, c7⟩ := hN.cells
  have H := Lib.hid h
  clear hA hN h
  go_enter Tryz.func50, Tryz.ntmps50
  go_wp2_with fail
  refine H.out.mono ?_
  rintro e w1 ⟨rfl, hb⟩
  go_wp2
  go_ret
  exact ⟨rfl, hb⟩
set_option maxHeartbeats 4000000 in
set_option maxRecDepth 100000 in
theorem stmt_15 (d : Nd) (ks : List Tr) (hk : d.k = 15) (r : Bool) (S : Nat → Prop) (b o : Nat) (w : World) (hA : At w S (.mk d ks) b o) (h : Calls Tryz.prog 65 #[.pointer (some ⟨b, o, none⟩)] w fun e w' => e = .returned (.bool r) ∧ Below w.heap.size w w') :
    Calls Tryz.prog 50 #[.pointer (some ⟨b, o, none⟩)] w fun e w' => e = .returned (.bool r) ∧ Below w.heap.size w w' := by
  obtain ⟨a, c, hN⟩ := Nod.start hA
  obtain ⟨k, tx, n, ty, s4, s5, s6⟩ := d
  simp only at hk
  subst hk
  obtain ⟨c0, c1, c2, c3, c4, c5, c6, c7⟩ := hN.cells
  have H := Lib.hid h
  clear hA hN h
  go_enter Tryz.func50, Tryz.ntmps50
  go_wp2_with fail
  refine H.out.mono ?_
  rintro e w1 ⟨rfl, hb⟩
  go_wp2
  go_ret
  exact ⟨rfl, hb⟩
set_option maxHeartbeats 4000000 in
set_option maxRecDepth 100000 in
theorem stmt_other (d : Nd) (ks : List Tr) (hk : d.k ≠ 4 ∧ d.k ≠ 5 ∧ d.k ≠ 11 ∧ d.k ≠ 12 ∧ d.k ≠ 13 ∧ d.k ≠ 15 ∧ d.k ≠ 17 ∧ d.k ≠ 18 ∧ d.k ≠ 19 ∧ d.k ≠ 20) (r : Bool) (S : Nat → Prop) (b o : Nat) (w : World) (hA : At w S (.mk d ks) b o) (h : Calls Tryz.prog 66 #[.pointer (some ⟨b, o, none⟩)] w fun e w' => e = .returned (.bool r) ∧ Below w.heap.size w w') :
    Calls Tryz.prog 50 #[.pointer (some ⟨b, o, none⟩)] w fun e w' => e = .returned (.bool r) ∧ Below w.heap.size w w' := by
  obtain ⟨a, c, hN⟩ := Nod.start hA
  obtain ⟨k, tx, n, ty, s4, s5, s6⟩ := d
  obtain ⟨c0, c1, c2, c3, c4, c5, c6, c7⟩ := hN.cells
  obtain ⟨h4, h5, h11, h12, h13, h15, h17, h18, h19, h20⟩ := hk
  have e4 : (k == 4) = false := beq_false_of_ne h4
  have e5 : (k == 5) = false := beq_false_of_ne h5
  have e11 : (k == 11) = false := beq_false_of_ne h11
  have e12 : (k == 12) = false := beq_false_of_ne h12
  have e13 : (k == 13) = false := beq_false_of_ne h13
  have e15 : (k == 15) = false := beq_false_of_ne h15
  have e17 : (k == 17) = false := beq_false_of_ne h17
  have e18 : (k == 18) = false := beq_false_of_ne h18
  have e19 : (k == 19) = false := beq_false_of_ne h19
  have e20 : (k == 20) = false := beq_false_of_ne h20
  have H := Lib.hid h
  clear hA hN h h4 h5 h11 h12 h13 h15 h17 h18 h19 h20
  go_enter Tryz.func50, Tryz.ntmps50
  go_wp2_with fail
  refine H.out.mono ?_
  rintro e w1 ⟨rfl, hb⟩
  go_wp2
  go_ret
  exact ⟨rfl, hb⟩
theorem stmt_pays (F : Nat) : ∀ (f : Nat) (t : Tr), size t ≤ f → size t ≤ F → Fit t → Pays 50 (stmtB (exprB F) f) t := by
  intro f
  induction f with
  | zero => intro t ht; have := size_pos t; omega
  | succ f ih =>
    rintro ⟨d, ks⟩ ht hT hF S b o w hA
    have hsz : ∀ j, j < ks.length → size (ks.getD j tr0) ≤ f ∧ size (ks.getD j tr0) ≤ F := fun j hj => by have := size_kid hj; simp only [size] at ht hT; omega
    have hE : ∀ j, j < ks.length → Pays 62 (exprB F) (ks.getD j tr0) := fun j hj => expr_pays F _ (hsz j hj).2 (fit_kid hF hj)
    have hP : ∀ j, j < ks.length → Pays 50 (stmtB (exprB F) f) (ks.getD j tr0) := fun j hj => ih _ (hsz j hj).1 (hsz j hj).2 (fit_kid hF hj)
    have hM : ∀ j, j < ks.length → Pays 66 (simpleT (exprB F)) (ks.getD j tr0) := fun j hj => simple_pays F _ (hsz j hj).2 (fit_kid hF hj)
    have hin : ∀ (t : Tr), ∀ i, i < t.kids.length → size (t.kids.getD i tr0) ≤ size t := fun t i hi => by
      obtain ⟨d', ks'⟩ := t
      have := size_kid (l := ks') hi
      simp only [size, Tr.kids] at this ⊢; omega
    have hfit : ∀ (t : Tr), Fit t → ∀ i, i < t.kids.length → Fit (t.kids.getD i tr0) := fun t h i hi => by
      obtain ⟨d', ks'⟩ := t
      exact fit_kid h hi
    have hBk : ∀ (t : Tr), size t ≤ f → size t ≤ F → Fit t → Pays 38 (blockT (stmtB (exprB F) f)) t := fun t h1 h2 hft =>
      block_pays _ t hft fun i hi => ih _ (Nat.le_trans (hin t i hi) h1) (Nat.le_trans (hin t i hi) h2) (hfit t hft i hi)
    have hB : ∀ j, j < ks.length → Pays 38 (blockT (stmtB (exprB F) f)) (ks.getD j tr0) := fun j hj => hBk _ (hsz j hj).1 (hsz j hj).2 (fit_kid hF hj)
    have hB2 : ∀ j, j < ks.length → ∀ i, i < (ks.getD j tr0).kids.length → Pays 38 (blockT (stmtB (exprB F) f)) ((ks.getD j tr0).kids.getD i tr0) := fun j hj i hi => by
      have h1 := hin _ i hi
      exact hBk _ (Nat.le_trans h1 (hsz j hj).1) (Nat.le_trans h1 (hsz j hj).2) (hfit _ (fit_kid hF hj) i hi)
    have hE2 : ∀ j, j < ks.length → ∀ i, i < (ks.getD j tr0).kids.length → Pays 62 (exprB F) ((ks.getD j tr0).kids.getD i tr0) := fun j hj i hi => by
      have h1 := hin _ i hi
      exact expr_pays F _ (Nat.le_trans h1 (hsz j hj).2) (hfit _ (fit_kid hF hj) i hi)
    have hM2 : ∀ j, j < ks.length → ∀ i, i < (ks.getD j tr0).kids.length → Pays 66 (simpleT (exprB F)) ((ks.getD j tr0).kids.getD i tr0) := fun j hj i hi => by
      have h1 := hin _ i hi
      exact simple_pays F _ (Nat.le_trans h1 (hsz j hj).2) (hfit _ (fit_kid hF hj) i hi)
    simp only [stmtB]
    by_cases h0 : d.k = 4
    · rw [if_pos h0]; exact stmt_4 d ks h0 _ S b o w hA (block_any _ d ks hF hP S b o w hA)
    rw [if_neg h0]
    by_cases h1 : d.k = 5
    · rw [if_pos h1]; exact stmt_var _ d ks hF h1 hE S b o w hA
    rw [if_neg h1]
    by_cases h2 : d.k = 11
    · rw [if_pos h2]; exact stmt_if _ _ d ks hF h2 hE hP hB S b o w hA
    rw [if_neg h2]
    by_cases h3 : d.k = 12
    · rw [if_pos h3]
      refine stmt_12 d ks h3 _ S b o w hA ?_
      by_cases n0 : d.n = 0
      · exact loop_0 _ _ d ks n0 hF hE hB hM S b o w hA
      by_cases n1 : d.n = 1
      · exact loop_1 _ _ d ks n1 hF hE hB hM S b o w hA
      by_cases n2 : d.n = 2
      · exact loop_2 _ _ d ks n2 hF hE hB hM S b o w hA
      by_cases n3 : d.n = 3
      · exact loop_3 _ _ d ks n3 hF hE hB hM S b o w hA
      have hR : loopB (exprB F) (stmtB (exprB F) f) d ks = false := by unfold loopB; rw [if_neg n0, if_neg n1, if_neg n2, if_neg n3]
      rw [hR]
      exact loop_none d ks (by omega) S b o w hA
    rw [if_neg h3]
    by_cases h4 : d.k = 13
    · rw [if_pos h4]
      refine stmt_13 d ks h4 _ S b o w hA ?_
      unfold switchesB
      by_cases n0 : d.n = 0
      · rw [if_pos n0]; exact switch_0 _ _ d ks n0 hF hE hB2 hE2 S b o w hA
      rw [if_neg n0]
      by_cases n1 : d.n = 1
      · rw [if_pos n1]; exact switch_1 _ _ d ks n1 hF hE hB2 hE2 S b o w hA
      rw [if_neg n1]
      exact switch_none d ks ⟨n0, n1⟩ S b o w hA
    rw [if_neg h4]
    by_cases h5 : d.k = 15
    · rw [if_pos h5]; exact stmt_15 d ks h5 _ S b o w hA (selects_any _ _ d ks hF hB2 hM2 S b o w hA)
    rw [if_neg h5]
    by_cases h6 : d.k = 17
    · rw [if_pos h6]; exact stmt_go _ d ks hF h6 hE S b o w hA
    rw [if_neg h6]
    by_cases h7 : d.k = 18
    · rw [if_pos h7]; exact stmt_ret _ d ks hF h7 hE S b o w hA
    rw [if_neg h7]
    by_cases h8 : d.k = 19
    · rw [if_pos h8]; exact stmt_break d ks hF h8 S b o w hA
    rw [if_neg h8]
    by_cases h9 : d.k = 20
    · rw [if_pos h9]; exact stmt_continue d ks hF h9 S b o w hA
    rw [if_neg h9]
    exact stmt_other d ks ⟨h0, h1, h2, h3, h4, h5, h6, h7, h8, h9⟩ _ S b o w hA (simple_pays F _ hT hF S b o w hA)
/-- A function, in a tree of at most F nodes. -/
theorem fun_pays (F : Nat) (t : Tr) (ht : size t ≤ F) (hF : Fit t) : Pays 26 (funT F) t := by
  obtain ⟨d, ks⟩ := t
  intro S b o w hA
  refine func_any (stmtB (exprB F) F) d ks hF (fun j hj => ?_) S b o w hA
  have h1 : size (ks.getD j tr0) ≤ F := by have := size_kid hj; simp only [size] at ht; omega
  refine block_pays _ _ (fit_kid hF hj) fun i hi => ?_
  have h2 : size ((ks.getD j tr0).kids.getD i tr0) ≤ size (ks.getD j tr0) := by
    generalize ks.getD j tr0 = u at hi ⊢
    obtain ⟨d', ks'⟩ := u
    have := size_kid (l := ks') hi
    simp only [size, Tr.kids] at this ⊢; omega
  refine stmt_pays F F _ (by omega) (by omega) ?_
  have h3 := fit_kid hF hj
  generalize ks.getD j tr0 = u at hi h3 ⊢
  obtain ⟨d', ks'⟩ := u
  exact fit_kid h3 hi
/-- tree.Right of any tree. -/
theorem right_tree (t : Tr) (hF : Fit t) (S : Nat → Prop) (v : Value) (w : World) (hv : Lies w S t v) :
    Calls Tryz.prog 10 #[v] w fun e w' => e = .returned (.int .i64 (rightT t)) ∧ Below w.heap.size w w' := by
  obtain ⟨d, ks⟩ := t
  refine tright_any (funT (size (.mk d ks))) d ks hF (fun j hj => ?_) S v w hv
  exact fun_pays _ _ (by have := size_kid hj; simp only [size]; omega) (fit_kid hF hj)
end Go.Proofs.YtgodeffkboihlaaGreatDoor.Tqh
