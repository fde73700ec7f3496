/- tree.expr and tree.item of any tree. -/
import Derived.Test.YtgodeffkboihlaaGreatDoorTxe
set_option linter.unusedVariables false
namespace Go.Proofs.YtgodeffkboihlaaGreatDoor.Txg
open Go.RowKit Tra Trb Trf Trd Tcn Trh Tha Nam Txa Tpr Tyq Txe

theorem itemOf_text (E : Tr → Bool) {t : Tr} (h : t.d.k = 25) : itemOf E t = (hasB true false false t.d && zero t.kids) := by unfold itemOf; rw [if_pos h]
theorem itemOf_other (E : Tr → Bool) {t : Tr} (h : t.d.k ≠ 25) : itemOf E t = E t := by unfold itemOf; rw [if_neg h]
set_option maxHeartbeats 4000000 in
set_option maxRecDepth 100000 in
theorem item_pays (E : Tr → Bool) : ∀ t : Tr, Fit t → Pays 62 E t → Pays 103 (itemOf E) t := by
  rintro ⟨d, ks⟩ hF h S b o w hA
  obtain ⟨a, c, hN⟩ := Nod.start hA
  have hlen := fit_len hF
  have HC := Lib.hid (h S b o w hA)
  by_cases hk : d.k = 25
  · rw [itemOf_text E (t := .mk d ks) hk]
    simp only [Tr.d, Tr.kids]
    obtain ⟨k, tx, n, ty, s4, s5, s6⟩ := d
    simp only at hk
    subst hk
    have HX := Lib.hid hN
    obtain ⟨c0, c1, c2, c3, c4, c5, c6, c7⟩ := HX.out.cells
    have hlt := HX.out.lt
    clear hA hF hN h
    clear HC
    cases p0 : hasB true false false (⟨25, tx, n, ty, s4, s5, s6⟩ : Nd)
    · have H0 := fun W q0 q1 q2 q3 => has_1 (⟨25, tx, n, ty, s4, s5, s6⟩ : Nd) b o W q0 q1 q2 q3
      rw [p0] at H0
      have HH0 := Lib.hid H0
      clear H0 p0
      go_enter Tryz.func103, Tryz.ntmps103
      go_wp2_with fail
      refine (HH0.out _ c0 c1 c2 c3).mono ?_
      rintro e w1 ⟨rfl, rfl⟩
      go_wp2
      go_ret
      exact ⟨rfl, HX.out.below⟩
    · have H0 := fun W q0 q1 q2 q3 => has_1 (⟨25, tx, n, ty, s4, s5, s6⟩ : Nd) b o W q0 q1 q2 q3
      rw [p0] at H0
      have HH0 := Lib.hid H0
      clear H0 p0
      have hz : (((ks.length : Int) == 0) = true ∧ zero ks = true) ∨ (((ks.length : Int) == 0) = false ∧ zero ks = false) := by
        unfold zero
        by_cases h : ks.length = 0
        · exact .inl ⟨by simp [h], by simp [h]⟩
        · exact .inr ⟨beq_false_of_ne (by omega), beq_false_of_ne h⟩
      rcases hz with ⟨f0, hz⟩ | ⟨f0, hz⟩
      all_goals
        rw [hz]
        clear hz
        go_enter Tryz.func103, Tryz.ntmps103
        go_wp2_with fail
        refine (HH0.out _ c0 c1 c2 c3).mono ?_
        rintro e w1 ⟨rfl, rfl⟩
        go_wp2
        go_ret
        exact ⟨rfl, HX.out.below⟩
  · rw [itemOf_other E (t := .mk d ks) hk]
    obtain ⟨k, tx, n, ty, s4, s5, s6⟩ := d
    have f0 : (k == 25) = false := beq_false_of_ne hk
    obtain ⟨c0, c1, c2, c3, c4, c5, c6, c7⟩ := hN.cells
    obtain ⟨r, hr⟩ : ∃ r, E (.mk ⟨k, tx, n, ty, s4, s5, s6⟩ ks) = r := ⟨_, rfl⟩
    rw [hr] at HC
    rw [hr]
    clear hA hF hN h
    clear hr hk
    go_enter Tryz.func103, Tryz.ntmps103
    go_wp2_with fail
    refine HC.out.mono ?_
    rintro e w1 ⟨rfl, hb⟩
    go_wp2
    go_ret
    exact ⟨rfl, hb⟩
set_option maxHeartbeats 4000000 in
set_option maxRecDepth 100000 in
theorem expr_other (d : Nd) (ks : List Tr) (hk : d.k ≠ 21 ∧ d.k ≠ 22 ∧ d.k ≠ 23 ∧ d.k ≠ 24 ∧ d.k ≠ 26 ∧ d.k ≠ 27 ∧ d.k ≠ 28 ∧ d.k ≠ 29 ∧ d.k ≠ 30) (hF : Fit (.mk d ks)) (S : Nat → Prop) (b o : Nat) (w : World) (hA : At w S (.mk d ks) b o) :
    Calls Tryz.prog 62 #[.pointer (some ⟨b, o, none⟩)] w fun e w' => e = .returned (.bool false) ∧ Below w.heap.size w w' := by
  obtain ⟨a, c, hN⟩ := Nod.start hA
  have hlen := fit_len hF
  obtain ⟨k, tx, n, ty, s4, s5, s6⟩ := d
  obtain ⟨c0, c1, c2, c3, c4, c5, c6, c7⟩ := hN.cells
  obtain ⟨h0, h1, h2, h3, h4, h5, h6, h7, h8⟩ := hk
  have e0 : (k == 21) = false := beq_false_of_ne h0
  have e1 : (k == 22) = false := beq_false_of_ne h1
  have e2 : (k == 23) = false := beq_false_of_ne h2
  have e3 : (k == 24) = false := beq_false_of_ne h3
  have e4 : (k == 26) = false := beq_false_of_ne h4
  have e5 : (k == 27) = false := beq_false_of_ne h5
  have e6 : (k == 28) = false := beq_false_of_ne h6
  have e7 : (k == 29) = false := beq_false_of_ne h7
  have e8 : (k == 30) = false := beq_false_of_ne h8
  clear hA hF hN h0 h1 h2 h3 h4 h5 h6 h7 h8
  go_enter Tryz.func62, Tryz.ntmps62
  go_wp2
  go_ret
  exact ⟨rfl, Below.refl _ _⟩
theorem expr_pays : ∀ (f : Nat) (t : Tr), size t ≤ f → Fit t → Pays 62 (exprB f) t := by
  intro f
  induction f with
  | zero => intro t ht; have := size_pos t; omega
  | succ f ih =>
    rintro ⟨d, ks⟩ ht hF S b o w hA
    have hkid : ∀ j, j < ks.length → Pays 62 (exprB f) (ks.getD j tr0) := fun j hj => ih _ (by have := size_kid hj; simp only [size] at ht; omega) (fit_kid hF hj)
    have hit : ∀ j, j < ks.length → Pays 103 (itemOf (exprB f)) (ks.getD j tr0) := fun j hj => item_pays _ _ (fit_kid hF hj) (hkid j hj)
    simp only [exprB]
    by_cases h0 : d.k = 21
    · rw [if_pos h0]; exact expr_name d ks hF h0 S b o w hA
    rw [if_neg h0]
    by_cases h1 : d.k = 22
    · rw [if_pos h1]; exact expr_int d ks hF h1 S b o w hA
    rw [if_neg h1]
    by_cases h2 : d.k = 23
    · rw [if_pos h2]; exact expr_bool d ks hF h2 S b o w hA
    rw [if_neg h2]
    by_cases h3 : d.k = 24
    · rw [if_pos h3]; exact expr_nil d ks hF h3 S b o w hA
    rw [if_neg h3]
    by_cases h4 : d.k = 26
    · rw [if_pos h4]; exact expr_unary _ d ks hF h4 hkid S b o w hA
    rw [if_neg h4]
    by_cases h5 : d.k = 27
    · rw [if_pos h5]; exact expr_binary _ d ks hF h5 hkid S b o w hA
    rw [if_neg h5]
    by_cases h6 : d.k = 28
    · rw [if_pos h6]; exact expr_call _ d ks hF h6 hkid hit S b o w hA
    rw [if_neg h6]
    by_cases h7 : d.k = 29
    · rw [if_pos h7]; exact expr_make _ d ks hF h7 hkid S b o w hA
    rw [if_neg h7]
    by_cases h8 : d.k = 30
    · rw [if_pos h8]; exact expr_method _ d ks hF h8 hkid S b o w hA
    rw [if_neg h8]
    exact expr_other d ks ⟨h0, h1, h2, h3, h4, h5, h6, h7, h8⟩ hF S b o w hA
end Go.Proofs.YtgodeffkboihlaaGreatDoor.Txg
