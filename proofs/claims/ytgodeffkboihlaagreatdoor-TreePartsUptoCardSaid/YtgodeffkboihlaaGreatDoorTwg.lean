/- tree's writer: expr of any right expression. -/
import Derived.Test.YtgodeffkboihlaaGreatDoorTwf
set_option linter.unusedVariables false
namespace Go.Proofs.YtgodeffkboihlaaGreatDoor.Twg
open Go.RowKit Tra Trb Trf Trd Tcn Trh Tha Txa Tpr Tpt Twa Twb Twc Twd Twe Twf

theorem expr_kind25 {f : Nat} {t : Tr} (h : exprB f t = true) : t.d.k ≠ 25 := by
  intro e
  cases f with
  | zero => simp [exprB] at h
  | succ f =>
    obtain ⟨d, ks⟩ := t
    simp only [Tr.d] at e
    simp only [exprB, e] at h
    simp at h
theorem item_of {f : Nat} {t : Tr} (h : exprB f t = true) : itemOf (exprB f) t = true := by
  rw [Txg.itemOf_other _ (expr_kind25 h)]; exact h
theorem all_kid {p : Tr → Bool} {ks : List Tr} (h : ks.all p = true) {j : Nat} (hj : j < ks.length) : p (kid j ks) = true := by
  rw [List.all_eq_true] at h
  unfold kid
  rw [List.getD_eq_getElem?_getD, List.getElem?_eq_getElem hj, Option.getD_some]
  exact h _ (List.getElem_mem hj)
theorem unary_text {f : Nat} {t : Tr} (h : exprB f t = true) (hk : t.d.k = 26) : Lib.containsS unS t.d.text = true := by
  cases f with
  | zero => simp [exprB] at h
  | succ f =>
    obtain ⟨d, ks⟩ := t
    simp only [Tr.d] at hk ⊢
    simp only [exprB, hk] at h
    simp [unaryB] at h
    exact h.1
/-- What is asked of a node that is written as an expression. -/
def Fine (f : Nat) (t : Tr) : Prop := t.d.k = 21 ∨ itemOf (exprB f) t = true
theorem fine_of {f : Nat} {t : Tr} (h : exprB f t = true) : Fine f t := .inr (item_of h)
theorem expr_writes : ∀ (f : Nat) (t : Tr), size t ≤ f → Fit t → Fine f t → Writes 68 (exprT f t) t := by
  intro f
  induction f with
  | zero => intro t ht; have := size_pos t; omega
  | succ f ih =>
    rintro ⟨d, ks⟩ ht hF hfine B p dd l w b o hS hA hl
    have hlen := fit_len hF
    have hnd := fit_nd hF
    have hkid : ∀ j, j < ks.length → Fine f (kid j ks) → Writes 68 (exprT f (kid j ks)) (kid j ks) := fun j hj h => ih _ (by have := size_kid hj; simp only [size] at ht; show size (ks.getD j tr0) ≤ f; omega) (fit_kid hF hj) h
    simp only [exprT] at hl ⊢
    rcases hfine with hk | hB
    · simp only [Tr.d] at hk
      rw [if_pos hk] at hl ⊢
      exact expr_21 (fun _ => []) d ks hk hlen hS hA hl
    by_cases h5 : d.k = 25
    · rw [if_neg (by omega), if_neg (by omega), if_neg (by omega), if_neg (by omega), if_pos h5] at hl ⊢
      exact expr_25 (fun _ => []) d ks h5 (Nat.le_trans hnd.text (by omega)) hlen hS hA hl
    rw [Txg.itemOf_other _ (t := .mk d ks) h5] at hB
    simp only [exprB] at hB
    by_cases h0 : d.k = 21
    · rw [if_pos h0] at hl ⊢; exact expr_21 (fun _ => []) d ks h0 hlen hS hA hl
    rw [if_neg h0] at hl hB ⊢
    by_cases h1 : d.k = 22
    · rw [if_pos h1] at hl ⊢; exact expr_22 (fun _ => []) d ks h1 hnd.n hlen hS hA hl
    rw [if_neg h1] at hl hB ⊢
    by_cases h2 : d.k = 23
    · rw [if_pos h2] at hl hB ⊢
      by_cases n0 : d.n = 0
      · rw [if_pos n0] at hl ⊢; exact expr_23_0 (fun _ => []) d ks h2 n0 hlen hS hA hl
      · rw [if_neg n0] at hl ⊢
        have n1 : d.n = 1 := by simp [boolB, n0] at hB; exact hB.1
        exact expr_23_1 (fun _ => []) d ks h2 n1 hlen hS hA hl
    rw [if_neg h2] at hl hB ⊢
    by_cases h3 : d.k = 24
    · rw [if_pos h3] at hl ⊢; exact expr_24 (fun _ => []) d ks h3 hlen hS hA hl
    rw [if_neg h3] at hl hB ⊢
    rw [if_neg h5] at hl ⊢
    by_cases h4 : d.k = 26
    · rw [if_pos h4] at hl hB ⊢
      simp [unaryB] at hB
      obtain ⟨hU, hlen1, _, hE0⟩ := hB
      have hk0 : 0 < ks.length := by omega
      have hE0' : exprB f (kid 0 ks) = true := hE0
      exact expr_26 (exprT f) _ d ks h4 hk0 rfl hU (fun e => unary_text hE0' e) hlen (fun j hj => hkid j hj (by (have e : j = 0 := by omega); subst e; exact fine_of hE0')) hS hA hl
    rw [if_neg h4] at hl hB ⊢
    by_cases h6 : d.k = 27
    · rw [if_pos h6] at hl hB ⊢
      simp only [binaryB, Bool.and_eq_true, beq_iff_eq] at hB
      obtain ⟨_, hlen2, _, hall⟩ := hB
      exact expr_27 (exprT f) _ _ d ks h6 hlen2 rfl rfl hlen (fun j hj => hkid j hj (fine_of (all_kid hall hj))) hS hA hl
    rw [if_neg h6] at hl hB ⊢
    by_cases h7 : d.k = 28
    · rw [if_pos h7] at hl hB ⊢
      have hall : ∀ j, j < ks.length → Fine f (kid j ks) := by
        intro j hj
        unfold callB at hB
        split at hB
        · simp only [Bool.and_eq_true] at hB; exact fine_of (all_kid hB.2 hj)
        · split at hB
          · simp only [Bool.and_eq_true] at hB; exact .inr (all_kid hB.2 hj)
          · simp only [Bool.and_eq_true] at hB; exact fine_of (all_kid hB.2.2 hj)
      exact expr_28 (exprT f) d ks h7 hlen (fun j hj => hkid j hj (hall j hj)) hS hA hl
    rw [if_neg h7] at hl hB ⊢
    by_cases h8 : d.k = 29
    · rw [if_pos h8] at hl hB ⊢
      simp only [makeB, Bool.and_eq_true, decide_eq_true_eq] at hB
      obtain ⟨hle, _, _, hall⟩ := hB
      have hE := fun j hj => hkid j hj (fine_of (all_kid hall hj))
      rcases Nat.lt_or_ge ks.length 1 with h | h
      · exact expr_29_0 (exprT f) d ks h8 (List.length_eq_zero_iff.1 (by omega)) hlen hE hS hA hl
      · exact expr_29_1 (exprT f) d ks h8 (by omega) hlen hE hS hA hl
    rw [if_neg h8] at hl hB ⊢
    by_cases h9 : d.k = 30
    · rw [if_pos h9] at hl hB ⊢
      simp only [methodB, Bool.and_eq_true, decide_eq_true_eq] at hB
      obtain ⟨hle, _, _, hall⟩ := hB
      exact expr_30 (exprT f) _ d ks h9 (by omega) rfl hlen (fun j hj => hkid j hj (fine_of (all_kid hall hj))) hS hA hl
    rw [if_neg h9] at hB
    cases hB
end Go.Proofs.YtgodeffkboihlaaGreatDoor.Twg
