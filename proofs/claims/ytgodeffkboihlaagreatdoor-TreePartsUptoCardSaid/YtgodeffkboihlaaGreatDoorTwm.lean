/- tree's writer: any right statement. -/
import Derived.Test.YtgodeffkboihlaaGreatDoorTwl
set_option linter.unusedVariables false
namespace Go.Proofs.YtgodeffkboihlaaGreatDoor.Twm
open Go.RowKit Tra Trb Trf Trd Tcn Trh Tha Txa Tpr Tpt Txi Txw Tqb Tqd Twa Twb Twc Twd Twe Twg Twh Twi Twj Twk Twl

theorem size_in (t : Tr) {i : Nat} (hi : i < t.kids.length) : size (kid i t.kids) < size t := by
  obtain ⟨d, ks⟩ := t
  have := size_kid (l := ks) hi
  show size (ks.getD i tr0) < size (.mk d ks)
  simp only [size]; omega
theorem fit_in {t : Tr} (h : Fit t) {i : Nat} (hi : i < t.kids.length) : Fit (kid i t.kids) := by
  obtain ⟨d, ks⟩ := t
  exact fit_kid h hi
theorem len_in {t : Tr} (h : Fit t) : t.kids.length ≤ 1048576 := by
  obtain ⟨d, ks⟩ := t
  exact fit_len h
theorem blockT_parts {P : Tr → Bool} {t : Tr} (h : blockT P t = true) : t.kids.all P = true := by
  unfold blockT blockB at h
  simp only [Bool.and_eq_true] at h
  exact h.2.2
/-- A head of any right for. -/
theorem head_writes (F : Nat) (P : Tr → Bool) (d : Nd) (ks : List Tr) (ht : size (.mk d ks) ≤ F) (hF : Fit (.mk d ks)) (hB : loopB (exprB F) P d ks = true) : Writes 69 (headX (exprT F) d ks) (.mk d ks) := by
  intro B p dd l w b o hS hA hl
  have hlen := fit_len hF
  have hsz : ∀ j, j < ks.length → size (kid j ks) ≤ F := fun j hj => Nat.le_trans (Nat.le_of_lt (size_in (.mk d ks) hj)) ht
  have hE : ∀ j, j < ks.length → exprB F (kid j ks) = true → Writes 68 (exprT F (kid j ks)) (kid j ks) := fun j hj h => expr_writes F _ (hsz j hj) (fit_kid hF hj) (fine_of h)
  have hM : ∀ j, j < ks.length → FineM F (kid j ks) → Writes 71 (simpleTx (exprT F) (kid j ks)) (kid j ks) := fun j hj h => simple_writes F _ (hsz j hj) (fit_kid hF hj) h
  have hnone : ∀ t : Tr, noneT t = true → t.d.k = 0 := fun t h => by
    unfold noneT noneB at h
    simp only [Bool.and_eq_true, beq_iff_eq] at h
    exact h.1
  unfold headX at hl ⊢
  unfold loopB at hB
  by_cases n0 : d.n = 0
  · rw [if_neg (by omega), if_neg (by omega), if_neg (by omega)] at hl ⊢
    exact head_0 d ks n0 hlen hS hA hl
  rw [if_neg n0] at hB
  by_cases n1 : d.n = 1
  · rw [if_pos n1] at hl hB ⊢
    simp only [Bool.and_eq_true, beq_iff_eq] at hB
    exact head_1 (exprT F) d ks n1 (hE 0 (by omega) hB.2.2.2) hB.1 hlen hS hA hl
  rw [if_neg n1] at hl hB ⊢
  by_cases n2 : d.n = 2
  · rw [if_pos n2] at hl hB ⊢
    simp only [Bool.and_eq_true, beq_iff_eq, Bool.or_eq_true] at hB
    obtain ⟨h4, _, _, q0, q1, q2⟩ := hB
    have hM0 := hM 0 (by omega) (q0.elim (fun h => .inl (hnone _ h)) .inr)
    have hE1 : (kid 1 ks).d.k ≠ 0 → Writes 68 (exprT F (kid 1 ks)) (kid 1 ks) := fun hk => hE 1 (by omega) (q1.elim (fun h => absurd (hnone _ h) hk) id)
    have hM2 : (kid 2 ks).d.k ≠ 0 → Writes 71 (simpleTx (exprT F) (kid 2 ks)) (kid 2 ks) := fun hk => hM 2 (by omega) (q2.elim (fun h => .inl (hnone _ h)) (fun h => .inr h.2))
    unfold head2 at hl ⊢
    by_cases a : (kid 1 ks).d.k = 0
    · rw [if_pos a] at hl ⊢
      by_cases c : (kid 2 ks).d.k = 0
      · rw [if_pos c] at hl ⊢; exact head_2 (exprT F) d ks n2 a c hM0 h4 hlen hS hA hl
      · rw [if_neg c] at hl ⊢; exact head_2s (exprT F) d ks n2 a c hM0 (hM2 c) h4 hlen hS hA hl
    · rw [if_neg a] at hl ⊢
      by_cases c : (kid 2 ks).d.k = 0
      · rw [if_pos c] at hl ⊢; exact head_2e (exprT F) d ks n2 a c hM0 (hE1 a) h4 hlen hS hA hl
      · rw [if_neg c] at hl ⊢; exact head_2es (exprT F) d ks n2 a c hM0 (hE1 a) (hM2 c) h4 hlen hS hA hl
  rw [if_neg n2] at hl hB ⊢
  by_cases n3 : d.n = 3
  · rw [if_pos n3] at hl hB ⊢
    simp only [Bool.and_eq_true, beq_iff_eq] at hB
    obtain ⟨h3, _, _, q1, _⟩ := hB
    have hE1 := hE 1 (by omega) q1
    unfold head3 at hl ⊢
    cases he : d.text.toList.isEmpty
    · rw [he] at hl
      simp only [Bool.false_eq_true, if_false] at hl ⊢
      exact head_3t (exprT F) d ks n3 he hE1 h3 hlen hS hA hl
    · rw [he] at hl
      simp only [if_true, List.nil_append] at hl ⊢
      exact head_3 (exprT F) d ks n3 he hE1 h3 hlen hS hA hl
  rw [if_neg n3] at hB
  cases hB
section
variable (F f : Nat) (ih : ∀ t : Tr, size t ≤ f → size t ≤ F → Fit t → stmtB (exprB F) f t = true → WritesS 52 (fun k => stmtT (exprT F) f k t) t)
include ih
theorem lines_ok (t : Tr) (h1 : size t ≤ f) (h2 : size t ≤ F) (hF : Fit t) (hB : blockT (stmtB (exprB F) f) t = true) : ∀ i, i < t.kids.length → WritesS 52 (fun k => stmtT (exprT F) f k (kid i t.kids)) (kid i t.kids) := fun i hi =>
  ih _ (Nat.le_trans (Nat.le_of_lt (size_in t hi)) h1) (Nat.le_trans (Nat.le_of_lt (size_in t hi)) h2) (fit_in hF hi) (all_kid (blockT_parts hB) hi)
theorem clause_ok (is : Tr → Bool) (c : Nat) (t : Tr) (h1 : size t ≤ f) (h2 : size t ≤ F) (hF : Fit t) (hB : clauseB (stmtB (exprB F) f) is c t = true) (his : (t.d.k = 14 ∧ is = caseT (exprB F)) ∨ (t.d.k ≠ 14 ∧ is = armT (exprB F))) : ClauseOk (exprT F) (stmtT (exprT F) f) t := by
  have hsz : ∀ j, j < t.kids.length → size (kid j t.kids) ≤ f ∧ size (kid j t.kids) ≤ F := fun j hj => ⟨Nat.le_trans (Nat.le_of_lt (size_in t hj)) h1, Nat.le_trans (Nat.le_of_lt (size_in t hj)) h2⟩
  unfold clauseB okB at hB
  simp only [Bool.and_eq_true, decide_eq_true_eq] at hB
  obtain ⟨⟨_, _, hpos, hbl⟩, hq⟩ := hB
  refine ⟨hpos, ?_, ?_⟩
  · by_cases n1 : t.d.n = 1
    · exact .inl n1
    · rw [if_neg n1] at hq
      right
      rcases his with ⟨hk, rfl⟩ | ⟨hk, rfl⟩
      · left
        refine ⟨n1, hk, fun i hi => ?_⟩
        unfold caseT at hq
        simp only [Bool.and_eq_true, decide_eq_true_eq] at hq
        exact expr_writes F _ (hsz i (by omega)).2 (fit_in hF (by omega)) (fine_of (take_kid hq.2 hi (by omega)))
      · right
        refine ⟨n1, hk, ?_⟩
        unfold armT at hq
        simp only [Bool.and_eq_true, beq_iff_eq] at hq
        exact simple_writes F _ (hsz 0 (by omega)).2 (fit_in hF (by omega)) (.inr hq.2.1)
  · have hl : t.kids.length - 1 < t.kids.length := by omega
    exact lines_ok F f ih _ (hsz _ hl).1 (hsz _ hl).2 (fit_in hF hl) hbl
theorem clauses_ok (is : Tr → Bool) (ks : List Tr) (h1 : sizes ks ≤ f) (h2 : sizes ks ≤ F) (hlen : ks.length ≤ 1048576) (hF : ∀ j, j < ks.length → Fit (kid j ks)) (hB : clausesB (stmtB (exprB F) f) is ks = true) (his : ∀ j, j < ks.length → ((kid j ks).d.k = 14 ∧ is = caseT (exprB F)) ∨ ((kid j ks).d.k ≠ 14 ∧ is = armT (exprB F))) : WritesC (fun k => clausesX (exprT F) (stmtT (exprT F) f) k ks) ks := by
  intro B p k l w a c hS hk hK hl
  refine clauses_writes (exprT F) (stmtT (exprT F) f) ks a c hlen hF (fun j hj => ?_) hS hk hK hl
  have hs := size_kid hj
  exact clause_ok F f ih is _ (kid j ks) (Nat.le_trans hs h1) (Nat.le_trans hs h2) (hF j hj) ((clausesB_iff _ _ _).1 hB j hj) (his j hj)
end
theorem stmt_writes (F : Nat) : ∀ (f : Nat) (t : Tr), size t ≤ f → size t ≤ F → Fit t → stmtB (exprB F) f t = true → WritesS 52 (fun k => stmtT (exprT F) f k t) t := by
  intro f
  induction f with
  | zero => intro t ht; have := size_pos t; omega
  | succ f ih =>
    rintro ⟨d, ks⟩ ht hT hF hB B p k l w b o hS hk hA hl
    have hlen := fit_len hF
    have hz : k + 1 + sizes ks ≤ 1000000000000 := by simp only [size] at hk; omega
    have hszs : sizes ks ≤ f ∧ sizes ks ≤ F := by simp only [size] at ht hT; omega
    have hsz : ∀ j, j < ks.length → size (kid j ks) ≤ f ∧ size (kid j ks) ≤ F := fun j hj => by have := size_kid hj; show size (ks.getD j tr0) ≤ f ∧ size (ks.getD j tr0) ≤ F; omega
    have hE : ∀ j, j < ks.length → exprB F (kid j ks) = true → Writes 68 (exprT F (kid j ks)) (kid j ks) := fun j hj h => expr_writes F _ (hsz j hj).2 (fit_kid hF hj) (fine_of h)
    have hBK : ∀ j, j < ks.length → blockT (stmtB (exprB F) f) (kid j ks) = true → WritesS 28 (fun k => blockX (stmtT (exprT F) f) k (kid j ks)) (kid j ks) := fun j hj h =>
      block_writes _ _ (fit_kid hF hj) (lines_ok F f ih _ (hsz j hj).1 (hsz j hj).2 (fit_kid hF hj) h)
    simp only [stmtT] at hl ⊢
    simp only [stmtB] at hB
    by_cases h0 : d.k = 4
    · rw [if_pos h0] at hl hB ⊢
      have hall : blockT (stmtB (exprB F) f) (.mk d ks) = true := hB
      refine block_w (stmtT (exprT F) f) d ks h0 ?_ hlen hz hS hA hl
      exact block_writes _ _ hF fun i hi => ih _ (hsz i hi).1 (hsz i hi).2 (fit_kid hF hi) (all_kid (blockT_parts hall) hi)
    rw [if_neg h0] at hl hB ⊢
    by_cases h1 : d.k = 5
    · rw [if_pos h1] at hl hB ⊢
      unfold varB at hB
      simp only [Bool.and_eq_true, decide_eq_true_eq] at hB
      obtain ⟨_, _, hle, _, hall⟩ := hB
      unfold varX at hl ⊢
      by_cases e : ks.length = 1
      · rw [if_pos e] at hl ⊢
        exact var_1 (exprT F) d ks h1 (hE 0 (by omega) (all_kid hall (by omega))) e hlen hz hS hA hl
      · rw [if_neg e] at hl ⊢
        exact var_0 d ks h1 (by omega) hlen hz hS hA hl
    rw [if_neg h1] at hl hB ⊢
    by_cases h2 : d.k = 11
    · rw [if_pos h2] at hl hB ⊢
      unfold ifB at hB
      simp only [Bool.and_eq_true, decide_eq_true_eq, Bool.or_eq_true, beq_iff_eq] at hB
      obtain ⟨hge, hle, _, he, hb, hor⟩ := hB
      unfold ifX at hl ⊢
      by_cases e : ks.length = 3
      · rw [if_pos e] at hl ⊢
        have hP : stmtB (exprB F) f (kid 2 ks) = true := by
          rcases hor with h | h
          · omega
          · exact h.2
        exact if_3 (exprT F) (stmtT (exprT F) f) d ks h2 (hBK 1 (by omega) hb) (ih _ (hsz 2 (by omega)).1 (hsz 2 (by omega)).2 (fit_kid hF (by omega)) hP) (hE 0 (by omega) he) e hlen hz hS hA hl
      · rw [if_neg e] at hl ⊢
        exact if_2 (exprT F) (stmtT (exprT F) f) d ks h2 (hBK 1 (by omega) hb) (hE 0 (by omega) he) (by omega) hlen hz hS hA hl
    rw [if_neg h2] at hl hB ⊢
    by_cases h3 : d.k = 12
    · rw [if_pos h3] at hl hB ⊢
      have hH := head_writes F (stmtB (exprB F) f) d ks hT hF hB
      unfold forX at hl ⊢
      unfold loopB at hB
      by_cases n0 : d.n = 0
      · rw [if_pos n0] at hB
        simp only [Bool.and_eq_true, beq_iff_eq] at hB
        rw [hB.1] at hl ⊢
        exact for_1 (exprT F) (stmtT (exprT F) f) d ks h3 (hBK 0 (by omega) hB.2.1) hH hB.1 hlen hz hS hA hl
      rw [if_neg n0] at hB
      by_cases n1 : d.n = 1
      · rw [if_pos n1] at hB
        simp only [Bool.and_eq_true, beq_iff_eq] at hB
        rw [hB.1] at hl ⊢
        exact for_2 (exprT F) (stmtT (exprT F) f) d ks h3 (hBK 1 (by omega) hB.2.1) hH hB.1 hlen hz hS hA hl
      rw [if_neg n1] at hB
      by_cases n2 : d.n = 2
      · rw [if_pos n2] at hB
        simp only [Bool.and_eq_true, beq_iff_eq] at hB
        rw [hB.1] at hl ⊢
        exact for_4 (exprT F) (stmtT (exprT F) f) d ks h3 (hBK 3 (by omega) hB.2.1) hH hB.1 hlen hz hS hA hl
      rw [if_neg n2] at hB
      by_cases n3 : d.n = 3
      · rw [if_pos n3] at hB
        simp only [Bool.and_eq_true, beq_iff_eq] at hB
        rw [hB.1] at hl ⊢
        exact for_3 (exprT F) (stmtT (exprT F) f) d ks h3 (hBK 2 (by omega) hB.2.1) hH hB.1 hlen hz hS hA hl
      rw [if_neg n3] at hB
      cases hB
    rw [if_neg h3] at hl hB ⊢
    by_cases h4 : d.k = 13
    · rw [if_pos h4] at hl hB ⊢
      unfold switchesB at hB
      unfold switchX at hl ⊢
      have hcl : ∀ m, switchB (exprB F) (stmtB (exprB F) f) d ks m = true → m ≤ ks.length ∧ (ks.take m).all (exprB F) = true ∧ WritesC (fun k => clausesX (exprT F) (stmtT (exprT F) f) k (ks.drop m)) (ks.drop m) := by
        intro m h
        unfold switchB at h
        simp only [Bool.and_eq_true, decide_eq_true_eq] at h
        obtain ⟨q1, _, q2, q3, q4⟩ := h
        refine ⟨q1, q2, ?_⟩
        have hs := sizes_drop ks m
        have hdl : (ks.drop m).length = ks.length - m := by simp
        have hg : ∀ j, j < (ks.drop m).length → kid j (ks.drop m) = kid (m + j) ks ∧ m + j < ks.length := fun j hj => by
          rw [hdl] at hj
          exact ⟨by unfold kid; rw [List.getD_eq_getElem?_getD, List.getElem?_drop, ← List.getD_eq_getElem?_getD], by omega⟩
        refine clauses_ok F f ih (caseT (exprB F)) _ (by omega) (by omega) (by omega) (fun j hj => by rw [(hg j hj).1]; exact fit_kid hF (hg j hj).2) q4 (fun j hj => .inl ⟨?_, rfl⟩)
        have := all_kid q3 hj
        unfold kindT at this
        exact beq_iff_eq.1 this
      by_cases n0 : d.n = 0
      · rw [if_pos n0] at hB
        obtain ⟨_, _, hC⟩ := hcl 0 hB
        rw [show d.n.toNat = 0 by rw [n0]; rfl, if_neg (by omega)] at hl ⊢
        exact switch_w0 (exprT F) (stmtT (exprT F) f) d ks h4 n0 hC hlen hz hS hA hl
      rw [if_neg n0] at hB
      by_cases n1 : d.n = 1
      · rw [if_pos n1] at hB
        obtain ⟨q1, q2, hC⟩ := hcl 1 hB
        rw [show d.n.toNat = 1 by rw [n1]; rfl, if_pos n1] at hl ⊢
        exact switch_w1 (exprT F) (stmtT (exprT F) f) d ks h4 n1 (by omega) hC (hE 0 (by omega) (take_kid q2 (by omega) q1)) hlen hz hS hA hl
      rw [if_neg n1] at hB
      cases hB
    rw [if_neg h4] at hl hB ⊢
    by_cases h5 : d.k = 15
    · rw [if_pos h5] at hl hB ⊢
      unfold selectsB at hB
      simp only [Bool.and_eq_true] at hB
      obtain ⟨_, q3, q4⟩ := hB
      unfold selectX at hl ⊢
      refine select_w (exprT F) (stmtT (exprT F) f) d ks h5 ?_ hlen hz hS hA hl
      refine clauses_ok F f ih (armT (exprB F)) _ hszs.1 hszs.2 hlen (fun j hj => fit_kid hF hj) q4 (fun j hj => .inr ⟨?_, rfl⟩)
      have := all_kid q3 hj
      unfold kindT at this
      rw [beq_iff_eq.1 this]; decide
    rw [if_neg h5] at hl hB ⊢
    by_cases h6 : d.k = 17
    · rw [if_pos h6] at hl hB ⊢
      unfold goB at hB
      simp only [Bool.and_eq_true, beq_iff_eq] at hB
      unfold goX at hl ⊢
      exact go_w (exprT F) d ks h6 (hE 0 (by omega) hB.2.2.2.2) hB.1 hlen hz hS hA hl
    rw [if_neg h6] at hl hB ⊢
    by_cases h7 : d.k = 18
    · rw [if_pos h7] at hl hB ⊢
      unfold retB at hB
      simp only [Bool.and_eq_true, decide_eq_true_eq] at hB
      unfold retX at hl ⊢
      by_cases e : ks.length = 1
      · rw [if_pos e] at hl ⊢
        exact ret_1 (exprT F) d ks h7 (hE 0 (by omega) (all_kid hB.2.2 (by omega))) e hlen hz hS hA hl
      · rw [if_neg e] at hl ⊢
        exact ret_0 d ks h7 (by omega) hlen hz hS hA hl
    rw [if_neg h7] at hl hB ⊢
    by_cases h8 : d.k = 19
    · rw [if_pos h8] at hl ⊢; exact break_w d ks h8 hlen hz hS hA hl
    rw [if_neg h8] at hl hB ⊢
    by_cases h9 : d.k = 20
    · rw [if_pos h9] at hl ⊢; exact continue_w d ks h9 hlen hz hS hA hl
    rw [if_neg h9] at hl hB ⊢
    exact other_w (exprT F) d ks h0 h1 h2 h3 h4 h5 h6 h7 h8 h9 (simple_writes F _ hT hF (.inr hB)) hlen hz hS hA hl
end Go.Proofs.YtgodeffkboihlaaGreatDoor.Twm
