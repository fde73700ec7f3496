/- Plain laws: what is written is read back; what is read has one form. No program in sight. -/
import Derived.Test.YtjmgfhbadnechaaDoorPlw
import Derived.Test.YtjmgfhbadnechaaDoorPnu
set_option linter.unusedVariables false
namespace Go.Proofs.YtjmgfhbadnechaaDoor.Plb
open Plw Pnu

theorem esc_cases (c : UInt8) : (c = 10 ∧ esc c = [92, 110]) ∨ (c = 9 ∧ esc c = [92, 116]) ∨ (c = 34 ∧ esc c = [92, 34]) ∨ (c = 92 ∧ esc c = [92, 92]) ∨ (c ≠ 34 ∧ c ≠ 10 ∧ c ≠ 92 ∧ esc c = [c]) := by
  unfold esc
  by_cases h1 : c = 10
  · exact .inl ⟨h1, by rw [if_pos h1]⟩
  by_cases h2 : c = 9
  · exact .inr (.inl ⟨h2, by rw [if_neg h1, if_pos h2]⟩)
  by_cases h3 : c = 34
  · exact .inr (.inr (.inl ⟨h3, by rw [if_neg h1, if_neg h2, if_pos h3]⟩))
  by_cases h4 : c = 92
  · exact .inr (.inr (.inr (.inl ⟨h4, by rw [if_neg h1, if_neg h2, if_neg h3, if_pos h4]⟩)))
  exact .inr (.inr (.inr (.inr ⟨h3, h1, h4, by rw [if_neg h1, if_neg h2, if_neg h3, if_neg h4]⟩)))

theorem no_line (l : List UInt8) : 10 ∉ quote l := by
  have h : ∀ c, (10 : UInt8) ∉ esc c := by
    intro c hc
    rcases esc_cases c with ⟨_, e⟩ | ⟨_, e⟩ | ⟨_, e⟩ | ⟨_, e⟩ | ⟨_, h2, _, e⟩ <;> rw [e] at hc
    · revert hc; decide
    · revert hc; decide
    · revert hc; decide
    · revert hc; decide
    · simp at hc; exact h2 hc.symm
  unfold quote escs
  intro hm
  simp only [List.mem_append, List.mem_singleton, List.mem_flatMap] at hm
  rcases hm with (hm | ⟨c, _, hc⟩) | hm
  · revert hm; decide
  · exact h c hc
  · revert hm; decide

theorem body_back : ∀ (l rest acc : List UInt8) (i : Nat), body (escs l ++ 34 :: rest) acc i = some (acc ++ l, i + (escs l).length + 1)
  | [], rest, acc, i => by
    have : escs [] = [] := rfl
    rw [this, List.nil_append, body_quote, List.append_nil]; rfl
  | c :: r, rest, acc, i => by
    have hs : escs (c :: r) = esc c ++ escs r := by simp [escs]
    rw [hs, List.append_assoc]
    rcases esc_cases c with ⟨h, e⟩ | ⟨h, e⟩ | ⟨h, e⟩ | ⟨h, e⟩ | ⟨h1, h2, h3, e⟩
    · rw [e, List.cons_append, List.cons_append, List.nil_append, body_good _ 10 _ _ _ (by decide), body_back r rest]
      subst h; simp; omega
    · rw [e, List.cons_append, List.cons_append, List.nil_append, body_good _ 9 _ _ _ (by decide), body_back r rest]
      subst h; simp; omega
    · rw [e, List.cons_append, List.cons_append, List.nil_append, body_good _ 34 _ _ _ (by decide), body_back r rest]
      subst h; simp; omega
    · rw [e, List.cons_append, List.cons_append, List.nil_append, body_good _ 92 _ _ _ (by decide), body_back r rest]
      subst h; simp; omega
    · rw [e, List.cons_append, List.nil_append, body_plain _ _ _ _ h1 h2 h3, body_back r rest]
      simp; omega
theorem unquote_cons (r : List UInt8) : unquote (34 :: r) = body r [] 1 := by simp [unquote]
theorem unquote_back (l rest : List UInt8) : unquote (quote l ++ rest) = some (l, (quote l).length) := by
  unfold quote
  rw [List.append_assoc, List.append_assoc, List.singleton_append, List.singleton_append]
  rw [unquote_cons, body_back l rest [] 1]
  simp; omega

theorem body_facts : ∀ (n : Nat) (l acc : List UInt8) (i : Nat) (t : List UInt8) (k : Nat), l.length ≤ n → body l acc i = some (t, k) →
    i + 1 ≤ k ∧ k ≤ i + l.length ∧ l.getD (k - i - 1) 0 = 34 ∧ body (l.take (k - i)) acc i = some (t, k) ∧ body (l.take (k - i - 1)) acc i = none ∧ t.length ≤ acc.length + l.length
  | 0, l, acc, i, t, k, hn, h => by
    obtain rfl : l = [] := List.length_eq_zero_iff.1 (by omega)
    rw [body_nil] at h; cases h
  | n + 1, l, acc, i, t, k, hn, h => by
    cases l with
    | nil => rw [body_nil] at h; cases h
    | cons c r =>
      rw [List.length_cons] at hn
      by_cases h34 : c = 34
      · subst h34
        rw [body_quote] at h
        simp only [Option.some.injEq, Prod.mk.injEq] at h
        obtain ⟨rfl, rfl⟩ := h
        have e1 : i + 1 - i = 1 := by omega
        rw [e1]
        exact ⟨Nat.le_refl _, by simp, rfl, by rw [List.take_succ_cons, body_quote], by rw [Nat.sub_self, List.take_zero, body_nil], by simp⟩
      · by_cases h10 : c = 10
        · subst h10; rw [body_line] at h; cases h
        · by_cases h92 : c = 92
          · subst h92
            cases r with
            | nil => rw [body_end] at h; cases h
            | cons d r' =>
              cases hm : meant d with
              | none => rw [body_bad _ _ _ _ hm] at h; cases h
              | some m =>
                rw [body_good _ _ _ _ _ hm] at h
                rw [List.length_cons] at hn
                obtain ⟨a1, a2, a3, a4, a5, a6⟩ := body_facts n r' _ _ t k (by omega) h
                have e1 : k - i = (k - (i + 2)) + 1 + 1 := by omega
                have e2 : k - i - 1 = (k - (i + 2) - 1) + 1 + 1 := by omega
                refine ⟨by omega, by simp; omega, ?_, ?_, ?_, by simp at a6 ⊢; omega⟩
                · rw [e2]; exact a3
                · rw [e1, List.take_succ_cons, List.take_succ_cons, body_good _ _ _ _ _ hm]; exact a4
                · rw [e2, List.take_succ_cons, List.take_succ_cons, body_good _ _ _ _ _ hm]; exact a5
          · rw [body_plain _ _ _ _ h34 h10 h92] at h
            obtain ⟨a1, a2, a3, a4, a5, a6⟩ := body_facts n r _ _ t k (by omega) h
            have e1 : k - i = (k - (i + 1)) + 1 := by omega
            have e2 : k - i - 1 = (k - (i + 1) - 1) + 1 := by omega
            refine ⟨by omega, by simp; omega, ?_, ?_, ?_, by simp at a6 ⊢; omega⟩
            · rw [e2]; exact a3
            · rw [e1, List.take_succ_cons, body_plain _ _ _ _ h34 h10 h92]; exact a4
            · rw [e2, List.take_succ_cons, body_plain _ _ _ _ h34 h10 h92]; exact a5
theorem unquote_facts {l t : List UInt8} {k : Nat} (h : unquote l = some (t, k)) :
    2 ≤ k ∧ k ≤ l.length ∧ l.getD 0 0 = 34 ∧ l.getD (k - 1) 0 = 34 ∧ unquote (l.take k) = some (t, k) ∧ unquote (l.take (k - 1)) = none ∧ t.length ≤ l.length := by
  cases l with
  | nil => cases h
  | cons c r =>
    unfold unquote at h
    by_cases hc : c = 34
    · simp only [hc, if_true] at h
      obtain ⟨a1, a2, a3, a4, a5, a6⟩ := body_facts _ r [] 1 t k (Nat.le_refl _) h
      have e1 : k = (k - 1) + 1 := by omega
      have e2 : k - 1 = (k - 1 - 1) + 1 := by omega
      refine ⟨a1, by simp; omega, hc, ?_, ?_, ?_, by simp at a6 ⊢; omega⟩
      · rw [e2]; exact a3
      · rw [hc, e1, List.take_succ_cons, unquote_cons, ← e1]; exact a4
      · rw [hc, e2, List.take_succ_cons, unquote_cons]; exact a5
    · simp only [hc, if_false] at h; cases h

theorem dec_facts : ∀ (n u : Nat), u ≤ n → (Lib.decDigits u).all dig = true ∧ valF 0 (Lib.decDigits u) = u ∧ Lib.decDigits u ≠ [] ∧ ((Lib.decDigits u).take 1 = [48] → u = 0)
  | n, u, hn => by
    by_cases h : u < 10
    · rw [Lib.decDigits_one h]
      have ht : (UInt8.ofNat (48 + u)).toNat = 48 + u := by rw [UInt8.toNat_ofNat']; omega
      refine ⟨?_, ?_, by simp, ?_⟩
      · simp only [List.all_cons, List.all_nil, Bool.and_true, dig, ht]; exact decide_eq_true (by omega)
      · rw [valF_cons, valF_nil]; unfold dval; rw [ht]; omega
      · intro e
        simp only [List.take_succ_cons, List.take_zero, List.cons.injEq, and_true] at e
        have := congrArg UInt8.toNat e
        rw [ht] at this
        have h48 : (48 : UInt8).toNat = 48 := rfl
        omega
    · have hd : Lib.decDigits u = Lib.decDigits (u / 10) ++ [UInt8.ofNat (48 + u % 10)] := by rw [Lib.decDigits, dif_neg h]
      cases n with
      | zero => omega
      | succ n =>
        obtain ⟨a1, a2, a3, a4⟩ := dec_facts n (u / 10) (by omega)
        have ht : (UInt8.ofNat (48 + u % 10)).toNat = 48 + u % 10 := by rw [UInt8.toNat_ofNat']; omega
        rw [hd]
        refine ⟨?_, ?_, by simp, ?_⟩
        · rw [List.all_append, a1]
          simp only [List.all_cons, List.all_nil, Bool.and_true, Bool.true_and, dig, ht]; exact decide_eq_true (by omega)
        · rw [valF_snoc, a2]; unfold dval; rw [ht]; omega
        · intro e
          cases hx : Lib.decDigits (u / 10) with
          | nil => exact absurd hx a3
          | cons x y =>
            rw [hx] at e a4
            have := a4 (by simpa using e)
            omega
theorem dec_dig (u : Nat) : (Lib.decDigits u).all dig = true := (dec_facts u u (Nat.le_refl _)).1
theorem dec_val (u : Nat) : valF 0 (Lib.decDigits u) = u := (dec_facts u u (Nat.le_refl _)).2.1
theorem dec_ne (u : Nat) : Lib.decDigits u ≠ [] := (dec_facts u u (Nat.le_refl _)).2.2.1
theorem dec_zero {u : Nat} (h : (Lib.decDigits u).take 1 = [48]) : u = 0 := (dec_facts u u (Nat.le_refl _)).2.2.2 h

theorem parse_back {n : Int} (h0 : -9223372036854775808 ≤ n) (h1 : n ≤ 9223372036854775807) : parse (Lib.itoa n) = (n, 0) := by
  by_cases hn : n < 0
  · have hi : Lib.itoa n = 45 :: Lib.decDigits n.natAbs := by unfold Lib.itoa; rw [if_pos hn]
    have hs : strip (Lib.itoa n) = Lib.decDigits n.natAbs := by rw [hi]; simp [strip]
    have hng : neg (Lib.itoa n) = true := by rw [hi]; simp [neg]
    have hf : form (Lib.itoa n) = true := by
      unfold form
      rw [hs, dec_dig]
      have e1 : (Lib.decDigits n.natAbs).isEmpty = false := by simpa using dec_ne n.natAbs
      have e2 : ((Lib.decDigits n.natAbs).take 1 == [48]) = false := beq_eq_false_iff_ne.2 (fun h => by have := dec_zero h; omega)
      rw [e1, e2]; rfl
    unfold parse
    rw [if_neg (by rw [hf]; decide), if_pos hng, hs, dec_val, if_neg (by omega)]
    congr 1; omega
  · have hi : Lib.itoa n = Lib.decDigits n.toNat := by unfold Lib.itoa; rw [if_neg hn]
    obtain ⟨c, r, hcr⟩ : ∃ c r, Lib.decDigits n.toNat = c :: r := by
      cases hx : Lib.decDigits n.toNat with
      | nil => exact absurd hx (dec_ne _)
      | cons c r => exact ⟨c, r, rfl⟩
    have hdg := dec_dig n.toNat
    have hc : c ≠ 45 := by
      rw [hcr, List.all_cons, Bool.and_eq_true] at hdg
      rintro rfl
      exact absurd hdg.1 (by decide)
    have hs : strip (Lib.itoa n) = Lib.decDigits n.toNat := by rw [hi, hcr]; simp [strip, hc]
    have hng : neg (Lib.itoa n) = false := by rw [hi, hcr]; simp [neg, hc]
    have hf : form (Lib.itoa n) = true := by
      unfold form
      rw [hs, hdg]
      have e1 : (Lib.decDigits n.toNat).isEmpty = false := by simpa using dec_ne n.toNat
      rw [e1]
      cases e2 : ((Lib.decDigits n.toNat).take 1 == [48]) with
      | false => rfl
      | true =>
        have hz := dec_zero (eq_of_beq e2)
        have : (Lib.itoa n).length = 1 := by rw [hi, hz, Lib.decDigits_one (by omega)]; rfl
        rw [this]; rfl
    unfold parse
    rw [if_neg (by rw [hf]; decide), if_neg (by rw [hng]; decide), hs, dec_val, if_neg (by omega)]
    congr 1; omega

theorem dec_of_val {d : List UInt8} (h1 : d ≠ []) (h2 : d.all dig = true) (h3 : d.take 1 ≠ [48] ∨ d.length ≤ 1) : Lib.decDigits (valF 0 d) = d := by
  cases d with
  | nil => exact absurd rfl h1
  | cons c r =>
    have hlt := valF_lt (c :: r) h2
    rw [List.length_cons] at hlt
    apply val_inj _ _ ?_ (dec_dig _) h2 (dec_val _)
    rw [Lib.decDigits_length, List.length_cons]
    have hdc : dig c = true := by rw [List.all_cons, Bool.and_eq_true] at h2; exact h2.1
    rcases h3 with h3 | h3
    · apply Lib.nDigits_unique
      · apply valF_big
        unfold dig at hdc
        rw [decide_eq_true_eq] at hdc
        have : c ≠ 48 := fun e => h3 (by rw [e]; rfl)
        have : c.toNat ≠ 48 := fun e => this (UInt8.toNat_inj.1 e)
        unfold dval; omega
      · exact hlt
    · have hr : r = [] := List.length_eq_zero_iff.1 (by simp at h3; simpa using h3)
      subst hr
      exact Lib.nDigits_small (by simpa using hlt)

theorem parse_again {l : List UInt8} {v : Int} (h : parse l = (v, 0)) : Lib.itoa v = l := by
  unfold parse at h
  by_cases hf : form l = false
  · rw [if_pos hf] at h; simp at h
  · rw [if_neg hf] at h
    have hf2 : form l = true := by simpa using hf
    obtain ⟨p1, p2, p3⟩ := form_parts hf2
    cases l with
    | nil => exact absurd rfl p1
    | cons c r =>
      by_cases hc : c = 45
      · subst hc
        have hs : strip (45 :: r) = r := by simp [strip]
        have hng : neg (45 :: r) = true := by simp [neg]
        rw [hs] at p1 p2 p3
        rw [if_pos hng, hs] at h
        have hl : 1 < (45 :: r).length := by
          cases r with
          | nil => exact absurd rfl p1
          | cons x y => simp
        have h48 : r.take 1 ≠ [48] := fun e => p2 ⟨e, hl⟩
        by_cases hb : 9223372036854775808 < valF 0 r
        · rw [if_pos hb] at h; simp at h
        · rw [if_neg hb] at h
          simp only [Prod.mk.injEq, and_true] at h
          have hd := dec_of_val p1 p3 (.inl h48)
          have hv : 0 < valF 0 r := by
            rcases Nat.eq_zero_or_pos (valF 0 r) with h0 | h0
            · rw [h0, Lib.decDigits_one (by omega)] at hd
              exact absurd (by rw [← hd]; rfl) h48
            · exact h0
          unfold Lib.itoa
          rw [← h, if_pos (by omega)]
          simp [hd]
      · have hs : strip (c :: r) = c :: r := by simp [strip, hc]
        have hng : neg (c :: r) = false := by simp [neg, hc]
        rw [hs] at p1 p2 p3
        rw [if_neg (by rw [hng]; decide), hs] at h
        by_cases hb : 9223372036854775807 < valF 0 (c :: r)
        · rw [if_pos hb] at h; simp at h
        · rw [if_neg hb] at h
          simp only [Prod.mk.injEq, and_true] at h
          have hd := dec_of_val p1 p3 (by
            by_cases hl : 1 < (c :: r).length
            · exact .inl (fun e => p2 ⟨e, hl⟩)
            · exact .inr (by omega))
          unfold Lib.itoa
          rw [← h, if_neg (by omega)]
          simp [hd]
theorem parse_err {l : List UInt8} {v e : Int} (h : parse l = (v, e)) (he : e ≠ 0) : v = 0 := by
  unfold parse at h
  by_cases hf : form l = false
  · rw [if_pos hf] at h; simp at h; exact h.1.symm
  · rw [if_neg hf] at h
    by_cases hn : neg l = true
    · rw [if_pos hn] at h
      by_cases hb : 9223372036854775808 < valF 0 (strip l)
      · rw [if_pos hb] at h; simp at h; exact h.1.symm
      · rw [if_neg hb] at h; simp at h; exact absurd h.2.symm he
    · rw [if_neg hn] at h
      by_cases hb : 9223372036854775807 < valF 0 (strip l)
      · rw [if_pos hb] at h; simp at h; exact h.1.symm
      · rw [if_neg hb] at h; simp at h; exact absurd h.2.symm he
theorem parse_codes (l : List UInt8) : (parse l).2 = 0 ∨ (parse l).2 = 21 ∨ (parse l).2 = 22 := by
  unfold parse
  repeat' split
  all_goals simp
theorem parse_bounds {l : List UInt8} {v : Int} (h : parse l = (v, 0)) : -9223372036854775808 ≤ v ∧ v ≤ 9223372036854775807 := by
  unfold parse at h
  by_cases hf : form l = false
  · rw [if_pos hf] at h; simp at h
  · rw [if_neg hf] at h
    by_cases hn : neg l = true
    · rw [if_pos hn] at h
      by_cases hb : 9223372036854775808 < valF 0 (strip l)
      · rw [if_pos hb] at h; simp at h
      · rw [if_neg hb] at h
        simp only [Prod.mk.injEq, and_true] at h
        omega
    · rw [if_neg hn] at h
      by_cases hb : 9223372036854775807 < valF 0 (strip l)
      · rw [if_pos hb] at h; simp at h
      · rw [if_neg hb] at h
        simp only [Prod.mk.injEq, and_true] at h
        omega
end Go.Proofs.YtjmgfhbadnechaaDoor.Plb
