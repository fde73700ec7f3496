/- Numbers as texts: their form, what they tell, how they are written; how the library's own functions on lists fit. No program in sight. -/
import Derived.Test.YtjmgfhbadnechaaDoorPlo
import Derived.Lib.ParseIntB
import Derived.Lib.ItoaNum
import Derived.Lib.Strings
set_option linter.unusedVariables false
namespace Go.Proofs.YtjmgfhbadnechaaDoor.Pnu

def dig (c : UInt8) : Bool := decide (48 ≤ c.toNat ∧ c.toNat ≤ 57)
def dval (c : UInt8) : Nat := c.toNat - 48
def valF (acc : Nat) (l : List UInt8) : Nat := l.foldl (fun a c => 10 * a + dval c) acc
theorem valF_nil (acc : Nat) : valF acc [] = acc := rfl
theorem valF_cons (acc : Nat) (c : UInt8) (r : List UInt8) : valF acc (c :: r) = valF (10 * acc + dval c) r := by unfold valF; rw [List.foldl_cons]
theorem valF_snoc (acc : Nat) (c : UInt8) (l : List UInt8) : valF acc (l ++ [c]) = 10 * valF acc l + dval c := by simp [valF]
theorem valF_add : ∀ (l : List UInt8) (acc : Nat), valF acc l = acc * 10 ^ l.length + valF 0 l
  | [], acc => by simp [valF]
  | c :: r, acc => by
    rw [valF_cons, valF_cons, valF_add r (10 * acc + dval c), valF_add r (10 * 0 + dval c), List.length_cons, Nat.pow_succ]
    generalize 10 ^ r.length = P
    generalize valF 0 r = V
    rw [Nat.add_mul, Nat.mul_zero, Nat.zero_add, Nat.add_assoc]
    congr 1
    ac_rfl
theorem valF_ge (l : List UInt8) (acc : Nat) : acc ≤ valF acc l := by
  rw [valF_add]
  have : 1 ≤ 10 ^ l.length := Nat.one_le_pow _ _ (by omega)
  have := Nat.mul_le_mul_left acc this
  omega
theorem dval_le {c : UInt8} (h : dig c = true) : dval c ≤ 9 := by
  unfold dig at h; rw [decide_eq_true_eq] at h; unfold dval; omega
theorem valF_lt : ∀ (l : List UInt8), l.all dig = true → valF 0 l < 10 ^ l.length
  | [], _ => by simp [valF]
  | c :: r, h => by
    rw [List.all_cons, Bool.and_eq_true] at h
    have ih := valF_lt r h.2
    have hd := dval_le h.1
    rw [valF_cons, valF_add, List.length_cons, Nat.pow_succ]
    have : (10 * 0 + dval c) * 10 ^ r.length ≤ 9 * 10 ^ r.length := Nat.mul_le_mul_right _ (by omega)
    omega
theorem valF_big {c : UInt8} {r : List UInt8} (h : 1 ≤ dval c) : 10 ^ r.length ≤ valF 0 (c :: r) := by
  rw [valF_cons, valF_add]
  have : 1 * 10 ^ r.length ≤ (10 * 0 + dval c) * 10 ^ r.length := Nat.mul_le_mul_right _ (by omega)
  omega

/-- Of two rows of digits of one length the one that is first by its bytes is the lesser number. -/
theorem lex_val : ∀ (a b : List UInt8), a.length = b.length → a.all dig = true → b.all dig = true → (a < b ↔ valF 0 a < valF 0 b)
  | [], [], _, _, _ => by simp [valF]
  | x :: a, y :: b, hl, ha, hb => by
    rw [List.all_cons, Bool.and_eq_true] at ha hb
    rw [List.length_cons, List.length_cons] at hl
    have hl' : a.length = b.length := by omega
    have ih := lex_val a b hl' ha.2 hb.2
    have la := valF_lt a ha.2
    have lb := valF_lt b hb.2
    rw [List.cons_lt_cons_iff, valF_cons, valF_cons, valF_add a, valF_add b, hl']
    rw [hl'] at la
    have hx := ha.1; have hy := hb.1
    unfold dig at hx hy
    rw [decide_eq_true_eq] at hx hy
    have dx : dval x = x.toNat - 48 := rfl
    have dy : dval y = y.toNat - 48 := rfl
    rcases Nat.lt_trichotomy x.toNat y.toNat with h | h | h
    · have h1 : x < y := UInt8.lt_iff_toNat_lt.2 h
      have h2 : (10 * 0 + dval x + 1) * 10 ^ b.length ≤ (10 * 0 + dval y) * 10 ^ b.length := Nat.mul_le_mul_right _ (by omega)
      rw [Nat.add_mul] at h2
      constructor
      · intro _; omega
      · intro _; exact .inl h1
    · have h1 : x = y := UInt8.toNat_inj.1 h
      subst h1
      constructor
      · rintro (h2 | ⟨_, h2⟩)
        · exact absurd h2 (by simp)
        · have := ih.1 h2; omega
      · intro h2
        exact .inr ⟨rfl, ih.2 (by omega)⟩
    · have h2 : (10 * 0 + dval y + 1) * 10 ^ b.length ≤ (10 * 0 + dval x) * 10 ^ b.length := Nat.mul_le_mul_right _ (by omega)
      rw [Nat.add_mul] at h2
      constructor
      · rintro (h3 | ⟨h3, _⟩)
        · have := UInt8.lt_iff_toNat_lt.1 h3; omega
        · subst h3; omega
      · intro h3; omega

/-- Without a sign ahead. -/
def strip (l : List UInt8) : List UInt8 := match l with
  | [] => []
  | c :: r => if c = 45 then r else c :: r
/-- Has a text a number's form? -/
def form (l : List UInt8) : Bool := !(strip l).isEmpty && !(((strip l).take 1 == [48]) && decide (1 < l.length)) && (strip l).all dig
def neg (l : List UInt8) : Bool := l.take 1 == [45]
/-- What a text tells: a number and an error's number. -/
def parse (l : List UInt8) : Int × Int :=
  if form l = false then (0, 21)
  else if neg l = true then (if 9223372036854775808 < valF 0 (strip l) then (0, 22) else (-(valF 0 (strip l) : Int), 0))
  else (if 9223372036854775807 < valF 0 (strip l) then (0, 22) else ((valF 0 (strip l) : Int), 0))

theorem strip_eq (l : List UInt8) : Lib.trimPrefix l [45] = strip l := by
  cases l with
  | nil => rfl
  | cons c r =>
    by_cases h : c = 45
    · subst h; simp [Lib.trimPrefix, Lib.hasPrefix, strip, List.isPrefixOf]
    · have h2 : (45 == c) = false := by simp; exact fun e => h e.symm
      simp [Lib.trimPrefix, Lib.hasPrefix, strip, List.isPrefixOf, h, h2]

open Lib in
theorem uint_val : ∀ (l : List UInt8) (acc : Nat), l.all dig = true → acc ≤ 18446744073709551615 →
    parseUintM (2 ^ 64 - 1) acc l = if valF acc l ≤ 18446744073709551615 then .ok (valF acc l) else .range
  | [], acc, _, ha => by rw [parseUintM, valF_nil, if_pos ha]
  | c :: r, acc, h, ha => by
    rw [List.all_cons, Bool.and_eq_true] at h
    have hc := h.1
    unfold dig at hc
    rw [decide_eq_true_eq] at hc
    have hd : dval c = c.toNat - 48 := rfl
    rw [parseUintM, if_pos hc, valF_cons]
    have hge := valF_ge r (10 * acc + dval c)
    by_cases h1 : 1844674407370955162 ≤ acc
    · rw [if_pos h1, if_neg (by omega)]
    · rw [if_neg h1]
      by_cases h2 : 2 ^ 64 - 1 < acc * 10 + (c.toNat - 48)
      · rw [if_pos h2, if_neg (by omega)]
      · rw [if_neg h2, uint_val r _ h.2 (by omega)]
        rw [show acc * 10 + (c.toNat - 48) = 10 * acc + dval c by omega]

theorem form_parts {l : List UInt8} (h : form l = true) : strip l ≠ [] ∧ ¬ ((strip l).take 1 = [48] ∧ 1 < l.length) ∧ (strip l).all dig = true := by
  unfold form at h
  simp only [Bool.and_eq_true, Bool.not_eq_true', Bool.and_eq_false_iff, beq_eq_false_iff_ne, decide_eq_false_iff_not] at h
  refine ⟨by have := h.1.1; simpa using this, fun ⟨a, b⟩ => ?_, h.2⟩
  rcases h.1.2 with h1 | h1
  · exact h1 a
  · exact h1 b

open Lib in
/-- What the library's ParseInt ends in, where the form is a number's. -/
theorem int_end {l : List UInt8} (h : form l = true) : (parse l = (0, 22) ∧ parseIntB 64 l = .range) ∨ ∃ v : Int, parse l = (v, 0) ∧ parseIntB 64 l = .ok v := by
  obtain ⟨h1, h2, h3⟩ := form_parts h
  cases l with
  | nil => exact absurd rfl h1
  | cons c r =>
    by_cases hc : c = 45
    · subst hc
      have hs : strip (45 :: r) = r := by simp [strip]
      rw [hs] at h1 h3
      have hn : neg (45 :: r) = true := by simp [neg]
      have hp : parse (45 :: r) = if 9223372036854775808 < valF 0 r then (0, 22) else (-(valF 0 r : Int), 0) := by
        unfold parse; rw [if_neg (by rw [h]; decide), if_pos hn, hs]
      have hM := uint_val r 0 h3 (by omega)
      have hB : parseUintB 64 r = if valF 0 r ≤ 18446744073709551615 then .ok (valF 0 r) else .range := by
        unfold parseUintB; rw [if_neg h1]; exact hM
      by_cases hv : valF 0 r ≤ 18446744073709551615
      · rw [if_pos hv] at hB
        by_cases hw : 9223372036854775808 < valF 0 r
        · refine .inl ⟨by rw [hp, if_pos hw], ?_⟩
          unfold parseIntB
          simp [hB, hw]
        · refine .inr ⟨_, by rw [hp, if_neg hw], ?_⟩
          unfold parseIntB
          simp [hB, hw]
      · rw [if_neg hv] at hB
        refine .inl ⟨by rw [hp, if_pos (by omega)], ?_⟩
        unfold parseIntB
        simp [hB]
    · have hs : strip (c :: r) = c :: r := by simp [strip, hc]
      rw [hs] at h1 h3
      have hn : neg (c :: r) = false := by simp [neg, hc]
      have hp : parse (c :: r) = if 9223372036854775807 < valF 0 (c :: r) then (0, 22) else ((valF 0 (c :: r) : Int), 0) := by
        unfold parse; rw [if_neg (by rw [h]; decide), if_neg (by rw [hn]; decide), hs]
      have hM := uint_val (c :: r) 0 h3 (by omega)
      have hB : parseUintB 64 (c :: r) = if valF 0 (c :: r) ≤ 18446744073709551615 then .ok (valF 0 (c :: r)) else .range := by
        unfold parseUintB; rw [if_neg h1]; exact hM
      have hd : 48 ≤ c.toNat ∧ c.toNat ≤ 57 := by
        rw [List.all_cons, Bool.and_eq_true] at h3
        have := h3.1
        unfold dig at this
        exact of_decide_eq_true this
      have hc1 : ¬ c.toNat = 43 := by omega
      have hc2 : ¬ c.toNat = 45 := by omega
      by_cases hv : valF 0 (c :: r) ≤ 18446744073709551615
      · rw [if_pos hv] at hB
        by_cases hw : 9223372036854775807 < valF 0 (c :: r)
        · refine .inl ⟨by rw [hp, if_pos hw], ?_⟩
          have hw2 : 9223372036854775808 ≤ valF 0 (c :: r) := by omega
          unfold parseIntB
          simp [hB, hw2, hc1, hc2]
        · refine .inr ⟨_, by rw [hp, if_neg hw], ?_⟩
          have hw2 : ¬ 9223372036854775808 ≤ valF 0 (c :: r) := by omega
          unfold parseIntB
          simp [hB, hw2, hc1, hc2]
      · rw [if_neg hv] at hB
        refine .inl ⟨by rw [hp, if_pos (by omega)], ?_⟩
        unfold parseIntB
        simp [hB, hc1, hc2]

theorem val_inj : ∀ (a b : List UInt8), a.length = b.length → a.all dig = true → b.all dig = true → valF 0 a = valF 0 b → a = b
  | [], [], _, _, _, _ => rfl
  | x :: a, y :: b, hl, ha, hb, hv => by
    rw [List.all_cons, Bool.and_eq_true] at ha hb
    rw [List.length_cons, List.length_cons] at hl
    have hl' : a.length = b.length := by omega
    have la := valF_lt a ha.2
    have lb := valF_lt b hb.2
    rw [valF_cons, valF_cons, valF_add a, valF_add b, hl'] at hv
    rw [hl'] at la
    have hx := ha.1; have hy := hb.1
    unfold dig at hx hy
    rw [decide_eq_true_eq] at hx hy
    have dx : dval x = x.toNat - 48 := rfl
    have dy : dval y = y.toNat - 48 := rfl
    rcases Nat.lt_trichotomy x.toNat y.toNat with h | h | h
    · have h2 : (10 * 0 + dval x + 1) * 10 ^ b.length ≤ (10 * 0 + dval y) * 10 ^ b.length := Nat.mul_le_mul_right _ (by omega)
      rw [Nat.add_mul] at h2; omega
    · obtain rfl : x = y := UInt8.toNat_inj.1 h
      rw [val_inj a b hl' ha.2 hb.2 (by omega)]
    · have h2 : (10 * 0 + dval y + 1) * 10 ^ b.length ≤ (10 * 0 + dval x) * 10 ^ b.length := Nat.mul_le_mul_right _ (by omega)
      rw [Nat.add_mul] at h2; omega

/-- Is a row of digits above one of nineteen? -/
theorem above_long {d m : List UInt8} (hd : d.all dig = true) (hm : m.all dig = true) (h0 : d.take 1 ≠ [48] ∨ d.length ≤ 1) (hml : m.length = 19) (hm1 : 10 ^ 18 ≤ valF 0 m) (hne : d.length ≠ m.length) :
    decide (m.length < d.length) = decide (valF 0 m < valF 0 d) := by
  rw [hml] at hne ⊢
  have lm := valF_lt m hm
  rw [hml] at lm
  apply decide_eq_decide.2
  constructor
  · intro h
    cases d with
    | nil => simp at h
    | cons c r =>
      have hc : 1 ≤ dval c := by
        rw [List.all_cons, Bool.and_eq_true] at hd
        have := hd.1
        unfold dig at this
        rw [decide_eq_true_eq] at this
        rcases h0 with h1 | h1
        · have : c ≠ 48 := fun e => h1 (by rw [e]; rfl)
          have : c.toNat ≠ 48 := fun e => this (UInt8.toNat_inj.1 e)
          unfold dval; omega
        · omega
      have hb := valF_big (r := r) hc
      rw [List.length_cons] at h
      have hp : 10 ^ 19 ≤ 10 ^ r.length := Nat.pow_le_pow_right (by omega) (by omega)
      omega
  · intro h
    rcases Nat.lt_or_ge 19 d.length with h1 | h1
    · exact h1
    · have ld := valF_lt d hd
      have hp : 10 ^ d.length ≤ 10 ^ 18 := Nat.pow_le_pow_right (by omega) (by omega)
      omega
theorem above_same {d m : List UInt8} (hd : d.all dig = true) (hm : m.all dig = true) (hl : d.length = m.length) :
    (!(Op.bytesLess d m || d == m)) = decide (valF 0 m < valF 0 d) := by
  have h1 := lex_val d m hl hd hm
  rw [Plo.bl_eq, Bool.eq_iff_iff]
  simp only [Bool.not_eq_true', Bool.or_eq_false_iff, decide_eq_false_iff_not, beq_eq_false_iff_ne, decide_eq_true_eq]
  rw [h1]
  constructor
  · rintro ⟨a, b⟩
    have : valF 0 d ≠ valF 0 m := fun e => b (val_inj d m hl hd hm e)
    omega
  · intro a
    exact ⟨by omega, fun e => by rw [e] at a; omega⟩
theorem valF_append (a b : List UInt8) : valF 0 (a ++ b) = valF (valF 0 a) b := by simp [valF]
theorem valF_take_le (l : List UInt8) (k : Nat) : valF 0 (l.take k) ≤ valF 0 l := by
  have h := valF_append (l.take k) (l.drop k)
  rw [List.take_append_drop] at h
  rw [h]; exact valF_ge _ _
def most7 : List UInt8 := [57, 50, 50, 51, 51, 55, 50, 48, 51, 54, 56, 53, 52, 55, 55, 53, 56, 48, 55]
def most8 : List UInt8 := [57, 50, 50, 51, 51, 55, 50, 48, 51, 54, 56, 53, 52, 55, 55, 53, 56, 48, 56]
theorem most7_val : valF 0 most7 = 9223372036854775807 := by decide +kernel
theorem most8_val : valF 0 most8 = 9223372036854775808 := by decide +kernel
theorem most7_dig : most7.all dig = true := by decide +kernel
theorem most8_dig : most8.all dig = true := by decide +kernel
end Go.Proofs.YtjmgfhbadnechaaDoor.Pnu
