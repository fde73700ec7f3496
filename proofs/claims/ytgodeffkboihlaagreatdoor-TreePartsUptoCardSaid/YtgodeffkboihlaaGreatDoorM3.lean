/- A part of the proof; several texts in one file. -/
import Derived.Test.YtgodeffkboihlaaGreatDoorTwm
import Derived.Lib.ItoaLen
import Derived.Test.YtgodeffkboihlaaGreatDoorTwn
import Derived.Test.YtgodeffkboihlaaGreatDoorTba
import Derived.Test.YtgodeffkboihlaaGreatDoorTsa
/- How long a text of a tree may be (plain). -/
set_option linter.unusedVariables false
namespace Go.Proofs.YtgodeffkboihlaaGreatDoor.Two
open Tra Trb Trf Trd Tcn Trh Tha Txa Tpr Tpt Txi Txw Tqb Tqd Twa Twb Twc Twd Twg Twi Twm

/-- The texts' lengths, over a list. -/
def zs (E : Tr → Bs) : List Tr → Nat
  | [] => 0
  | t :: l => (E t).length + zs E l
theorem kid_cons_succ (a : Tr) (l : List Tr) (j : Nat) : kid (j + 1) (a :: l) = kid j l := by simp [kid]
theorem kid_zero (a : Tr) (l : List Tr) : kid 0 (a :: l) = a := by simp [kid]
theorem comma_zs (E : Tr → Bs) : ∀ (l : List Tr) (n : Nat), n ≤ l.length → (comma E l n).length ≤ zs E (l.take n) + 2 * n := by
  intro l n
  induction n with
  | zero => intro _; simp [comma]
  | succ n ih =>
    intro h
    have := ih (by omega)
    have e : zs E (l.take (n + 1)) = zs E (l.take n) + (E (kid n l)).length := by
      rw [List.take_add_one, List.getElem?_eq_getElem (by omega)]
      have : ∀ (a b : List Tr), zs E (a ++ b) = zs E a + zs E b := by
        intro a b
        induction a with
        | nil => simp [zs]
        | cons t a ih => simp only [List.cons_append, zs, ih]; omega
      rw [this]
      simp [zs, kid, List.getD_eq_getElem?_getD, List.getElem?_eq_getElem (show n < l.length by omega)]
    rw [e]
    simp only [comma, List.length_append]
    have h2 : (if n = 0 then ([] : Bs) else [44, 32]).length ≤ 2 := by split <;> simp
    show _ + (_ + (E (kid n l)).length) ≤ _
    omega
theorem commas_zs (E : Tr → Bs) (l : List Tr) : (commas E l).length ≤ zs E l + 2 * l.length := by
  have := comma_zs E l l.length (Nat.le_refl _)
  rwa [List.take_length] at this
theorem held_len (E : Tr → Bs) (m : Bool) (t : Tr) : (heldT E m t).length ≤ (E t).length + 2 := by
  unfold heldT; split <;> simp
theorem exprT_zero (f : Nat) : exprT f tr0 = [] := by
  cases f with
  | zero => rfl
  | succ f => simp [exprT, tr0, nd0]
theorem zs_two (E : Tr → Bs) (h0 : E tr0 = []) (l : List Tr) : (E (kid 0 l)).length + (E (kid 1 l)).length ≤ zs E l := by
  match l with
  | [] => simp [kid, h0]
  | [a] => simp [kid, h0, zs]
  | a :: b :: r =>
    simp only [kid, zs, List.getD_cons_zero, List.getD_cons_succ]; omega
theorem fit_mem {d : Nd} {ks : List Tr} (h : Fit (.mk d ks)) : ∀ t, t ∈ ks → Fit t := by
  intro t ht
  obtain ⟨j, hj, rfl⟩ := List.getElem_of_mem ht
  have := fit_kid h hj
  simpa [List.getD_eq_getElem?_getD, hj] using this
theorem zs_le (E : Tr → Bs) (K : Nat) : ∀ l : List Tr, (∀ t, t ∈ l → (E t).length + 8 ≤ size t * K) → zs E l + 8 * l.length ≤ sizes l * K := by
  intro l
  induction l with
  | nil => intro _; simp [zs, sizes]
  | cons t l ih =>
    intro h
    have h1 := ih fun u hu => h u (by simp [hu])
    have h2 := h t (by simp)
    simp only [zs, sizes, List.length_cons, Nat.add_mul]
    omega
theorem expr_len : ∀ (f : Nat) (t : Tr), Fit t → (exprT f t).length + 8 ≤ size t * 4000000 := by
  intro f
  induction f with
  | zero => intro t _; have := size_pos t; simp only [exprT, List.length_nil]; omega
  | succ f ih =>
    rintro ⟨d, ks⟩ hF
    have hnd := fit_nd hF
    have hz := zs_le (exprT f) 4000000 ks fun t ht => ih t (fit_mem hF t ht)
    have h2 := zs_two (exprT f) (exprT_zero f) ks
    have hc := commas_zs (exprT f) ks
    have hx : (s8 d.text).length ≤ 1048576 := by show d.text.data.toList.length ≤ _; rw [Array.length_toList]; exact hnd.text
    have hy : (s8 d.ty).length ≤ 1048576 := by show d.ty.data.toList.length ≤ _; rw [Array.length_toList]; exact hnd.ty
    have hsz : size (.mk d ks) * 4000000 = 4000000 + sizes ks * 4000000 := by simp only [size, Nat.add_mul, Nat.one_mul]
    rw [hsz]
    simp only [exprT]
    split
    · omega
    split
    · have := Go.Lib.itoa_length_le d.n hnd.n.1 hnd.n.2; omega
    split
    · split <;> (simp only [List.length_cons, List.length_nil]; omega)
    split
    · simp only [List.length_cons, List.length_nil]; omega
    split
    · have := Plw.escs_le (s8 d.text)
      simp only [Plw.quote, List.length_append, List.length_singleton]; omega
    split
    · have := held_len (exprT f) (mustU d (kid 0 ks).d) (kid 0 ks)
      simp only [unaryX, List.length_append]; omega
    split
    · have q1 := held_len (exprT f) (mustL d (kid 0 ks).d) (kid 0 ks)
      have q2 := held_len (exprT f) (mustR d (kid 1 ks).d) (kid 1 ks)
      simp only [binaryX, List.length_append, List.length_singleton]; omega
    split
    · simp only [callX, List.length_append, List.length_singleton]; omega
    split
    · have : (if ks.length = 1 then [44, 32] ++ exprT f (kid 0 ks) else ([] : Bs)).length ≤ 2 + (exprT f (kid 0 ks)).length := by
        split <;> simp; omega
      simp only [makeX, List.length_append, List.length_cons, List.length_nil]; omega
    split
    · have q1 := held_len (exprT f) (mustM (kid 0 ks).d) (kid 0 ks)
      have q2 : (exprT f (kid 0 ks)).length + (commas (exprT f) (ks.drop 1)).length ≤ zs (exprT f) ks + 2 * ks.length := by
        cases ks with
        | nil => simp [kid, exprT_zero, commas, comma]
        | cons a r =>
          have := commas_zs (exprT f) r
          rw [kid_zero, List.drop_one, List.tail_cons]
          simp only [zs, List.length_cons]; omega
      simp only [methodX, List.length_append, List.length_singleton]; omega
    · simp only [List.length_nil]; omega
end Go.Proofs.YtgodeffkboihlaaGreatDoor.Two

/- How long the text of a right file may be (plain). -/
set_option linter.unusedVariables false
namespace Go.Proofs.YtgodeffkboihlaaGreatDoor.Twp
open Tra Trb Trf Trd Tcn Trh Tha Txa Tpr Tpt Txi Txu Txw Tqb Tqd Twa Twb Twc Twd Twg Twi Twm Twn Two

theorem text_len {t : Tr} (h : Fit t) : (s8 t.d.text).length ≤ 1048576 ∧ (s8 t.d.ty).length ≤ 1048576 := by
  obtain ⟨d, ks⟩ := t
  have hnd := fit_nd h
  exact ⟨by show d.text.data.toList.length ≤ _; rw [Array.length_toList]; exact hnd.text, by show d.ty.data.toList.length ≤ _; rw [Array.length_toList]; exact hnd.ty⟩
theorem kid_text (l : List Tr) (h : ∀ t, t ∈ l → Fit t) (j : Nat) : (s8 (kid j l).d.text).length ≤ 1048576 := by
  rcases Nat.lt_or_ge j l.length with hj | hj
  · have : kid j l ∈ l := by unfold kid; rw [List.getD_eq_getElem?_getD, List.getElem?_eq_getElem hj, Option.getD_some]; exact List.getElem_mem hj
    exact (text_len (h _ this)).1
  · have : kid j l = tr0 := by unfold kid; rw [List.getD_eq_getElem?_getD, List.getElem?_eq_none hj]; rfl
    rw [this]; exact Nat.zero_le _
theorem sizes_take (l : List Tr) (m : Nat) (hm : m < l.length) : sizes (l.take m) + size (kid m l) ≤ sizes l := by
  induction l generalizing m with
  | nil => simp at hm
  | cons a l ih =>
    cases m with
    | zero => simp only [List.take_zero, sizes, kid_zero]; omega
    | succ m =>
      have := ih m (by simpa using hm)
      rw [List.take_succ_cons, kid_cons_succ]
      simp only [sizes]; omega
theorem zs_take (E : Tr → Bs) (h0 : E tr0 = []) (l : List Tr) (m : Nat) : zs E (l.take m) + (E (kid m l)).length ≤ zs E l := by
  induction l generalizing m with
  | nil => simp [zs, kid, h0]
  | cons a l ih =>
    cases m with
    | zero => simp only [List.take_zero, zs, kid_zero]; omega
    | succ m =>
      have := ih m
      rw [List.take_succ_cons, kid_cons_succ]
      simp only [zs]; omega
theorem four (l : List Tr) : (0 < l.length → size (kid 0 l) ≤ sizes l) ∧ (1 < l.length → size (kid 0 l) + size (kid 1 l) ≤ sizes l) ∧ (2 < l.length → size (kid 0 l) + size (kid 1 l) + size (kid 2 l) ≤ sizes l) ∧ (3 < l.length → size (kid 0 l) + size (kid 1 l) + size (kid 2 l) + size (kid 3 l) ≤ sizes l) := by
  match l with
  | [] => simp
  | [a] => simp [kid, sizes]
  | [a, b] => simp [kid, sizes]
  | [a, b, c] => simp [kid, sizes]; omega
  | a :: b :: c :: e :: r => simp only [kid, sizes, List.getD_cons_zero, List.getD_cons_succ]; omega
theorem zs_fit (F : Nat) (l : List Tr) (h : ∀ t, t ∈ l → Fit t) : zs (exprT F) l + 8 * l.length ≤ sizes l * 4000000 := zs_le (exprT F) 4000000 l fun t ht => expr_len F t (h t ht)
theorem simple_len (F : Nat) (t : Tr) (hF : Fit t) : (simpleTx (exprT F) t).length + 8 ≤ size t * 4000000 := by
  obtain ⟨d, ks⟩ := t
  have hz := zs_fit F ks (fit_mem hF)
  have h2 := zs_two (exprT F) (exprT_zero F) ks
  have hlet : ∀ (eq : Bs) m, eq.length ≤ 4 → (letX (exprT F) eq m ks).length ≤ zs (exprT F) ks + 2 * ks.length + 4 := fun eq m he => by
    have q1 := commas_zs (exprT F) (ks.take m)
    have q2 := zs_take (exprT F) (exprT_zero F) ks m
    have q3 : (ks.take m).length ≤ ks.length := by simp; omega
    simp only [letX, List.length_append]; omega
  have hk := kid_text ks (fit_mem hF) 0
  have hsz : size (.mk d ks) * 4000000 = 4000000 + sizes ks * 4000000 := by simp only [size, Nat.add_mul, Nat.one_mul]
  rw [hsz]
  show (simpleX (exprT F) d ks).length + 8 ≤ _
  unfold simpleX
  split
  · have := hlet [32, 58, 61, 32] d.n.toNat (by decide); omega
  split
  · have := hlet [32, 61, 32] d.n.toNat (by decide); omega
  split
  · have : (if d.n = 1 then ([43, 43] : Bs) else [45, 45]).length ≤ 2 := by split <;> decide
    simp only [List.length_append]; omega
  split
  · simp only [List.length_append, List.length_cons, List.length_nil]; omega
  split
  · omega
  · simp only [List.length_nil]; omega
section
variable (F f : Nat)
/-- A statement's length, so deep. -/
def Short (k : Nat) (x : Bs) (t : Tr) : Prop := x.length + 200100 ≤ size t * 5000000
theorem lines_len (S : Nat → Tr → Bs) (k : Nat) (hk : k ≤ 200000) (l : List Tr) (h : ∀ j, j < l.length → Short (k + 1) (S (k + 1) (kid j l)) (kid j l)) : (linesX S k l).length ≤ sizes l * 5000000 := by
  have : ∀ n, n ≤ l.length → (linesTo S k l n).length ≤ sizes (l.take n) * 5000000 := by
    intro n
    induction n with
    | zero => intro _; simp [linesTo]
    | succ n ih =>
      intro hn
      have h1 := ih (by omega)
      have h2 := h n (by omega)
      unfold Short at h2
      have e : sizes (l.take (n + 1)) = sizes (l.take n) + size (kid n l) := by
        rw [List.take_add_one, List.getElem?_eq_getElem (by omega), sizes_append]
        simp [sizes, kid, List.getD_eq_getElem?_getD, List.getElem?_eq_getElem (show n < l.length by omega)]
      rw [e]
      simp only [linesTo, List.length_append, List.length_singleton, tabsT, List.length_replicate]
      omega
  have := this l.length (Nat.le_refl _)
  rwa [List.take_length] at this
theorem block_len (S : Nat → Tr → Bs) (k : Nat) (hk : k ≤ 200000) (t : Tr) (h : ∀ j, j < t.kids.length → Short (k + 1) (S (k + 1) (kid j t.kids)) (kid j t.kids)) : Short k (blockX S k t) t := by
  have := lines_len S k hk t.kids h
  have e : size t = 1 + sizes t.kids := by obtain ⟨d, ks⟩ := t; rfl
  unfold Short blockX
  rw [e]
  simp only [List.length_append, List.length_cons, List.length_nil, tabsT, List.length_replicate]
  omega
theorem head_len (d : Nd) (ks : List Tr) (hd : (s8 d.text).length ≤ 1048576) (hF : ∀ t, t ∈ ks → Fit t) (hl : (d.n = 1 → ks.length = 2) ∧ (d.n = 2 → ks.length = 4) ∧ (d.n = 3 → ks.length = 3)) : (headX (exprT F) d ks).length ≤ (sizes ks - size (kid (ks.length - 1) ks)) * 5000000 + 2200000 := by
  have hm : ∀ j, j < ks.length → kid j ks ∈ ks := fun j hj => by unfold kid; rw [List.getD_eq_getElem?_getD, List.getElem?_eq_getElem hj, Option.getD_some]; exact List.getElem_mem hj
  obtain ⟨f1, f2, f3, f4⟩ := four ks
  unfold headX
  by_cases n1 : d.n = 1
  · rw [if_pos n1]
    have h2 := hl.1 n1
    have q0 := expr_len F _ (hF _ (hm 0 (by omega)))
    have := f2 (by omega)
    rw [h2]
    simp only [head1, Nat.reduceSub, List.length_append, List.length_singleton]; omega
  rw [if_neg n1]
  by_cases n2 : d.n = 2
  · rw [if_pos n2]
    have h2 := hl.2.1 n2
    have q0 := simple_len F _ (hF _ (hm 0 (by omega)))
    have q1 := expr_len F _ (hF _ (hm 1 (by omega)))
    have q2 := simple_len F _ (hF _ (hm 2 (by omega)))
    have := f4 (by omega)
    have i1 : (if (kid 1 ks).d.k = 0 then ([] : Bs) else [32] ++ exprT F (kid 1 ks)).length ≤ 1 + (exprT F (kid 1 ks)).length := by split <;> simp <;> omega
    have i2 : (if (kid 2 ks).d.k = 0 then ([] : Bs) else [32] ++ simpleTx (exprT F) (kid 2 ks)).length ≤ 1 + (simpleTx (exprT F) (kid 2 ks)).length := by split <;> simp <;> omega
    rw [h2]
    simp only [head2, Nat.reduceSub, List.length_append, List.length_singleton]; omega
  rw [if_neg n2]
  by_cases n3 : d.n = 3
  · rw [if_pos n3]
    have h2 := hl.2.2 n3
    have q1 := expr_len F _ (hF _ (hm 1 (by omega)))
    have := f3 (by omega)
    have i1 : (if d.text.toList.isEmpty then ([] : Bs) else s8 (kid 0 ks).d.text ++ [32] ++ s8 d.text ++ [32]).length ≤ 2097154 := by
      have := kid_text ks hF 0
      split
      · simp
      · simp only [List.length_append, List.length_singleton]; omega
    rw [h2]
    simp only [head3, Nat.reduceSub, List.length_append, List.length_cons, List.length_nil]; omega
  rw [if_neg n3]; simp
theorem clause_len (S : Nat → Tr → Bs) (P is : Tr → Bool) (k c : Nat) (hk : k ≤ 200000) (t : Tr) (hF : Fit t) (hB : clauseB P is c t = true) (his : (t.d.k = 14 ∧ is = caseT (exprB F)) ∨ (t.d.k ≠ 14 ∧ is = armT (exprB F)))
    (h : ∀ j, j < (kid (t.kids.length - 1) t.kids).kids.length → Short (k + 1) (S (k + 1) (kid j (kid (t.kids.length - 1) t.kids).kids)) (kid j (kid (t.kids.length - 1) t.kids).kids)) : Short k (clauseX (exprT F) S k t) t := by
  have hl := lines_len S k hk _ h
  unfold clauseB okB at hB
  simp only [Bool.and_eq_true, decide_eq_true_eq] at hB
  obtain ⟨⟨_, _, hpos, _⟩, hq⟩ := hB
  have hu : size (kid (t.kids.length - 1) t.kids) = 1 + sizes (kid (t.kids.length - 1) t.kids).kids := by
    generalize kid (t.kids.length - 1) t.kids = u
    obtain ⟨d, ks⟩ := u; rfl
  have ht : size t = 1 + sizes t.kids := by obtain ⟨d, ks⟩ := t; rfl
  have hmem : ∀ u, u ∈ t.kids → Fit u := by obtain ⟨d, ks⟩ := t; exact fit_mem hF
  have hst := sizes_take t.kids (t.kids.length - 1) (by omega)
  have hhead : (clauseHead (exprT F) t).length ≤ sizes (t.kids.take (t.kids.length - 1)) * 4000000 + 16 := by
    unfold clauseHead
    by_cases n1 : t.d.n = 1
    · rw [if_pos n1]; simp only [List.length_cons, List.length_nil]; omega
    rw [if_neg n1] at hq ⊢
    rcases his with ⟨e, rfl⟩ | ⟨e, rfl⟩
    · rw [if_pos e]
      have q1 := commas_zs (exprT F) (t.kids.take (t.kids.length - 1))
      have q2 := zs_fit F (t.kids.take (t.kids.length - 1)) fun u hu => hmem u (List.mem_of_mem_take hu)
      simp only [List.length_append, List.length_cons, List.length_nil]; omega
    · rw [if_neg e]
      unfold armT at hq
      simp only [Bool.and_eq_true, beq_iff_eq] at hq
      have h2 := hq.1
      have hs : sizes (t.kids.take (t.kids.length - 1)) = size (kid 0 t.kids) := by
        rw [h2]
        match t.kids, h2 with
        | [a, b], _ => simp [sizes, kid]
      have q := simple_len F (kid 0 t.kids) (hmem _ (by unfold kid; rw [List.getD_eq_getElem?_getD, List.getElem?_eq_getElem hpos, Option.getD_some]; exact List.getElem_mem hpos))
      rw [hs]
      simp only [List.length_append, List.length_cons, List.length_nil]; omega
  unfold Short clauseX
  simp only [List.length_append, List.length_cons, List.length_nil, tabsT, List.length_replicate]
  omega
theorem clauses_len (S : Nat → Tr → Bs) (k : Nat) (hk : k ≤ 200000) (l : List Tr) (h : ∀ j, j < l.length → Short k (clauseX (exprT F) S k (kid j l)) (kid j l)) : (clausesX (exprT F) S k l).length ≤ sizes l * 5000000 + 200010 := by
  have : ∀ n, n ≤ l.length → (clausesTo (exprT F) S k l n).length ≤ sizes (l.take n) * 5000000 := by
    intro n
    induction n with
    | zero => intro _; simp [clausesTo]
    | succ n ih =>
      intro hn
      have h1 := ih (by omega)
      have h2 := h n (by omega)
      unfold Short at h2
      have e : sizes (l.take (n + 1)) = sizes (l.take n) + size (kid n l) := by
        rw [List.take_add_one, List.getElem?_eq_getElem (by omega), sizes_append]
        simp [sizes, kid, List.getD_eq_getElem?_getD, List.getElem?_eq_getElem (show n < l.length by omega)]
      rw [e]
      simp only [clausesTo, List.length_append]
      omega
  have := this l.length (Nat.le_refl _)
  rw [List.take_length] at this
  simp only [clausesX, List.length_append, List.length_cons, List.length_nil, tabsT, List.length_replicate]
  omega
end
theorem stmt_len (F : Nat) : ∀ (f k : Nat) (t : Tr), Fit t → k + size t ≤ 200000 → stmtB (exprB F) f t = true → Short k (stmtT (exprT F) f k t) t := by
  intro f
  induction f with
  | zero => intro k t _ _ h; simp [stmtB] at h
  | succ f ih =>
    rintro k ⟨d, ks⟩ hF hk hB
    have hmem := fit_mem hF
    have hm : ∀ j, j < ks.length → kid j ks ∈ ks := fun j hj => by unfold kid; rw [List.getD_eq_getElem?_getD, List.getElem?_eq_getElem hj, Option.getD_some]; exact List.getElem_mem hj
    have hs1 : k + 1 + sizes ks ≤ 200000 := by simp only [size] at hk; omega
    have hkz : ∀ j, j < ks.length → size (kid j ks) ≤ sizes ks := fun j hj => size_kid hj
    have hE : ∀ j, j < ks.length → (exprT F (kid j ks)).length + 8 ≤ size (kid j ks) * 4000000 := fun j hj => expr_len F _ (hmem _ (hm j hj))
    have hlin : ∀ t : Tr, Fit t → k + size t ≤ 200000 → blockT (stmtB (exprB F) f) t = true → ∀ j, j < t.kids.length → Short (k + 1) (stmtT (exprT F) f (k + 1) (kid j t.kids)) (kid j t.kids) := fun t ht hz hb j hj =>
      ih (k + 1) _ (fit_in ht hj) (by have := size_in t hj; omega) (all_kid (blockT_parts hb) hj)
    have hBL : ∀ j, j < ks.length → blockT (stmtB (exprB F) f) (kid j ks) = true → Short k (blockX (stmtT (exprT F) f) k (kid j ks)) (kid j ks) := fun j hj hb =>
      block_len _ k (by omega) _ (hlin _ (hmem _ (hm j hj)) (by have := hkz j hj; omega) hb)
    have hx : (s8 d.text).length ≤ 1048576 ∧ (s8 d.ty).length ≤ 1048576 := text_len hF
    have hsz : size (.mk d ks) * 5000000 = 5000000 + sizes ks * 5000000 := by simp only [size, Nat.add_mul, Nat.one_mul]
    have hcl : ∀ (is : Tr → Bool) (l : List Tr), (∀ u, u ∈ l → Fit u) → k + 1 + sizes l ≤ 200000 → clausesB (stmtB (exprB F) f) is l = true → (∀ j, j < l.length → ((kid j l).d.k = 14 ∧ is = caseT (exprB F)) ∨ ((kid j l).d.k ≠ 14 ∧ is = armT (exprB F))) → (clausesX (exprT F) (stmtT (exprT F) f) k l).length ≤ sizes l * 5000000 + 200010 := by
      intro is l hl hz hb his
      refine clauses_len F _ k (by omega) l fun j hj => ?_
      have hml : kid j l ∈ l := by unfold kid; rw [List.getD_eq_getElem?_getD, List.getElem?_eq_getElem hj, Option.getD_some]; exact List.getElem_mem hj
      have hcb := (clausesB_iff _ _ _).1 hb j hj
      have hzj : size (kid j l) ≤ sizes l := size_kid hj
      refine clause_len F _ _ is k _ (by omega) _ (hl _ hml) hcb (his j hj) ?_
      have hcb' := hcb
      change clauseB _ _ _ (kid j l) = true at hcb'
      unfold clauseB okB at hcb'
      simp only [Bool.and_eq_true, decide_eq_true_eq] at hcb'
      have hpos := hcb'.1.2.2.1
      have hll : (kid j l).kids.length - 1 < (kid j l).kids.length := by omega
      exact hlin _ (fit_in (hl _ hml) hll) (by have := size_in (kid j l) hll; omega) hcb'.1.2.2.2
    obtain ⟨f1, f2, f3, f4⟩ := four ks
    show (stmtT (exprT F) (f + 1) k (.mk d ks)).length + 200100 ≤ size (.mk d ks) * 5000000
    rw [hsz]
    simp only [stmtB] at hB
    simp only [stmtT]
    by_cases h0 : d.k = 4
    · rw [if_pos h0] at hB ⊢
      have := block_len (stmtT (exprT F) f) k (by omega) (.mk d ks) (hlin _ hF hk hB)
      unfold Short at this
      rw [hsz] at this; omega
    rw [if_neg h0] at hB ⊢
    by_cases h1 : d.k = 5
    · rw [if_pos h1] at ⊢
      have i1 : (if ks.length = 1 then [32, 61, 32] ++ exprT F (kid 0 ks) else ([] : Bs)).length ≤ 3 + sizes ks * 4000000 := by
        split
        · rename_i e
          have := hE 0 (by omega)
          have := f1 (by omega)
          simp only [List.length_append, List.length_cons, List.length_nil]; omega
        · simp
      simp only [varX, List.length_append, List.length_cons, List.length_nil]; omega
    rw [if_neg h1] at hB ⊢
    by_cases h2 : d.k = 11
    · rw [if_pos h2] at hB ⊢
      unfold ifB at hB
      simp only [Bool.and_eq_true, decide_eq_true_eq, Bool.or_eq_true, beq_iff_eq] at hB
      obtain ⟨hge, hle, _, he, hb, hor⟩ := hB
      have q0 := hE 0 (by omega)
      have q1 := hBL 1 (by omega) hb
      unfold Short at q1
      have := f2 (by omega)
      by_cases e : ks.length = 3
      · have hP : stmtB (exprB F) f (kid 2 ks) = true := by
          rcases hor with h | h
          · omega
          · exact h.2
        have q2 := ih k (kid 2 ks) (hmem _ (hm 2 (by omega))) (by have := hkz 2 (by omega); omega) hP
        unfold Short at q2
        have := f3 (by omega)
        simp only [ifX, if_pos e, List.length_append, List.length_cons, List.length_nil]; omega
      · simp only [ifX, if_neg e, List.length_append, List.length_cons, List.length_nil]; omega
    rw [if_neg h2] at hB ⊢
    by_cases h3 : d.k = 12
    · rw [if_pos h3] at hB ⊢
      have key : 0 < ks.length ∧ blockT (stmtB (exprB F) f) (kid (ks.length - 1) ks) = true ∧ ((d.n = 1 → ks.length = 2) ∧ (d.n = 2 → ks.length = 4) ∧ (d.n = 3 → ks.length = 3)) := by
        unfold loopB at hB
        split at hB
        · rename_i n0
          simp only [Bool.and_eq_true, beq_iff_eq] at hB
          refine ⟨by omega, by rw [hB.1]; exact hB.2.1, by omega, by omega, by omega⟩
        split at hB
        · rename_i n0 n1
          simp only [Bool.and_eq_true, beq_iff_eq] at hB
          refine ⟨by omega, by rw [hB.1]; exact hB.2.1, by omega, by omega, by omega⟩
        split at hB
        · rename_i n0 n1 n2
          simp only [Bool.and_eq_true, beq_iff_eq] at hB
          refine ⟨by omega, by rw [hB.1]; exact hB.2.1, by omega, by omega, by omega⟩
        split at hB
        · rename_i n0 n1 n2 n3
          simp only [Bool.and_eq_true, beq_iff_eq] at hB
          refine ⟨by omega, by rw [hB.1]; exact hB.2.1, by omega, by omega, by omega⟩
        · cases hB
      have q1 := hBL (ks.length - 1) (by omega) key.2.1
      unfold Short at q1
      have q2 := head_len F d ks hx.1 hmem key.2.2
      have := hkz (ks.length - 1) (by omega)
      simp only [forX, List.length_append, List.length_cons, List.length_nil]; omega
    rw [if_neg h3] at hB ⊢
    by_cases h4 : d.k = 13
    · rw [if_pos h4] at hB ⊢
      unfold switchesB at hB
      have hsw : ∀ m, switchB (exprB F) (stmtB (exprB F) f) d ks m = true → m ≤ ks.length ∧ (clausesX (exprT F) (stmtT (exprT F) f) k (ks.drop m)).length ≤ sizes (ks.drop m) * 5000000 + 200010 := by
        intro m h
        unfold switchB at h
        simp only [Bool.and_eq_true, decide_eq_true_eq] at h
        obtain ⟨q1, _, q2, q3, q4⟩ := h
        have hsd := Twl.sizes_drop ks m
        refine ⟨q1, hcl (caseT (exprB F)) _ (fun u hu => hmem u (List.mem_of_mem_drop hu)) (by omega) q4 (fun j hj => .inl ⟨?_, rfl⟩)⟩
        have := all_kid q3 hj
        unfold kindT at this
        exact beq_iff_eq.1 this
      by_cases n0 : d.n = 0
      · rw [if_pos n0] at hB
        obtain ⟨_, q⟩ := hsw 0 hB
        have := Twl.sizes_drop ks 0
        rw [show switchX (exprT F) (stmtT (exprT F) f) k d ks = [115, 119, 105, 116, 99, 104, 32] ++ ([] ++ clausesX (exprT F) (stmtT (exprT F) f) k (ks.drop 0)) by unfold switchX; rw [n0]; rfl]
        simp only [List.length_append, List.length_cons, List.length_nil]; omega
      rw [if_neg n0] at hB
      by_cases n1 : d.n = 1
      · rw [if_pos n1] at hB
        obtain ⟨hl, q⟩ := hsw 1 hB
        have q0 := hE 0 (by omega)
        have hd1 : sizes (ks.drop 1) + size (kid 0 ks) = sizes ks := by
          cases ks with
          | nil => simp at hl
          | cons a r => rw [List.drop_one, List.tail_cons, kid_zero]; simp only [sizes]; omega
        rw [show switchX (exprT F) (stmtT (exprT F) f) k d ks = [115, 119, 105, 116, 99, 104, 32] ++ ((exprT F (kid 0 ks) ++ [32]) ++ clausesX (exprT F) (stmtT (exprT F) f) k (ks.drop 1)) by unfold switchX; rw [n1]; rfl]
        simp only [List.length_append, List.length_cons, List.length_nil]; omega
      rw [if_neg n1] at hB
      cases hB
    rw [if_neg h4] at hB ⊢
    by_cases h5 : d.k = 15
    · rw [if_pos h5] at hB ⊢
      unfold selectsB at hB
      simp only [Bool.and_eq_true] at hB
      obtain ⟨_, q3, q4⟩ := hB
      have := hcl (armT (exprB F)) ks hmem hs1 q4 (fun j hj => .inr ⟨by
        have := all_kid q3 hj
        unfold kindT at this
        rw [beq_iff_eq.1 this]; decide, rfl⟩)
      simp only [selectX, List.length_append, List.length_cons, List.length_nil]; omega
    rw [if_neg h5] at hB ⊢
    by_cases h6 : d.k = 17
    · rw [if_pos h6] at hB ⊢
      unfold goB at hB
      simp only [Bool.and_eq_true, beq_iff_eq] at hB
      have := hE 0 (by omega)
      have := f1 (by omega)
      simp only [goX, List.length_append, List.length_cons, List.length_nil]; omega
    rw [if_neg h6] at hB ⊢
    by_cases h7 : d.k = 18
    · rw [if_pos h7] at ⊢
      have i1 : (if ks.length = 1 then [32] ++ exprT F (kid 0 ks) else ([] : Bs)).length ≤ 3 + sizes ks * 4000000 := by
        split
        · rename_i e
          have := hE 0 (by omega)
          have := f1 (by omega)
          simp only [List.length_append, List.length_cons, List.length_nil]; omega
        · simp
      simp only [retX, List.length_append, List.length_cons, List.length_nil]; omega
    rw [if_neg h7] at hB ⊢
    by_cases h8 : d.k = 19
    · rw [if_pos h8]; simp only [List.length_cons, List.length_nil]; omega
    rw [if_neg h8] at hB ⊢
    by_cases h9 : d.k = 20
    · rw [if_pos h9]; simp only [List.length_cons, List.length_nil]; omega
    rw [if_neg h9] at hB ⊢
    have := simple_len F (.mk d ks) hF
    have e : simpleTx (exprT F) (.mk d ks) = simpleX (exprT F) d ks := rfl
    rw [e] at this
    simp only [size, Nat.add_mul, Nat.one_mul] at this
    omega
theorem fun_len (F : Nat) (t : Tr) (hF : Fit t) (hk : size t ≤ 200000) (hB : funT F t = true) : (funX (exprT F) (stmtT (exprT F) F) t).length ≤ size t * 5000000 := by
  have hx := text_len hF
  unfold funT funcB at hB
  simp only [Bool.and_eq_true, decide_eq_true_eq] at hB
  obtain ⟨_, _, hpos, _, _, hb, _⟩ := hB
  have hl : t.kids.length - 1 < t.kids.length := by omega
  have hsl := size_in t hl
  have hfl := fit_in hF hl
  have hblk := block_len (stmtT (exprT F) F) 0 (by omega) (kid (t.kids.length - 1) t.kids) (fun j hj =>
    stmt_len F F 1 _ (fit_in hfl hj) (by have := size_in (kid (t.kids.length - 1) t.kids) hj; omega) (all_kid (blockT_parts hb) hj))
  unfold Short at hblk
  have ht : size t = 1 + sizes t.kids := by obtain ⟨d, ks⟩ := t; rfl
  have hmem : ∀ u, u ∈ t.kids → Fit u := by obtain ⟨d, ks⟩ := t; exact fit_mem hF
  have hst := sizes_take t.kids (t.kids.length - 1) hl
  have q1 := commas_zs paramX (t.kids.take (t.kids.length - 1))
  have q2 := zs_le paramX 4000000 (t.kids.take (t.kids.length - 1)) fun u hu => by
    have := text_len (hmem u (List.mem_of_mem_take hu))
    have := size_pos u
    simp only [paramX, List.length_append, List.length_singleton]; omega
  have i1 : (if t.d.ty.toList.isEmpty then ([] : Bs) else s8 t.d.ty ++ [32]).length ≤ 1048577 := by
    split
    · simp
    · simp only [List.length_append, List.length_singleton]; omega
  rw [ht]
  simp only [funX, List.length_append, List.length_cons, List.length_nil]; omega
/-- No file of at most 199000 nodes is written in more than `most` bytes. -/
theorem text_most (t : Tr) (hF : Fit t) (hz : size t ≤ 199000) (hr : rightT t = 0) : (textT t).length ≤ most := by
  have hfun := right_zero hr
  have hmem : ∀ j, j < t.kids.length → Fit (kid j t.kids) := fun j hj => fit_in hF hj
  have ht : size t = 1 + sizes t.kids := by obtain ⟨d, ks⟩ := t; rfl
  have : ∀ n, n ≤ t.kids.length → (funsTo (exprT (size t)) (stmtT (exprT (size t)) (size t)) t.kids n).length ≤ sizes (t.kids.take n) * 5000000 := by
    intro n
    induction n with
    | zero => intro _; simp [funsTo]
    | succ n ih =>
      intro hn
      have h1 := ih (by omega)
      have h2 := fun_len (size t) (kid n t.kids) (hmem n (by omega)) (by have := size_in t (show n < t.kids.length by omega); omega) (hfun n (by omega))
      have e : sizes (t.kids.take (n + 1)) = sizes (t.kids.take n) + size (kid n t.kids) := by
        rw [List.take_add_one, List.getElem?_eq_getElem (by omega), sizes_append]
        simp [sizes, kid, List.getD_eq_getElem?_getD, List.getElem?_eq_getElem (show n < t.kids.length by omega)]
      rw [e]
      simp only [funsTo, List.length_append]
      omega
  have := this t.kids.length (Nat.le_refl _)
  rw [List.take_length] at this
  unfold textT most
  omega
end Go.Proofs.YtgodeffkboihlaaGreatDoor.Twp

/- The plain functions of trees do not hang on their fuel. -/
set_option linter.unusedVariables false
namespace Go.Proofs.YtgodeffkboihlaaGreatDoor.Tfu
open Tra Trb Trf Trd Tcn Trh Tha Txa Tpr Tpt Txi Txu Txw Tqb Tqd Twa Twb Twc Twd Twg Twi Twm Twn Two Twp

/-- Two functions that agree on all smaller trees. -/
structure Agree {α : Type} (n : Nat) (E E' : Tr → α) : Prop where
  zero : E tr0 = E' tr0
  less : ∀ u, size u < n → E u = E' u
section
variable {α : Type} {n : Nat} {E E' : Tr → α} {d : Nd} {ks : List Tr}
theorem mem_size {t : Tr} (h : t ∈ ks) : size t ≤ sizes ks := by
  induction ks with
  | nil => cases h
  | cons a l ih =>
    simp only [sizes]
    rcases List.mem_cons.1 h with rfl | h
    · omega
    · have := ih h; omega
theorem Agree.mem (h : Agree n E E') (hn : sizes ks < n) : ∀ t, t ∈ ks → E t = E' t := fun t ht => h.less t (Nat.lt_of_le_of_lt (mem_size ht) hn)
theorem Agree.kid (h : Agree n E E') (hn : sizes ks < n) (j : Nat) : E (kid j ks) = E' (kid j ks) := by
  rcases Nat.lt_or_ge j ks.length with hj | hj
  · exact h.less _ (Nat.lt_of_le_of_lt (size_kid hj) hn)
  · have : Twd.kid j ks = tr0 := by unfold Twd.kid; rw [List.getD_eq_getElem?_getD, List.getElem?_eq_none hj]; rfl
    rw [this]; exact h.zero
theorem Agree.mono {m : Nat} (h : Agree n E E') (hm : m ≤ n) : Agree m E E' := ⟨h.zero, fun u hu => h.less u (by omega)⟩
end
theorem sizes_takes (ks : List Tr) (m : Nat) : sizes (ks.take m) ≤ sizes ks := by
  have := sizes_append (ks.take m) (ks.drop m)
  rw [List.take_append_drop] at this; omega
theorem all_agree {n : Nat} {E E' : Tr → Bool} (h : Agree n E E') : ∀ ks : List Tr, sizes ks < n → ks.all E = ks.all E' := by
  intro ks
  induction ks with
  | nil => intro _; rfl
  | cons a l ih =>
    intro hn
    simp only [sizes] at hn
    rw [List.all_cons, List.all_cons, ih (by omega), h.less a (by have := size_pos a; omega)]
theorem itemOf_agree {n : Nat} {E E' : Tr → Bool} (h : Agree n E E') : Agree n (itemOf E) (itemOf E') := by
  refine ⟨?_, fun u hu => ?_⟩
  · rw [Txg.itemOf_other _ (by decide), Txg.itemOf_other _ (by decide)]; exact h.zero
  · by_cases e : u.d.k = 25
    · rw [Txg.itemOf_text _ e, Txg.itemOf_text _ e]
    · rw [Txg.itemOf_other _ e, Txg.itemOf_other _ e]; exact h.less u hu
theorem exprB_zero (f : Nat) : exprB f tr0 = false := by
  cases f with
  | zero => rfl
  | succ f => simp [exprB, tr0, nd0]
theorem exprB_fuel : ∀ (n f g : Nat), n ≤ f → n ≤ g → ∀ t, size t ≤ n → exprB f t = exprB g t := by
  intro n
  induction n with
  | zero => intro f g _ _ t ht; have := size_pos t; omega
  | succ n ih =>
    rintro f g hf hg ⟨d, ks⟩ ht
    obtain ⟨f, rfl⟩ : ∃ f', f = f' + 1 := ⟨f - 1, by omega⟩
    obtain ⟨g, rfl⟩ : ∃ g', g = g' + 1 := ⟨g - 1, by omega⟩
    have hs : sizes ks < n + 1 := by simp only [size] at ht; omega
    have hA : Agree (n + 1) (exprB f) (exprB g) := ⟨by rw [exprB_zero, exprB_zero], fun u hu => ih f g (by omega) (by omega) u (by omega)⟩
    have ha := all_agree hA ks hs
    have hi := all_agree (itemOf_agree hA) ks hs
    have h0 : exprB f (ks.getD 0 tr0) = exprB g (ks.getD 0 tr0) := hA.kid hs 0
    simp only [exprB, unaryB, binaryB, callB, makeB, methodB, ha, hi, h0]
theorem commas_agree {n : Nat} {E E' : Tr → Bs} (h : Agree n E E') (ks : List Tr) (hn : sizes ks < n) : commas E ks = commas E' ks := by
  have : ∀ m, comma E ks m = comma E' ks m := by
    intro m
    induction m with
    | zero => rfl
    | succ m ih => simp only [comma, ih]; rw [show ks.getD m tr0 = kid m ks from rfl, h.kid hn m]
  exact this _
theorem exprT_fuel : ∀ (n f g : Nat), n ≤ f → n ≤ g → ∀ t, size t ≤ n → exprT f t = exprT g t := by
  intro n
  induction n with
  | zero => intro f g _ _ t ht; have := size_pos t; omega
  | succ n ih =>
    rintro f g hf hg ⟨d, ks⟩ ht
    obtain ⟨f, rfl⟩ : ∃ f', f = f' + 1 := ⟨f - 1, by omega⟩
    obtain ⟨g, rfl⟩ : ∃ g', g = g' + 1 := ⟨g - 1, by omega⟩
    have hs : sizes ks < n + 1 := by simp only [size] at ht; omega
    have hA : Agree (n + 1) (exprT f) (exprT g) := ⟨by rw [exprT_zero, exprT_zero], fun u hu => ih f g (by omega) (by omega) u (by omega)⟩
    have hc := commas_agree hA ks hs
    have hd := commas_agree hA (ks.drop 1) (Nat.lt_of_le_of_lt (Twl.sizes_drop ks 1) hs)
    have h0 := hA.kid hs 0
    have h1 := hA.kid hs 1
    simp only [exprT, unaryX, binaryX, callX, makeX, methodX, heldT, hc, hd, h0, h1]
theorem kid_small {ks : List Tr} {n : Nat} (hn : sizes ks < n) (j : Nat) : sizes (kid j ks).kids < n := by
  rcases Nat.lt_or_ge j ks.length with hj | hj
  · have h1 : size (kid j ks) ≤ sizes ks := size_kid hj
    have h2 : size (kid j ks) = 1 + sizes (kid j ks).kids := by
      generalize kid j ks = u
      obtain ⟨d, l⟩ := u; rfl
    omega
  · have : kid j ks = tr0 := by unfold kid; rw [List.getD_eq_getElem?_getD, List.getElem?_eq_none hj]; rfl
    rw [this]; show 0 < n; omega
section
variable {n : Nat} {E E' : Tr → Bool} {X X' : Tr → Bs}
theorem simpleB_agree (h : Agree n E E') (d : Nd) (ks : List Tr) (hn : sizes ks < n) : simpleB E d ks = simpleB E' d ks := by
  have ha := all_agree h ks hn
  have hk : ∀ j, E (kn j ks) = E' (kn j ks) := fun j => h.kid hn j
  have h0 : E (ks.getD 0 tr0) = E' (ks.getD 0 tr0) := h.kid hn 0
  simp only [simpleB, letsB, letB, stepB, sendB, doB, ha, hk, h0]
theorem simpleT_kid (h : Agree n E E') (ks : List Tr) (hn : sizes ks < n) (j : Nat) : simpleT E (kn j ks) = simpleT E' (kn j ks) := simpleB_agree h _ _ (kid_small hn j)
theorem simpleX_agree (h : Agree n X X') (d : Nd) (ks : List Tr) (hn : sizes ks < n) : simpleX X d ks = simpleX X' d ks := by
  have hc := fun m => commas_agree h (ks.take m) (Nat.lt_of_le_of_lt (sizes_takes ks m) hn)
  have hk := fun j => h.kid hn j
  simp only [simpleX, letX, hc, hk]
theorem simpleTx_kid (h : Agree n X X') (ks : List Tr) (hn : sizes ks < n) (j : Nat) : simpleTx X (kid j ks) = simpleTx X' (kid j ks) := simpleX_agree h _ _ (kid_small hn j)
/-- What a clause's part reads of a list. -/
theorem kids_lt {t : Tr} {n : Nat} (h : size t < n) : sizes t.kids < n := by
  obtain ⟨d, ks⟩ := t
  simp only [size, Tr.kids] at h ⊢; omega
theorem blockT_agree {P P' : Tr → Bool} (h : Agree n P P') (t : Tr) (hn : sizes t.kids < n) : blockT P t = blockT P' t := by
  simp only [blockT, blockB, all_agree h t.kids hn]
theorem blockT_kid {P P' : Tr → Bool} (h : Agree n P P') (ks : List Tr) (hn : sizes ks < n) (j : Nat) : blockT P (kn j ks) = blockT P' (kn j ks) := blockT_agree h _ (kid_small hn j)
theorem clausesB_agree {P P' : Tr → Bool} (hP : Agree n P P') {is is' : Tr → Bool} (l : List Tr) (hn : sizes l < n) (hi : ∀ t, size t < n → is t = is' t) : clausesB P is l = clausesB P' is' l := by
  unfold clausesB
  have : ∀ j, j ∈ List.range l.length → clauseB P is (defs (l.take j)) (l.getD j tr0) = clauseB P' is' (defs (l.take j)) (l.getD j tr0) := by
    intro j hj
    have hj' := List.mem_range.1 hj
    have hs : size (l.getD j tr0) < n := Nat.lt_of_le_of_lt (size_kid hj') hn
    simp only [clauseB, okB, blockT_kid hP _ (kids_lt hs), hi _ hs]
  rw [Bool.eq_iff_iff, List.all_eq_true, List.all_eq_true]
  exact ⟨fun h j hj => by rw [← this j hj]; exact h j hj, fun h j hj => by rw [this j hj]; exact h j hj⟩
theorem caseT_agree (h : Agree n E E') : ∀ t, size t < n → caseT E t = caseT E' t := fun t ht => by
  simp only [caseT, all_agree h _ (Nat.lt_of_le_of_lt (sizes_takes t.kids _) (kids_lt ht))]
theorem armT_agree (h : Agree n E E') : ∀ t, size t < n → armT E t = armT E' t := fun t ht => by
  simp only [armT, simpleT_kid h _ (kids_lt ht)]
end
theorem stmtB_zero (E : Tr → Bool) (f : Nat) : stmtB E f tr0 = false := by
  cases f with
  | zero => rfl
  | succ f => simp [stmtB, tr0, nd0, simpleB]
theorem stmtB_fuel (F G : Nat) : ∀ (n f g : Nat), n ≤ f → n ≤ g → n ≤ F → n ≤ G → ∀ t, size t ≤ n → stmtB (exprB F) f t = stmtB (exprB G) g t := by
  intro n
  induction n with
  | zero => intro f g _ _ _ _ t ht; have := size_pos t; omega
  | succ n ih =>
    rintro f g hf hg hFn hGn ⟨d, ks⟩ ht
    obtain ⟨f, rfl⟩ : ∃ f', f = f' + 1 := ⟨f - 1, by omega⟩
    obtain ⟨g, rfl⟩ : ∃ g', g = g' + 1 := ⟨g - 1, by omega⟩
    have hs : sizes ks < n + 1 := by simp only [size] at ht; omega
    have hE : Agree (n + 1) (exprB F) (exprB G) := ⟨by rw [exprB_zero, exprB_zero], fun u hu => exprB_fuel n F G (by omega) (by omega) u (by omega)⟩
    have hP : Agree (n + 1) (stmtB (exprB F) f) (stmtB (exprB G) g) := ⟨by rw [stmtB_zero, stmtB_zero], fun u hu => ih f g (by omega) (by omega) (by omega) (by omega) u (by omega)⟩
    have ha := all_agree hE ks hs
    have hp := all_agree hP ks hs
    have hk : ∀ j, exprB F (kn j ks) = exprB G (kn j ks) := fun j => hE.kid hs j
    have hk0 : exprB F (ks.getD 0 tr0) = exprB G (ks.getD 0 tr0) := hE.kid hs 0
    have hpk : ∀ j, stmtB (exprB F) f (kn j ks) = stmtB (exprB G) g (kn j ks) := fun j => hP.kid hs j
    have hbk := fun j => blockT_kid hP ks hs j
    have hsk := fun j => simpleT_kid hE ks hs j
    have hsb := simpleB_agree hE d ks hs
    have hta := fun m => all_agree hE (ks.take m) (Nat.lt_of_le_of_lt (sizes_takes ks m) hs)
    have hcl := clausesB_agree hP ks hs (armT_agree hE)
    have hcd := fun m => clausesB_agree hP (ks.drop m) (Nat.lt_of_le_of_lt (Twl.sizes_drop ks m) hs) (caseT_agree hE)
    simp only [stmtB, blockB, varB, ifB, loopB, switchesB, switchB, selectsB, goB, retB, ha, hp, hk, hk0, hpk, hbk, hsk, hsb, hta, hcl, hcd]
theorem funT_fuel (F G : Nat) (t : Tr) (hF : size t ≤ F) (hG : size t ≤ G) : funT F t = funT G t := by
  have hP : Agree (size t) (stmtB (exprB F) F) (stmtB (exprB G) G) := ⟨by rw [stmtB_zero, stmtB_zero], fun u hu => stmtB_fuel F G (size u) F G (by omega) (by omega) (by omega) (by omega) u (Nat.le_refl _)⟩
  have hs : sizes t.kids < size t := by obtain ⟨d, ks⟩ := t; simp only [size, Tr.kids]; omega
  have hbk := fun j => blockT_kid hP t.kids hs j
  simp only [funT, funcB, hbk]
theorem linesX_agree {n : Nat} {S S' : Nat → Tr → Bs} (h : ∀ k, Agree n (S k) (S' k)) (k : Nat) (ks : List Tr) (hn : sizes ks < n) : linesX S k ks = linesX S' k ks := by
  have : ∀ m, linesTo S k ks m = linesTo S' k ks m := by
    intro m
    induction m with
    | zero => rfl
    | succ m ih => simp only [linesTo, ih, (h (k + 1)).kid hn m]
  exact this _
theorem blockX_kid {n : Nat} {S S' : Nat → Tr → Bs} (h : ∀ k, Agree n (S k) (S' k)) (k : Nat) (ks : List Tr) (hn : sizes ks < n) (j : Nat) : blockX S k (kid j ks) = blockX S' k (kid j ks) := by
  simp only [blockX, linesX_agree h k _ (kid_small hn j)]
theorem clausesX_agree {n : Nat} {X X' : Tr → Bs} {S S' : Nat → Tr → Bs} (hX : Agree n X X') (h : ∀ k, Agree n (S k) (S' k)) (k : Nat) (l : List Tr) (hn : sizes l < n) : clausesX X S k l = clausesX X' S' k l := by
  have each : ∀ j, clauseX X S k (kid j l) = clauseX X' S' k (kid j l) := by
    intro j
    have hs := kid_small hn j
    have hs2 := kid_small hs ((kid j l).kids.length - 1)
    simp only [clauseX, clauseHead, linesX_agree h k _ hs2, simpleTx_kid hX _ hs, commas_agree hX ((kid j l).kids.take ((kid j l).kids.length - 1)) (Nat.lt_of_le_of_lt (sizes_takes _ _) hs)]
  have : ∀ m, clausesTo X S k l m = clausesTo X' S' k l m := by
    intro m
    induction m with
    | zero => rfl
    | succ m ih => simp only [clausesTo, ih, each]
  simp only [clausesX, this]
theorem stmtT_zero (E : Tr → Bs) (f k : Nat) : stmtT E f k tr0 = [] := by
  cases f with
  | zero => rfl
  | succ f => simp [stmtT, tr0, nd0, simpleX]
theorem stmtT_fuel (F G : Nat) : ∀ (n f g : Nat), n ≤ f → n ≤ g → n ≤ F → n ≤ G → ∀ k t, size t ≤ n → stmtT (exprT F) f k t = stmtT (exprT G) g k t := by
  intro n
  induction n with
  | zero => intro f g _ _ _ _ k t ht; have := size_pos t; omega
  | succ n ih =>
    rintro f g hf hg hFn hGn k ⟨d, ks⟩ ht
    obtain ⟨f, rfl⟩ : ∃ f', f = f' + 1 := ⟨f - 1, by omega⟩
    obtain ⟨g, rfl⟩ : ∃ g', g = g' + 1 := ⟨g - 1, by omega⟩
    have hs : sizes ks < n + 1 := by simp only [size] at ht; omega
    have hE : Agree (n + 1) (exprT F) (exprT G) := ⟨by rw [exprT_zero, exprT_zero], fun u hu => exprT_fuel n F G (by omega) (by omega) u (by omega)⟩
    have hS : ∀ k, Agree (n + 1) (stmtT (exprT F) f k) (stmtT (exprT G) g k) := fun k => ⟨by rw [stmtT_zero, stmtT_zero], fun u hu => ih f g (by omega) (by omega) (by omega) (by omega) k u (by omega)⟩
    have hk := fun j => hE.kid hs j
    have hpk := fun k j => (hS k).kid hs j
    have hbk := fun k j => blockX_kid hS k ks hs j
    have hb : ∀ k, blockX (stmtT (exprT F) f) k (.mk d ks) = blockX (stmtT (exprT G) g) k (.mk d ks) := fun k => by simp only [blockX, Tr.kids, linesX_agree hS k ks hs]
    have hsk := fun j => simpleTx_kid hE ks hs j
    have hsb := simpleX_agree hE d ks hs
    have hcl := fun k => clausesX_agree hE hS k ks hs
    have hcd := fun k m => clausesX_agree hE hS k (ks.drop m) (Nat.lt_of_le_of_lt (Twl.sizes_drop ks m) hs)
    simp only [stmtT, varX, ifX, forX, headX, head1, head2, head3, switchX, selectX, goX, retX, hk, hpk, hbk, hb, hsk, hsb, hcl, hcd]
theorem funX_fuel (F G : Nat) (t : Tr) (hF : size t ≤ F) (hG : size t ≤ G) : funX (exprT F) (stmtT (exprT F) F) t = funX (exprT G) (stmtT (exprT G) G) t := by
  have hS : ∀ k, Agree (size t) (stmtT (exprT F) F k) (stmtT (exprT G) G k) := fun k => ⟨by rw [stmtT_zero, stmtT_zero], fun u hu => stmtT_fuel F G (size u) F G (by omega) (by omega) (by omega) (by omega) k u (Nat.le_refl _)⟩
  have hs : sizes t.kids < size t := by obtain ⟨d, ks⟩ := t; simp only [size, Tr.kids]; omega
  simp only [funX, blockX_kid hS 0 t.kids hs]
end Go.Proofs.YtgodeffkboihlaaGreatDoor.Tfu

/- A bare tree is as right as the tree, and written alike (plain). -/
set_option linter.unusedVariables false
set_option linter.unusedSimpArgs false
namespace Go.Proofs.YtgodeffkboihlaaGreatDoor.Tbr
open Tra Trb Trf Trd Tcn Trh Tha Txa Tpr Tpt Txi Txu Txv Txw Tqb Tqd Twa Twb Twc Twd Twg Twi Twm Twn Two Twp Tfu

theorem bk (d : Nd) : (bareNd d).k = d.k := rfl
theorem bt (d : Nd) : (bareNd d).text = d.text := rfl
theorem bn (d : Nd) : (bareNd d).n = d.n := rfl
theorem bty {d : Nd} (h : marks d.k = false) : (bareNd d).ty = d.ty := by unfold bareNd; rw [h]; rfl
theorem bare_zero : bare tr0 = tr0 := by
  show bare (.mk nd0 []) = _
  rw [bare_mk]; rfl
theorem bare_d (t : Tr) : (bare t).d = bareNd t.d := by obtain ⟨d, ks⟩ := t; rw [bare_mk]; rfl
theorem bare_kids (t : Tr) : (bare t).kids = t.kids.map bare := by obtain ⟨d, ks⟩ := t; rw [bare_mk]; rfl
theorem kid_map (j : Nat) (ks : List Tr) : kid j (ks.map bare) = bare (kid j ks) := by
  unfold kid
  rw [List.getD_eq_getElem?_getD, List.getD_eq_getElem?_getD, List.getElem?_map]
  cases ks[j]? with
  | none => exact bare_zero.symm
  | some u => rfl
theorem kn_map (j : Nat) (ks : List Tr) : kn j (ks.map bare) = bare (kn j ks) := kid_map j ks
theorem hasB_bare (a b c : Bool) (d : Nd) : hasB a b c (bareNd d) = hasB a b c d := by
  unfold hasB bareNd
  cases h : marks d.k
  · simp [h]
  · simp [h]
theorem all_map {E : Tr → Bool} (h : ∀ u, E (bare u) = E u) (ks : List Tr) : (ks.map bare).all E = ks.all E := by
  rw [List.all_map]; congr 1; funext u; exact h u
theorem itemOf_bare {E : Tr → Bool} (h : ∀ u, E (bare u) = E u) (u : Tr) : itemOf E (bare u) = itemOf E u := by
  have e : (bare u).d.k = u.d.k := by rw [bare_d]; rfl
  by_cases hk : u.d.k = 25
  · rw [Txg.itemOf_text _ hk, Txg.itemOf_text _ (e.trans hk), bare_d, bare_kids, hasB_bare]
    simp [zero]
  · rw [Txg.itemOf_other _ hk, Txg.itemOf_other _ (by rw [e]; exact hk)]; exact h u
theorem recvB_bare (d : Nd) : recvB (bareNd d) = recvB d := rfl
theorem exprB_bare : ∀ (f : Nat) (t : Tr), exprB f (bare t) = exprB f t := by
  intro f
  induction f with
  | zero => intro t; obtain ⟨d, ks⟩ := t; rw [bare_mk]; rfl
  | succ f ih =>
    rintro ⟨d, ks⟩
    rw [bare_mk]
    have ha := all_map ih ks
    have hi := all_map (itemOf_bare ih) ks
    have hl : (ks.map bare).length = ks.length := by simp
    have h0 : exprB f ((ks.map bare).getD 0 tr0) = exprB f (ks.getD 0 tr0) := by rw [show (ks.map bare).getD 0 tr0 = bare (ks.getD 0 tr0) from kid_map 0 ks]; exact ih _
    by_cases h29 : d.k = 29
    · have hy := bty (d := d) (by rw [h29]; rfl)
      simp only [exprB, bk, nameB, intB, boolB, nilB, unaryB, binaryB, callB, makeB, methodB, zero, bt, bn, hy, hasB_bare, hl, ha, hi, h0]
      try rfl
    · simp only [exprB, bk, if_neg h29, nameB, intB, boolB, nilB, unaryB, binaryB, callB, methodB, zero, bt, bn, hasB_bare, hl, ha, hi, h0]
      try rfl
theorem commas_map {E : Tr → Bs} (h : ∀ u, E (bare u) = E u) (ks : List Tr) : commas E (ks.map bare) = commas E ks := by
  have : ∀ m, comma E (ks.map bare) m = comma E ks m := by
    intro m
    induction m with
    | zero => rfl
    | succ m ih => simp only [comma, ih]; rw [show (ks.map bare).getD m tr0 = bare (kid m ks) from kid_map m ks, h]
  unfold commas
  rw [List.length_map]; exact this _
theorem exprT_bare : ∀ (f : Nat) (t : Tr), exprT f (bare t) = exprT f t := by
  intro f
  induction f with
  | zero => intro t; obtain ⟨d, ks⟩ := t; rw [bare_mk]; rfl
  | succ f ih =>
    rintro ⟨d, ks⟩
    rw [bare_mk]
    have hc := commas_map ih ks
    have hd := commas_map ih (ks.drop 1)
    have hl : (ks.map bare).length = ks.length := by simp
    have hdr : (ks.map bare).drop 1 = (ks.drop 1).map bare := by rw [List.map_drop]
    by_cases h29 : d.k = 29
    · have hy := bty (d := d) (by rw [h29]; rfl)
      simp only [exprT, bk, unaryX, binaryX, callX, makeX, methodX, heldT, mustU, mustL, mustR, mustM, kid_map, bare_d, bt, bn, hy, hl, hc, hdr, hd, ih]
      try rfl
    · simp only [exprT, bk, if_neg h29, unaryX, binaryX, callX, methodX, heldT, mustU, mustL, mustR, mustM, kid_map, bare_d, bt, bn, hl, hc, hdr, hd, ih]
      try rfl
section
variable {E P : Tr → Bool} (hE : ∀ u, E (bare u) = E u) (hP : ∀ u, P (bare u) = P u)
include hE
theorem simpleB_bare (d : Nd) (ks : List Tr) : simpleB E (bareNd d) (ks.map bare) = simpleB E d ks := by
  have ht : ∀ u, targetT (bare u) = targetT u := fun u => by simp only [targetT, targetB, bare_d, bare_kids, bk, bt, hasB_bare, zero, List.length_map]
  have hb : ∀ u, blankT (bare u) = blankT u := fun u => by simp only [blankT, bare_d, bt]
  have hta := fun m => all_map ht (ks.take m)
  have htb := fun m => all_map hb (ks.take m)
  have htk : ∀ m, (ks.map bare).take m = (ks.take m).map bare := fun m => by rw [List.map_take]
  have ha := all_map hE ks
  have h0 : (ks.map bare).getD 0 tr0 = bare (ks.getD 0 tr0) := kid_map 0 ks
  simp only [simpleB, letsB, letB, stepB, sendB, doB, kd, bk, bn, hasB_bare, List.length_map, htk, hta, htb, kn_map, h0, hE, ha, bare_d, recvB_bare]
theorem simpleT_bare (u : Tr) : simpleT E (bare u) = simpleT E u := by
  unfold simpleT
  rw [bare_d, bare_kids]; exact simpleB_bare hE _ _
theorem caseT_bare (u : Tr) : caseT E (bare u) = caseT E u := by
  have hta := fun m => all_map hE (u.kids.take m)
  have htk : ∀ m, (u.kids.map bare).take m = (u.kids.take m).map bare := fun m => by rw [List.map_take]
  simp only [caseT, bare_kids, List.length_map, htk, hta]
theorem armT_bare (u : Tr) : armT E (bare u) = armT E u := by
  simp only [armT, armB, bare_kids, List.length_map, kn_map, simpleT_bare hE, bare_d, bk, recvB_bare]
omit hE
include hP
theorem blockT_bare (u : Tr) : blockT P (bare u) = blockT P u := by
  simp only [blockT, blockB, bare_d, bare_kids, bk, hasB_bare, all_map hP]
theorem clausesB_bare {is : Tr → Bool} (hi : ∀ u, is (bare u) = is u) (l : List Tr) : clausesB P is (l.map bare) = clausesB P is l := by
  have hd : ∀ l : List Tr, defs (l.map bare) = defs l := by
    intro l
    unfold defs
    rw [List.filter_map, List.length_map]
    congr 2
    funext t
    show ((bare t).d.n == 1) = _
    rw [bare_d]; rfl
  have each : ∀ c u, clauseB P is c (bare u) = clauseB P is c u := fun c u => by
    simp only [clauseB, okB, bare_d, bare_kids, bn, hasB_bare, List.length_map, kn_map, blockT_bare hP, hi]
  unfold clausesB
  rw [List.length_map]
  congr 1
  funext j
  rw [show (l.map bare).getD j tr0 = bare (kid j l) from kid_map j l, each, show (l.map bare).take j = (l.take j).map bare by rw [List.map_take], hd]
end
theorem stmtB_bare (F : Nat) : ∀ (f : Nat) (t : Tr), stmtB (exprB F) f (bare t) = stmtB (exprB F) f t := by
  intro f
  have hE := exprB_bare F
  induction f with
  | zero => intro t; obtain ⟨d, ks⟩ := t; rw [bare_mk]; rfl
  | succ f ih =>
    rintro ⟨d, ks⟩
    rw [bare_mk]
    have ha := all_map hE ks
    have hp := all_map ih ks
    have h0 : (ks.map bare).getD 0 tr0 = bare (ks.getD 0 tr0) := kid_map 0 ks
    have hb := blockT_bare ih
    have hs := simpleT_bare hE
    have hsb := simpleB_bare hE d ks
    have hta := fun m => all_map hE (ks.take m)
    have htk : ∀ m, (ks.map bare).take m = (ks.take m).map bare := fun m => by rw [List.map_take]
    have hdk : ∀ m, (ks.map bare).drop m = (ks.drop m).map bare := fun m => by rw [List.map_drop]
    have hkt : ∀ m u, kindT m (bare u) = kindT m u := fun m u => by simp only [kindT, bare_d, bk]
    have hkd := fun m => all_map (hkt 14) (ks.drop m)
    have hka := all_map (hkt 16) ks
    have hcl := clausesB_bare ih (armT_bare hE) ks
    have hcd := fun m => clausesB_bare ih (caseT_bare hE) (ks.drop m)
    have hnone : ∀ u, noneT (bare u) = noneT u := fun u => by simp only [noneT, noneB, bare_d, bare_kids, bk, hasB_bare, zero, List.length_map]
    by_cases h5 : d.k = 5
    · have hy := bty (d := d) (by rw [h5]; rfl)
      simp only [stmtB, bk, bt, bn, hy, blockB, varB, ifB, loopB, switchesB, switchB, selectsB, goB, retB, brkB, zero, kd, hasB_bare, List.length_map, ha, hp, h0, hE, ih, hb, hs, hsb, hta, htk, hdk, hkd, hka, hcl, hcd, hnone, kn_map, bare_d]
      try rfl
    · simp only [stmtB, bk, bt, bn, if_neg h5, blockB, ifB, loopB, switchesB, switchB, selectsB, goB, retB, brkB, zero, kd, hasB_bare, List.length_map, ha, hp, h0, hE, ih, hb, hs, hsb, hta, htk, hdk, hkd, hka, hcl, hcd, hnone, kn_map, bare_d]
      try rfl
theorem paramT_bare (u : Tr) : paramT (bare u) = paramT u := by
  unfold paramT paramB
  rw [bare_d, bare_kids, bk]
  by_cases h : u.d.k = 3
  · have hy := bty (d := u.d) (by rw [h]; rfl)
    simp only [hy, bt, hasB_bare, zero, List.length_map]
  · rw [beq_false_of_ne h]; rfl
theorem funT_bare (F : Nat) (t : Tr) : funT F (bare t) = funT F t := by
  unfold funT funcB
  rw [bare_d, bare_kids, bk]
  by_cases h : t.d.k = 2
  · have hy := bty (d := t.d) (by rw [h]; rfl)
    have hb := blockT_bare (stmtB_bare F F)
    have htp := fun m => all_map paramT_bare (t.kids.take m)
    have htk : ∀ m, (t.kids.map bare).take m = (t.kids.take m).map bare := fun m => by rw [List.map_take]
    simp only [hy, bt, hasB_bare, List.length_map, kn_map, hb, htk, htp]
  · rw [beq_false_of_ne h]; rfl
theorem depth_bare : ∀ t : Tr, depth (bare t) = depth t := by
  refine tree_ind fun d ks ih => ?_
  rw [bare_mk]
  simp only [depth]
  congr 1
  induction ks with
  | nil => rfl
  | cons a l il =>
    have h0 := ih 0 (by simp)
    simp only [List.getD_cons_zero] at h0
    have := il fun j hj => by simpa using ih (j + 1) (by simpa using hj)
    simp only [List.map_cons, depths, h0, this]
/-- A bare tree is as right. -/
theorem right_bare (t : Tr) : rightT (bare t) = rightT t := by
  have hd := depth_bare t
  obtain ⟨d, ks⟩ := t
  unfold rightT rightN
  rw [Tba.size_bare]
  rw [bare_mk] at hd ⊢
  simp only [Tr.d, Tr.kids, bk, hasB_bare]
  rw [hd, all_map (funT_bare _) ks]
  rfl
theorem linesX_bare {S : Nat → Tr → Bs} (hS : ∀ k u, S k (bare u) = S k u) (k : Nat) (l : List Tr) : linesX S k (l.map bare) = linesX S k l := by
  have : ∀ m, linesTo S k (l.map bare) m = linesTo S k l m := by
    intro m
    induction m with
    | zero => rfl
    | succ m ih => simp only [linesTo, ih, kid_map, hS]
  unfold linesX
  rw [List.length_map]; exact this _
theorem blockX_bare {S : Nat → Tr → Bs} (hS : ∀ k u, S k (bare u) = S k u) (k : Nat) (u : Tr) : blockX S k (bare u) = blockX S k u := by
  simp only [blockX, bare_kids, linesX_bare hS]
section
variable {X : Tr → Bs} (hX : ∀ u, X (bare u) = X u)
include hX
theorem simpleX_bare (d : Nd) (ks : List Tr) : simpleX X (bareNd d) (ks.map bare) = simpleX X d ks := by
  have hc := fun m => commas_map hX (ks.take m)
  have htk : ∀ m, (ks.map bare).take m = (ks.take m).map bare := fun m => by rw [List.map_take]
  simp only [simpleX, letX, bk, bn, htk, hc, kid_map, hX, bare_d, bt]
  try rfl
theorem simpleTx_bare (u : Tr) : simpleTx X (bare u) = simpleTx X u := by
  unfold simpleTx
  rw [bare_d, bare_kids]; exact simpleX_bare hX _ _
theorem clausesX_bare {S : Nat → Tr → Bs} (hS : ∀ k u, S k (bare u) = S k u) (k : Nat) (l : List Tr) : clausesX X S k (l.map bare) = clausesX X S k l := by
  have each : ∀ u, clauseX X S k (bare u) = clauseX X S k u := by
    intro u
    have hc := fun m => commas_map hX (u.kids.take m)
    have htk : ∀ m, (u.kids.map bare).take m = (u.kids.take m).map bare := fun m => by rw [List.map_take]
    simp only [clauseX, clauseHead, bare_d, bare_kids, bn, bk, List.length_map, htk, hc, kid_map, simpleTx_bare hX, linesX_bare hS]
    try rfl
  have : ∀ m, clausesTo X S k (l.map bare) m = clausesTo X S k l m := by
    intro m
    induction m with
    | zero => rfl
    | succ m ih => simp only [clausesTo, ih, kid_map, each]
  unfold clausesX
  rw [List.length_map, this]
end
theorem stmtT_bare (F : Nat) : ∀ (f k : Nat) (t : Tr), stmtT (exprT F) f k (bare t) = stmtT (exprT F) f k t := by
  intro f
  have hX := exprT_bare F
  induction f with
  | zero => intro k t; obtain ⟨d, ks⟩ := t; rw [bare_mk]; rfl
  | succ f ih =>
    rintro k ⟨d, ks⟩
    rw [bare_mk]
    have hb := blockX_bare ih
    have hb4 : blockX (stmtT (exprT F) f) k (.mk (bareNd d) (ks.map bare)) = blockX (stmtT (exprT F) f) k (.mk d ks) := by
      have := hb k (.mk d ks)
      rwa [bare_mk] at this
    have hs := simpleTx_bare hX
    have hsx := simpleX_bare hX d ks
    have hdk : ∀ m, (ks.map bare).drop m = (ks.drop m).map bare := fun m => by rw [List.map_drop]
    have hcl := clausesX_bare hX ih k ks
    have hcd := fun m => clausesX_bare hX ih k (ks.drop m)
    by_cases h5 : d.k = 5
    · have hy := bty (d := d) (by rw [h5]; rfl)
      simp only [stmtT, bk, bt, bn, hy, varX, ifX, forX, headX, head1, head2, head3, switchX, selectX, goX, retX, List.length_map, hb4, kid_map, hX, ih, hb, hs, hsx, hdk, hcl, hcd, bare_d]
      try rfl
    · simp only [stmtT, bk, bt, bn, if_neg h5, ifX, forX, headX, head1, head2, head3, switchX, selectX, goX, retX, List.length_map, hb4, kid_map, hX, ih, hb, hs, hsx, hdk, hcl, hcd, bare_d]
      try rfl
/-- A right file's function, bare, is written alike. -/
theorem funX_bare (F : Nat) (t : Tr) (h : funT F t = true) : funX (exprT F) (stmtT (exprT F) F) (bare t) = funX (exprT F) (stmtT (exprT F) F) t := by
  have hk : t.d.k = 2 := by
    unfold funT funcB at h
    simp only [Bool.and_eq_true, beq_iff_eq] at h
    exact h.1
  have hall : (t.kids.take (t.kids.length - 1)).all paramT = true := by
    unfold funT funcB at h
    simp only [Bool.and_eq_true] at h
    exact h.2.2.2.2.2.2
  have hy := bty (d := t.d) (by rw [hk]; rfl)
  have htk : ∀ m, (t.kids.map bare).take m = (t.kids.take m).map bare := fun m => by rw [List.map_take]
  have hc : ∀ l : List Tr, l.all paramT = true → commas paramX (l.map bare) = commas paramX l := by
    intro l hl
    have : ∀ m, m ≤ l.length → comma paramX (l.map bare) m = comma paramX l m := by
      intro m
      induction m with
      | zero => intro _; rfl
      | succ m ih =>
        intro hm
        have hp := all_kid hl (j := m) (by omega)
        have h3 : (kid m l).d.k = 3 := by
          unfold paramT paramB at hp
          simp only [Bool.and_eq_true, beq_iff_eq] at hp
          exact hp.1
        have hpx : paramX (bare (kid m l)) = paramX (kid m l) := by
          unfold paramX
          rw [bare_d, bt, bty (by rw [h3]; rfl)]
        simp only [comma, ih (by omega)]
        rw [show (l.map bare).getD m tr0 = bare (kid m l) from kid_map m l, hpx]
    unfold commas
    rw [List.length_map]; exact this _ (Nat.le_refl _)
  have hb := blockX_bare (stmtT_bare F F)
  simp only [funX, bare_d, bare_kids, bt, hy, List.length_map, htk, hc _ hall, kid_map, hb]
/-- A right file, bare, is written alike. -/
theorem text_bare (t : Tr) (h : rightT t = 0) : textT (bare t) = textT t := by
  have hfun := right_zero h
  unfold textT
  rw [Tba.size_bare, bare_kids, List.length_map]
  have : ∀ m, m ≤ t.kids.length → funsTo (exprT (size t)) (stmtT (exprT (size t)) (size t)) (t.kids.map bare) m = funsTo (exprT (size t)) (stmtT (exprT (size t)) (size t)) t.kids m := by
    intro m
    induction m with
    | zero => intro _; rfl
    | succ m ih =>
      intro hm
      simp only [funsTo, ih (by omega), kid_map]
      rw [funX_bare _ _ (hfun m (by omega))]
  exact this _ (Nat.le_refl _)
end Go.Proofs.YtgodeffkboihlaaGreatDoor.Tbr

/- tree.Text, Count, Depth of any tree and any bound; sameness of bare trees. -/
set_option linter.unusedVariables false
namespace Go.Proofs.YtgodeffkboihlaaGreatDoor.Tbx
set_option linter.unusedSimpArgs false
open Go.RowKit Tra Trb Trf Trd Tcn Trh Txa Tpt Twb Twd Twn Tqh Twp Tbr

theorem text_any (t : Tr) (hF : Fit t) (hz : size t ≤ 65536) (S : Nat → Prop) (v : Value) (w : World) (hP : Twq.Pow w) (hv : Lies w S t v) :
    Calls Tryz.prog 11 #[v] w fun e w' => e = .returned (.tuple #[.string (textS t), .int .i64 (rightT t)]) ∧ Below w.heap.size w w' := by
  by_cases hr : rightT t = 0
  · have e : textS t = ⟨(textT t).toArray⟩ := by unfold textS; rw [if_pos hr]
    rw [e, hr]
    exact text_yes t hF (by omega) hr (text_most t hF (by omega) hr) S v w hP hv
  · have e : textS t = ⟨#[]⟩ := by unfold textS; rw [if_neg hr]
    rw [e]
    exact text_no t hF hr S v w hv
theorem textS_bare (t : Tr) : textS (bare t) = textS t := by
  unfold textS
  rw [right_bare]
  by_cases hr : rightT t = 0
  · rw [if_pos hr, if_pos hr, text_bare t hr]
  · rw [if_neg hr, if_neg hr]
/-- What Count tells. -/
def cntV (most : Int) (t : Tr) : Int := if most ≤ 0 then 1 else (min (size t) (most.toNat + 1) : Nat)
def depV (most : Int) (t : Tr) : Int := if most ≤ 0 then 1 else (min (depth t) (most.toNat + 1) : Nat)
theorem count_int (most : Int) (h1 : most ≤ 9223372036854775807) (t : Tr) (hF : Fit t) (hz : size t ≤ 1048577) (S : Nat → Prop) (v : Value) (w : World) (hv : Lies w S t v) :
    Calls Tryz.prog 12 #[v, .int .i64 most] w fun e w' => e = .returned (.int .i64 (cntV most t)) ∧ Below w.heap.size w w' := by
  unfold cntV
  by_cases h : most ≤ 0
  · rw [if_pos h]; exact count_low most h v t S w hv
  · rw [if_neg h]
    have := count_nat t most.toNat v S w hv hF (by omega) (by omega)
    rwa [show ((most.toNat : Nat) : Int) = most by omega] at this
theorem depth_int (most : Int) (h1 : most ≤ 9223372036854775807) (t : Tr) (hF : Fit t) (hz : size t ≤ 1048577) (S : Nat → Prop) (v : Value) (w : World) (hv : Lies w S t v) :
    Calls Tryz.prog 13 #[v, .int .i64 most] w fun e w' => e = .returned (.int .i64 (depV most t)) ∧ Below w.heap.size w w' := by
  unfold depV
  by_cases h : most ≤ 0
  · rw [if_pos h]; exact depth_low most h v t S w hv
  · rw [if_neg h]
    have := depth_any t most.toNat v S w hv hF (by omega) (by have := depths_le_sizes t; omega)
    rwa [show ((most.toNat : Nat) : Int) = most by omega] at this
theorem cntV_bare (most : Int) (t : Tr) : cntV most (bare t) = cntV most t := by unfold cntV; rw [Tba.size_bare]
theorem depV_bare (most : Int) (t : Tr) : depV most (bare t) = depV most t := by unfold depV; rw [depth_bare]
theorem same_both : ∀ t u : Tr, same (bare t) (bare u) = same t u := by
  refine tree_ind fun d ks ih => ?_
  rintro ⟨d', ls⟩
  rw [bare_mk, bare_mk]
  simp only [same, sameNd_bare]
  congr 1
  induction ks generalizing ls with
  | nil => cases ls <;> rfl
  | cons a l il =>
    cases ls with
    | nil => rfl
    | cons b m =>
      have h0 := ih 0 (by simp) b
      simp only [List.getD_cons_zero] at h0
      have := il (fun j hj => by simpa using ih (j + 1) (by simpa using hj)) m
      simp only [List.map_cons, sames, h0, this]
theorem same_comm : ∀ t u : Tr, same t u = same u t := by
  refine tree_ind fun d ks ih => ?_
  rintro ⟨d', ls⟩
  simp only [same, sameNd_comm d d']
  congr 1
  induction ks generalizing ls with
  | nil => cases ls <;> rfl
  | cons a l il =>
    cases ls with
    | nil => rfl
    | cons b m =>
      have h0 := ih 0 (by simp) b
      simp only [List.getD_cons_zero] at h0
      have := il (fun j hj => by simpa using ih (j + 1) (by simpa using hj)) m
      simp only [sames, h0, this]
theorem same_bare : ∀ t : Tr, same t (bare t) = true := by
  refine tree_ind fun d ks ih => ?_
  rw [bare_mk]
  have h1 : sameNd d (bareNd d) = true := by
    unfold sameNd bareNd
    cases h : marks d.k <;> simp [h]
  simp only [same, h1, Bool.true_and]
  induction ks with
  | nil => rfl
  | cons a l il =>
    have h0 := ih 0 (by simp)
    simp only [List.getD_cons_zero] at h0
    have := il (fun j hj => by simpa using ih (j + 1) (by simpa using hj))
    simp only [List.map_cons, sames, h0, this, Bool.and_self]
end Go.Proofs.YtgodeffkboihlaaGreatDoor.Tbx
