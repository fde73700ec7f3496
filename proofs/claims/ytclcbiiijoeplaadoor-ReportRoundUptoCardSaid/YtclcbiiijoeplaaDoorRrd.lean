/- Reading lines: the plain side. -/
import Derived.Test.YtclcbiiijoeplaaDoorRpt
import Derived.Lib.IndexLaws
import Derived.Lib.IndexBytes
import Derived.Lib.IndexMore
set_option linter.unusedVariables false
namespace Go.Proofs.YtclcbiiijoeplaaDoor.Rrd
open Go.RowKit Rpl Rwd Rmy Rln Rpp Rpq Rwo Rbk Rpt

open Classical in
/-- Whose line a text is. -/
noncomputable def whoseOf (s : ByteArray) : Option Bk := if h : ∃ b, may b = true ∧ lineL b = s then some h.choose else none
theorem whoseOf_is (s : ByteArray) : Whose s (whoseOf s) := by
  unfold whoseOf
  split
  · rename_i h; exact h.choose_spec
  · rename_i h; intro b hb e; exact h ⟨b, hb, e⟩
theorem whose_eq {s : ByteArray} {o : Option Bk} (h : Whose s o) : whoseOf s = o := whose_one (whoseOf_is s) h
/-- Up to the first end of a line, and behind it. -/
def cutL : List UInt8 → Option (List UInt8 × List UInt8)
  | [] => none
  | c :: r => if c = 10 then some ([], r) else (cutL r).map fun p => (c :: p.1, p.2)
theorem cutL_some : ∀ {s a b : List UInt8}, cutL s = some (a, b) → s = a ++ 10 :: b ∧ (10 : UInt8) ∉ a
  | [], a, b, h => by simp [cutL] at h
  | c :: r, a, b, h => by
    unfold cutL at h
    split at h
    · rename_i hc
      simp only [Option.some.injEq, Prod.mk.injEq] at h
      obtain ⟨rfl, rfl⟩ := h
      exact ⟨by rw [hc]; rfl, by simp⟩
    · rename_i hc
      obtain ⟨⟨p, q⟩, hp, hq⟩ := Option.map_eq_some_iff.1 h
      simp only [Prod.mk.injEq] at hq
      obtain ⟨rfl, rfl⟩ := hq
      obtain ⟨h1, h2⟩ := cutL_some hp
      exact ⟨by rw [h1]; rfl, by simp [h2, Ne.symm hc]⟩
theorem cutL_at : ∀ {a b : List UInt8}, (10 : UInt8) ∉ a → cutL (a ++ 10 :: b) = some (a, b)
  | [], b, _ => by simp [cutL]
  | c :: a, b, h => by
    simp only [List.mem_cons, not_or] at h
    rw [List.cons_append, cutL, if_neg (Ne.symm h.1), cutL_at h.2]; rfl
theorem cutL_none : ∀ {a : List UInt8}, (10 : UInt8) ∉ a → cutL a = none
  | [], _ => rfl
  | c :: a, h => by
    simp only [List.mem_cons, not_or] at h
    rw [cutL, if_neg (Ne.symm h.1), cutL_none h.2]; rfl
theorem cutL_none' : ∀ {a : List UInt8}, cutL a = none → (10 : UInt8) ∉ a
  | [], _ => by simp
  | c :: a, h => by
    unfold cutL at h
    split at h
    · cases h
    · rename_i hc
      have := cutL_none' (Option.map_eq_none_iff.1 h)
      simp [this, Ne.symm hc]
/-- The rows read, or the number of the line that is none. -/
inductive Red where
  | rows (l : List Bk)
  | line (k : Nat)
def Red.app (out : List Bk) : Red → Red
  | .rows l => .rows (out ++ l)
  | .line k => .line (out.length + k)
theorem Red.app_app (a b : List Bk) (r : Red) : (r.app b).app a = r.app (a ++ b) := by
  cases r <;> simp [Red.app, Nat.add_assoc]
noncomputable def redOf (s : List UInt8) : Red :=
  if s = [] then .rows [] else
  match h : cutL s with
  | none => .line 1
  | some (a, b) => match whoseOf ⟨a.toArray⟩ with
    | none => .line 1
    | some x => (redOf b).app [x]
termination_by s.length
decreasing_by
  have := (cutL_some h).1
  rw [this]; simp; omega
theorem redOf_nil : redOf [] = .rows [] := by rw [redOf, if_pos rfl]
theorem redOf_none {s : List UInt8} (h0 : s ≠ []) (h : cutL s = none) : redOf s = .line 1 := by
  rw [redOf, if_neg h0]
  split
  · rfl
  · rename_i a b e; rw [h] at e; cases e
theorem redOf_bad {s a b : List UInt8} (h : cutL s = some (a, b)) (hw : whoseOf ⟨a.toArray⟩ = none) : redOf s = .line 1 := by
  have h0 : s ≠ [] := by intro e; rw [e] at h; cases h
  rw [redOf, if_neg h0]
  split
  · rfl
  · rename_i a' b' e
    rw [h] at e
    simp only [Option.some.injEq, Prod.mk.injEq] at e
    obtain ⟨rfl, rfl⟩ := e
    rw [hw]
theorem redOf_one {s a b : List UInt8} {x : Bk} (h : cutL s = some (a, b)) (hw : whoseOf ⟨a.toArray⟩ = some x) : redOf s = (redOf b).app [x] := by
  have h0 : s ≠ [] := by intro e; rw [e] at h; cases h
  rw [redOf, if_neg h0]
  split
  · rename_i e; rw [h] at e; cases e
  · rename_i a' b' e
    rw [h] at e
    simp only [Option.some.injEq, Prod.mk.injEq] at e
    obtain ⟨rfl, rfl⟩ := e
    rw [hw]
/-- What the rows of a text are: all may be, and they are its lines. -/
theorem redOf_rows : ∀ {n : Nat} {s : List UInt8} {l : List Bk}, s.length ≤ n → redOf s = .rows l → s = l.flatMap lineE ∧ l.all may = true
  | n, [], l, _, h => by rw [redOf_nil] at h; cases h; exact ⟨rfl, rfl⟩
  | 0, c :: s, l, hn, h => by simp at hn
  | n + 1, c :: s, l, hn, h => by
    cases hc : cutL (c :: s) with
    | none => rw [redOf_none (by simp) hc] at h; cases h
    | some p =>
      obtain ⟨a, b⟩ := p
      obtain ⟨h1, h2⟩ := cutL_some hc
      cases hw : whoseOf ⟨a.toArray⟩ with
      | none => rw [redOf_bad hc hw] at h; cases h
      | some x =>
        rw [redOf_one hc hw] at h
        cases hr : redOf b with
        | line k => rw [hr] at h; cases h
        | rows m =>
          rw [hr] at h
          cases h
          have hlen : b.length ≤ n := by
            have := congrArg List.length h1
            simp at this hn; omega
          obtain ⟨h3, h4⟩ := redOf_rows hlen hr
          have hx := whoseOf_is ⟨a.toArray⟩
          rw [hw] at hx
          refine ⟨?_, by simp [hx.1, h4]⟩
          show _ = lineE x ++ m.flatMap lineE
          rw [← h3, h1, lineE, hx.2]
          simp
theorem line_free {b : Bk} (h : may b = true) : (10 : UInt8) ∉ (lineL b).data.toList := by
  obtain ⟨h1, h2, h3, h4, h5, h6⟩ := may_in h
  have hf : flat b.fn.data.toList = true := (Bool.and_eq_true_iff.1 h).1
  rw [line_parts]
  have d1 : ∀ n : Int, (10 : UInt8) ∉ (dec n).data.toList := fun n hm => by
    have := digit_mem n.toNat 10 hm
    exact absurd this.1 (by decide)
  have d2 : (10 : UInt8) ∉ b.fn.data.toList := fun hm => by
    have := List.all_eq_true.1 hf 10 hm
    exact absurd this (by decide)
  have d3 : (10 : UInt8) ∉ (wd b.on).data.toList := by
    rcases on_cases h5 h6 with e | e | e | e | e | e | e | e <;> rw [e] <;> decide
  have d4 : (10 : UInt8) ∉ gor := by decide
  have d5 : (10 : UInt8) ∉ lin := by decide
  unfold parts
  simp only [List.mem_append, List.mem_cons, not_or]
  refine ⟨d4, by decide, d1 _, by decide, d5, by decide, d1 _, by decide, d3, by decide, d2⟩
/-- There and back. -/
theorem redOf_text : ∀ {l : List Bk}, l.all may = true → redOf (l.flatMap lineE) = .rows l
  | [], _ => redOf_nil
  | x :: l, h => by
    simp only [List.all_cons, Bool.and_eq_true] at h
    have e : (x :: l).flatMap lineE = (lineL x).data.toList ++ 10 :: l.flatMap lineE := by simp [lineE]
    have hw : whoseOf ⟨(lineL x).data.toList.toArray⟩ = some x := whose_eq ⟨h.1, by simp⟩
    rw [e, redOf_one (cutL_at (line_free h.1)) hw, redOf_text h.2]
    rfl
/-- The rows are short where the text is. -/
theorem rows_fit {s : List UInt8} {l : List Bk} (h : redOf s = .rows l) (hs : s.length ≤ 1048576) : Fits l := by
  obtain ⟨h1, h2⟩ := redOf_rows (Nat.le_refl _) h
  have one : ∀ (l : List Bk), l.length ≤ (l.flatMap lineE).length ∧ ∀ b ∈ l, b.fn.size ≤ (l.flatMap lineE).length := by
    intro l
    induction l with
    | nil => simp
    | cons x l ih =>
      have e : ((x :: l).flatMap lineE).length = (lineE x).length + (l.flatMap lineE).length := by simp
      have e2 : x.fn.size + 1 ≤ (lineE x).length := by
        have h1 : (lineL x).data.toList.length = (lineL x).size := list_size _
        have h2 : x.fn.size ≤ (lineL x).size := by unfold lineL; simp only [ba_size]; omega
        unfold lineE; rw [List.length_append, h1]; simp; omega
      refine ⟨by rw [e, List.length_cons]; omega, fun b hb => ?_⟩
      rcases List.mem_cons.1 hb with rfl | hb
      · omega
      · have := ih.2 b hb; omega
  obtain ⟨o1, o2⟩ := one l
  rw [← h1] at o1 o2
  refine ⟨by omega, fun j hj => ?_⟩
  have e : l.getD j bk0 = l[j] := by simp [List.getD_eq_getElem?_getD, hj]
  rw [e]
  have := o2 _ (List.getElem_mem hj)
  omega
theorem red_small {s : List UInt8} : match redOf s with | .rows l => l.length ≤ s.length | .line k => 1 ≤ k ∧ k ≤ s.length + 1 := by
  have go : ∀ (n : Nat) (s : List UInt8), s.length ≤ n → match redOf s with | .rows l => l.length ≤ s.length | .line k => 1 ≤ k ∧ k ≤ s.length + 1 := by
    intro n
    induction n with
    | zero => intro s hs; have : s = [] := List.length_eq_zero_iff.1 (by omega); subst this; rw [redOf_nil]; simp
    | succ n ih =>
      intro s hs
      by_cases h0 : s = []
      · subst h0; rw [redOf_nil]; simp
      · cases hc : cutL s with
        | none => rw [redOf_none h0 hc]; simp
        | some p =>
          obtain ⟨a, b⟩ := p
          have h1 := (cutL_some hc).1
          have hl : s.length = a.length + 1 + b.length := by rw [h1]; simp; omega
          cases hw : whoseOf ⟨a.toArray⟩ with
          | none => rw [redOf_bad hc hw]; simp
          | some x =>
            rw [redOf_one hc hw]
            have := ih b (by omega)
            cases hr : redOf b with
            | rows m => rw [hr] at this; simp only [Red.app, List.length_append, List.length_singleton] at this ⊢; omega
            | line k => rw [hr] at this; simp only [Red.app, List.length_singleton] at this ⊢; omega
  exact go _ s (Nat.le_refl _)
end Go.Proofs.YtclcbiiijoeplaaDoor.Rrd
