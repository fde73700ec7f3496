/- Numbers in the one form: the plain side. -/
import Derived.Test.YtclcbiiijoeplaaDoorRpp
import Derived.Test.YtclcbiiijoeplaaDoorRpt
set_option linter.unusedVariables false
namespace Go.Proofs.YtclcbiiijoeplaaDoor.Rnp
open Go.RowKit Rpl Rwd Rmy Rln Rfd Rnb Rpp Rpt

theorem snoc_ind {α : Type} {P : List α → Prop} (h0 : P []) (h1 : ∀ l c, P l → P (l ++ [c])) : ∀ l, P l := by
  intro l
  rw [← List.reverse_reverse l]
  induction l.reverse with
  | nil => exact h0
  | cons c r ih => rw [List.reverse_cons]; exact h1 _ _ ih
theorem head_app {α : Type} {l m : List α} (h : l ≠ []) : (l ++ m).head? = l.head? := by
  cases l with
  | nil => exact absurd rfl h
  | cons => rfl
theorem dec_zero : Lib.decDigits 0 = [48] := by rw [Lib.decDigits_one (by omega)]; rfl
theorem dec_head : ∀ (n : Nat), (Lib.decDigits n).head? = some 48 → n = 0 := by
  intro n
  induction n using Nat.strongRecOn with
  | _ n ih =>
    intro h
    by_cases h1 : n < 10
    · rw [Lib.decDigits_one h1] at h
      simp only [List.head?_cons, Option.some.injEq] at h
      have := congrArg UInt8.toNat h
      rw [UInt8.toNat_ofNat'] at this
      have e : (48 : UInt8).toNat = 48 := rfl
      rw [e] at this; omega
    · rw [Rdg.dec_step h1] at h
      have hne : Lib.decDigits (n / 10) ≠ [] := by
        intro e
        by_cases h2 : n / 10 < 10
        · rw [Lib.decDigits_one h2] at e; cases e
        · rw [Rdg.dec_step h2] at e; simp at e
      rw [head_app hne] at h
      have := ih (n / 10) (by omega) h
      omega
theorem dec_ne (n : Nat) : Lib.decDigits n ≠ [] := by
  intro e
  by_cases h2 : n < 10
  · rw [Lib.decDigits_one h2] at e; cases e
  · rw [Rdg.dec_step h2] at e; simp at e
/-- In the one form. -/
def Canon (l : List UInt8) : Prop := l ≠ [] ∧ digs l ∧ (l.head? = some 48 → l = [48])
theorem canon_dec (n : Nat) : Canon (Lib.decDigits n) := ⟨dec_ne n, digs_dec n, fun h => by rw [dec_head n h, dec_zero]⟩
theorem val_pos : ∀ {l : List UInt8}, digs l → l ≠ [] → l.head? ≠ some 48 → 1 ≤ val l := by
  intro l
  refine snoc_ind (P := fun l => digs l → l ≠ [] → l.head? ≠ some 48 → 1 ≤ val l) ?_ ?_ l
  · intro _ h _; exact absurd rfl h
  · intro l c ih h1 h2 h3
    rw [val_snoc]
    by_cases hl : l = []
    · subst hl
      have := h1 c (by simp)
      have h4 : c ≠ 48 := fun e => h3 (by rw [e]; rfl)
      have h5 : c.toNat ≠ 48 := fun e => h4 (UInt8.toNat_inj.1 e)
      simp [val]; omega
    · have := ih (fun x hx => h1 x (by simp [hx])) hl (by rw [head_app hl] at h3; exact h3)
      omega
theorem dec_val : ∀ {l : List UInt8}, Canon l → Lib.decDigits (val l) = l := by
  intro l
  refine snoc_ind (P := fun l => Canon l → Lib.decDigits (val l) = l) ?_ ?_ l
  · intro h; exact absurd rfl h.1
  · intro l c ih ⟨h1, h2, h3⟩
    have hc := h2 c (by simp)
    rw [val_snoc]
    by_cases hl : l = []
    · subst hl
      simp only [val, List.foldl_nil, List.nil_append]
      rw [Lib.decDigits_one (by omega)]
      congr 1
      apply UInt8.toNat_inj.1
      rw [UInt8.toNat_ofNat']; omega
    · have h4 : l.head? ≠ some 48 := by
        intro e
        have := h3 (by rw [head_app hl]; exact e)
        have := congrArg List.length this
        simp at this; exact hl this
      have h5 : digs l := fun x hx => h2 x (by simp [hx])
      have h6 := val_pos h5 hl h4
      rw [Rdg.dec_step (by omega), show (10 * val l + (c.toNat - 48)) / 10 = val l by omega, ih ⟨hl, h5, fun e => absurd e h4⟩]
      congr 2
      apply UInt8.toNat_inj.1
      rw [UInt8.toNat_ofNat']; omega
theorem val_mono : ∀ (m l : List UInt8), val l ≤ val (l ++ m) := by
  intro m
  refine snoc_ind (P := fun m => ∀ l, val l ≤ val (l ++ m)) ?_ ?_ m
  · intro l; simp
  · intro m c ih l
    have := ih l
    rw [← List.append_assoc, val_snoc]; omega
/-- What report.number tells: n is the number from low on that s is, if ok. -/
def Num (s : ByteArray) (low n : Int) (ok : Bool) : Prop := match ok with
  | true => s = dec n ∧ low ≤ n ∧ n ≤ 2147483647
  | false => ∀ m : Int, low ≤ m → m ≤ 2147483647 → s ≠ dec m
theorem num_no {s : ByteArray} {low n : Int} (h0 : 0 ≤ low) (h : ∀ m : Nat, m ≤ 2147483647 → s.data.toList ≠ Lib.decDigits m) : Num s low n false := by
  intro m h1 h2 e
  refine h m.toNat (by omega) ?_
  rw [e]; rfl
theorem num_empty {s : ByteArray} {low n : Int} (h0 : 0 ≤ low) (h : s.size < 1) : Num s low n false :=
  num_no h0 fun m _ e => dec_ne m (by rw [← e]; exact List.length_eq_zero_iff.1 (by rw [list_size]; omega))
theorem num_zero {s : ByteArray} {low n : Int} (h0 : 0 ≤ low) (h : s.data.toList.head? = some 48) (h2 : s.data.toList ≠ [48]) : Num s low n false :=
  num_no h0 fun m _ e => h2 (by rw [e] at h ⊢; rw [dec_head m h, dec_zero])
theorem num_odd {s : ByteArray} {low n : Int} {k : Nat} (h0 : 0 ≤ low) (hk : k < s.data.toList.length) (h : ¬ (48 ≤ (s.data.toList[k]).toNat ∧ (s.data.toList[k]).toNat ≤ 57)) : Num s low n false :=
  num_no h0 fun m _ e => h (by
    have := digs_dec m
    rw [← e] at this
    exact this _ (List.getElem_mem hk))
theorem num_big {s : ByteArray} {low n : Int} {k : Nat} (h0 : 0 ≤ low) (hk : k < s.data.toList.length) (h : 214748364 < val (s.data.toList.take k)) : Num s low n false :=
  num_no h0 fun m hm e => by
    have h1 : val s.data.toList = m := by rw [e, val_dec]
    have h2 := val_mono (s.data.toList.drop (k + 1)) (s.data.toList.take (k + 1))
    rw [List.take_append_drop] at h2
    rw [List.take_succ_eq_append_getElem hk, val_snoc] at h2
    omega
theorem num_end {s : ByteArray} {low : Int} (h0 : 0 ≤ low) (hne : s.data.toList ≠ []) (hd : digs s.data.toList) (hz : s.data.toList.head? = some 48 → s.data.toList = [48]) :
    Num s low (val s.data.toList) (decide (low ≤ (val s.data.toList : Int)) && decide ((val s.data.toList : Int) ≤ 2147483647)) := by
  cases h : (decide (low ≤ (val s.data.toList : Int)) && decide ((val s.data.toList : Int) ≤ 2147483647)) with
  | true =>
    simp only [Bool.and_eq_true, decide_eq_true_eq] at h
    refine ⟨ba_ext ?_, h.1, h.2⟩
    show _ = Lib.decDigits (val s.data.toList : Int).toNat
    rw [Int.toNat_natCast, dec_val ⟨hne, hd, hz⟩]
  | false =>
    intro m h1 h2 e
    have h3 : s.data.toList = Lib.decDigits m.toNat := by rw [e]; rfl
    have h4 : val s.data.toList = m.toNat := by rw [h3, val_dec]
    rw [h4] at h
    have h5 : ((m.toNat : Nat) : Int) = m := Int.toNat_of_nonneg (by omega)
    rw [h5] at h
    simp [h1, h2] at h
end Go.Proofs.YtclcbiiijoeplaaDoor.Rnp
