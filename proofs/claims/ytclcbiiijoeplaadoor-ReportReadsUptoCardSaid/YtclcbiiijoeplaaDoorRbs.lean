/- Rows of who is blocked: as the source of an append; the bound on all. -/
import Derived.Test.YtclcbiiijoeplaaDoorRrd
import Derived.Test.YtclcbiiijoeplaaDoorAps
set_option linter.unusedVariables false
namespace Go.Proofs.YtclcbiiijoeplaaDoor.Rbs
open Go.RowKit Rpl Rmy Rwo Rbk Rpt

/-- What is known of an argument's size. -/
structure FitsB (l : List Bk) : Prop where
  fits : Fits l
  sum : (l.map fun b => b.fn.size + 5).sum ≤ 1048576
theorem text_len : ∀ (l : List Bk), l.all may = true → (l.flatMap lineE).length + l.length ≤ 92 * (l.map fun b => b.fn.size + 5).sum
  | [], _ => by simp
  | x :: l, h => by
    simp only [List.all_cons, Bool.and_eq_true] at h
    have ih := text_len l h.2
    have h1 := lineL_size h.1
    have e : (lineE x).length = (lineL x).size + 1 := by unfold lineE; rw [List.length_append, list_size]; rfl
    rw [List.flatMap_cons, List.length_append, List.length_cons, List.map_cons, List.sum_cons, e]
    omega
theorem text_small : ∀ (l : List Bk), l.all may = true → (l.flatMap lineE).length ≤ (l.map fun b => b.fn.size + 5).sum + 86 * l.length
  | [], _ => by simp
  | x :: l, h => by
    simp only [List.all_cons, Bool.and_eq_true] at h
    have ih := text_small l h.2
    have h1 := lineL_size h.1
    have e : (lineE x).length = (lineL x).size + 1 := by unfold lineE; rw [List.length_append, list_size]; rfl
    rw [List.flatMap_cons, List.length_append, List.length_cons, List.map_cons, List.sum_cons, e]
    omega
theorem five_len : ∀ (l : List Bk), 5 * l.length ≤ (l.map fun b => b.fn.size + 5).sum
  | [] => by simp
  | x :: l => by
    have := five_len l
    rw [List.length_cons, List.map_cons, List.sum_cons]; omega
theorem text_bound {l : List Bk} (h : FitsB l) (hm : l.all may = true) : (l.flatMap lineE).length ≤ 33554432 := by
  have h1 := text_small l hm
  have h2 := five_len l
  have h3 := h.sum
  omega
theorem src {w : World} {v : Value} {l : List Bk} (h : Lies w v l) : Src Tryd.prog 4 22 v l.length (l.flatMap bkE.f) w := by
  rcases h with ⟨rfl, x, c, rfl⟩ | ⟨b, o, c, rfl, _, hl⟩
  · cases x with
    | none => exact Src.ofNil w Tryd.underlying22 c
    | some a => exact Src.ofSlice w Tryd.underlying22 a 0 c [] rfl (fun j u hu => by simp at hu) (fun u hu => by cases hu)
  · refine Src.ofSlice w Tryd.underlying22 ⟨b, o, none⟩ l.length c _ (flat_length bkE l) (fun j u hu => ?_) (flat_one bkE l)
    have hj : j < l.length * 4 := by
      have := (List.getElem?_eq_some_iff.1 hu).1
      rw [flat_length] at this; exact this
    obtain ⟨c0, c1, c2, c3⟩ := hl (j / 4) (by omega)
    have hat : ∀ i, i < 4 → (l.flatMap bkE.f)[j / 4 * 4 + i]? = (bkE.f (l.getD (j / 4) bk0))[i]? := fun i hi => flat_at bkE l (j / 4) i (by omega) hi
    rw [Addr.add_lit]
    have hm : j % 4 = 0 ∨ j % 4 = 1 ∨ j % 4 = 2 ∨ j % 4 = 3 := by omega
    rcases hm with h5 | h5 | h5 | h5
    · have e : j = j / 4 * 4 + 0 := by omega
      have h6 := hat 0 (by omega)
      rw [e] at hu; rw [h6] at hu
      rw [e]; simp only [Nat.add_zero] at *; rw [c0]; exact hu
    · have e : j = j / 4 * 4 + 1 := by omega
      have h6 := hat 1 (by omega)
      rw [e] at hu; rw [h6] at hu
      rw [e, ← Nat.add_assoc, c1]; exact hu
    · have e : j = j / 4 * 4 + 2 := by omega
      have h6 := hat 2 (by omega)
      rw [e] at hu; rw [h6] at hu
      rw [e, ← Nat.add_assoc, c2]; exact hu
    · have e : j = j / 4 * 4 + 3 := by omega
      have h6 := hat 3 (by omega)
      rw [e] at hu; rw [h6] at hu
      rw [e, ← Nat.add_assoc, c3]; exact hu
end Go.Proofs.YtclcbiiijoeplaaDoor.Rbs
