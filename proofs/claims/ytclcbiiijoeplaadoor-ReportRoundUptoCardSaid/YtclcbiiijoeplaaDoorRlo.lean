/- Lockers by numbers: the plain side. -/
import Derived.Test.YtclcbiiijoeplaaDoorRpr
import Derived.Test.YtclcbiiijoeplaaDoorRrg
set_option linter.unusedVariables false
namespace Go.Proofs.YtclcbiiijoeplaaDoor.Rlo
open Rcy Rsl Rrg

/-- To whom one waits. -/
def tz (to : List Int) (n i : Nat) : Option Nat := if 0 ≤ to.getD i 0 then some (to.getD i 0 % n).toNat else none
def hs (to : List Int) (n i : Nat) : Int := if 0 ≤ to.getD i 0 then to.getD i 0 % n + 1 else 0
def hg (to : List Int) (i : Nat) : Int := if 0 ≤ to.getD i 0 then 1 else 0
def el (to : List Int) (n i : Nat) : As := ⟨(i : Int) + 1, 1, (i : Int) + 1, 7, none, 0, 0, hs to n i, hg to i⟩
def lof (to : List Int) (n k : Nat) : List As := (List.range k).map (el to n)
theorem lof_length (to : List Int) (n k : Nat) : (lof to n k).length = k := by simp [lof]
theorem lof_succ (to : List Int) (n k : Nat) : lof to n (k + 1) = lof to n k ++ [el to n k] := by simp [lof, List.range_succ]
theorem lof_get {to : List Int} {n k j : Nat} (h : j < k) : (lof to n k).getD j as0 = el to n j := by simp [lof, List.getD_eq_getElem?_getD, h]
theorem first_lof {to : List Int} {n k b : Nat} (h : b < k) : firstOf (lof to n k) ((b : Int) + 1) 1 = some b := by
  refine first_some (by rw [lof_length]; exact h) ?_ fun j hj => ?_
  · rw [lof_get h]; simp [isW, el]
  · rw [lof_get (by omega)]
    simp only [isW, el, Bool.and_eq_false_iff, beq_eq_false_iff_ne]
    exact .inl (by omega)
theorem tz_lt {to : List Int} {n i b : Nat} (hn : 0 < n) (h : tz to n i = some b) : b < n := by
  unfold tz at h
  split at h
  · simp only [Option.some.injEq] at h
    have h1 := Int.emod_lt_of_pos (to.getD i 0) (show (0 : Int) < n by omega)
    have h2 := Int.emod_nonneg (to.getD i 0) (show (n : Int) ≠ 0 by omega)
    omega
  · cases h
theorem leads_lof {to : List Int} {n i : Nat} (hi : i < n) : leadsF (lof to n n) i = tz to n i := by
  rw [leads_at (by rw [lof_length]; exact hi) (lof_get hi)]
  show (if (7 : Int) = 7 ∧ ¬ (hs to n i = 0 ∧ hg to i = 0) ∧ firstOf (lof to n n) ((i : Int) + 1) 1 = some i then firstOf (lof to n n) (hs to n i) (hg to i) else none) = _
  rw [first_lof hi]
  unfold tz hs hg
  by_cases h : 0 ≤ to.getD i 0
  · have h2 := Int.emod_nonneg (to.getD i 0) (show (n : Int) ≠ 0 by omega)
    have h1 := Int.emod_lt_of_pos (to.getD i 0) (show (0 : Int) < n by omega)
    simp only [h, if_true]
    rw [if_pos ⟨trivial, fun e => by omega, trivial⟩]
    have := first_lof (to := to) (n := n) (k := n) (b := (to.getD i 0 % n).toNat) (by omega)
    rw [show (((to.getD i 0 % n).toNat : Nat) : Int) = to.getD i 0 % n from Int.toNat_of_nonneg h2] at this
    exact this
  · simp only [h, if_false]
    simp
theorem leads_out {l : List As} {i : Nat} (h : l.length ≤ i) : leadsF l i = none := by
  unfold leadsF
  rw [List.getElem?_eq_none h]
theorem sers_lof {to : List Int} {n : Nat} {k : List Nat} (h : ∀ x ∈ k, x < n) : sers (lof to n n) k = k.map (fun x : Nat => (x : Int) + 1) := by
  unfold sers
  refine List.map_congr_left fun x hx => ?_
  rw [lof_get (h x hx)]; rfl
end Go.Proofs.YtclcbiiijoeplaaDoor.Rlo
