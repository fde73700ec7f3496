/- Trees: how deep, and sums of kids' sizes (plain). -/
import Derived.Test.YtgodeffkboihlaaGreatDoorTra
set_option linter.unusedVariables false
namespace Go.Proofs.YtgodeffkboihlaaGreatDoor.Trf
open Tra

mutual
/-- How many nodes stand above one another. -/
def depth : Tr → Nat
  | .mk _ ks => 1 + depths ks
def depths : List Tr → Nat
  | [] => 0
  | t :: l => max (depth t) (depths l)
end
theorem depth_pos (t : Tr) : 1 ≤ depth t := by cases t; simp only [depth]; omega
theorem depths_append (l m : List Tr) : depths (l ++ m) = max (depths l) (depths m) := by
  induction l with
  | nil => simp [depths]
  | cons t l ih => simp only [List.cons_append, depths, ih]; omega
theorem take_succ {l : List Tr} {j : Nat} (hj : j < l.length) : l.take (j + 1) = l.take j ++ [l.getD j tr0] := by
  rw [List.take_succ_eq_append_getElem hj]
  simp [List.getD_eq_getElem?_getD, hj]
theorem depths_take_succ {l : List Tr} {j : Nat} (hj : j < l.length) : depths (l.take (j + 1)) = max (depths (l.take j)) (depth (l.getD j tr0)) := by
  rw [take_succ hj, depths_append]; simp [depths]
theorem sizes_take_succ {l : List Tr} {j : Nat} (hj : j < l.length) : sizes (l.take (j + 1)) = sizes (l.take j) + size (l.getD j tr0) := by
  rw [take_succ hj, sizes_append]; simp [sizes]
theorem sizes_take_le (l : List Tr) (j : Nat) : sizes (l.take j) ≤ sizes l := by
  have h := sizes_append (l.take j) (l.drop j)
  rw [List.take_append_drop] at h; omega
theorem depths_take_le (l : List Tr) (j : Nat) : depths (l.take j) ≤ depths l := by
  have h := depths_append (l.take j) (l.drop j)
  rw [List.take_append_drop] at h; omega
theorem depths_le_sizes : ∀ t : Tr, depth t ≤ size t := by
  refine tree_ind fun d ks ih => ?_
  simp only [depth, size]
  suffices ∀ l : List Tr, (∀ j, j < l.length → depth (l.getD j tr0) ≤ size (l.getD j tr0)) → depths l ≤ sizes l by have := this ks ih; omega
  intro l
  induction l with
  | nil => intro _; simp [depths, sizes]
  | cons t l il =>
    intro h
    have h0 := h 0 (by simp)
    have h1 := il fun j hj => by simpa using h (j + 1) (by simpa using hj)
    simp only [List.getD_cons_zero] at h0
    simp only [depths, sizes]; omega
end Go.Proofs.YtgodeffkboihlaaGreatDoor.Trf
