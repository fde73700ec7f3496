/- Trees: marks, the same, the bare (plain). -/
import Derived.Test.YtgodeffkboihlaaGreatDoorTra
set_option linter.unusedVariables false
namespace Go.Proofs.YtgodeffkboihlaaGreatDoor.Trd
open Tra

/-- Is a type of this kind check's alone? (Name 21 .. Nil 24, Unary 26, Binary 27, Call 28, Method 30) -/
def marks (k : Int) : Bool := (decide (21 ≤ k) && decide (k ≤ 24)) || k == 26 || k == 27 || k == 28 || k == 30
/-- Two nodes' own data, but for places and marks. -/
def sameNd (a b : Nd) : Bool := decide (a.k = b.k) && decide (a.text = b.text) && decide (a.n = b.n) && (marks a.k || decide (a.ty = b.ty))
def bareNd (a : Nd) : Nd := ⟨a.k, a.text, a.n, if marks a.k then .empty else a.ty, 0, 0, 0⟩
mutual
def same : Tr → Tr → Bool
  | .mk a k, .mk b l => sameNd a b && sames k l
def sames : List Tr → List Tr → Bool
  | [], [] => true
  | t :: k, u :: l => same t u && sames k l
  | _, _ => false
end
mutual
def bare : Tr → Tr
  | .mk a k => .mk (bareNd a) (bares k)
def bares : List Tr → List Tr
  | [] => []
  | t :: k => bare t :: bares k
end
theorem bares_map (k : List Tr) : bares k = k.map bare := by
  induction k with
  | nil => rfl
  | cons t k ih => rw [bares, ih]; rfl
theorem bare_mk (a : Nd) (k : List Tr) : bare (.mk a k) = .mk (bareNd a) (k.map bare) := by rw [bare, bares_map]
theorem sames_length : ∀ {k l : List Tr}, sames k l = true → k.length = l.length
  | [], [], _ => rfl
  | t :: k, u :: l, h => by
    simp only [sames, Bool.and_eq_true] at h
    simp [sames_length h.2]
  | [], _ :: _, h => by simp [sames] at h
  | _ :: _, [], h => by simp [sames] at h
theorem sames_at : ∀ {k l : List Tr}, k.length = l.length → (sames k l = true ↔ ∀ j, j < k.length → same (k.getD j tr0) (l.getD j tr0) = true)
  | [], [], _ => by simp [sames]
  | t :: k, u :: l, h => by
    have ih := sames_at (k := k) (l := l) (by simpa using h)
    simp only [sames, Bool.and_eq_true, ih]
    constructor
    · rintro ⟨h1, h2⟩ j hj
      cases j with
      | zero => simpa using h1
      | succ j => simpa using h2 j (by simpa using hj)
    · intro h2
      exact ⟨by simpa using h2 0 (by simp), fun j hj => by simpa using h2 (j + 1) (by simpa using hj)⟩
  | [], _ :: _, h => by simp at h
  | _ :: _, [], h => by simp at h
/-- The kids up to the j-th are alike: what a loop has seen. -/
theorem sames_take_succ {k l : List Tr} (h : k.length = l.length) {j : Nat} (hj : j < k.length) : sames (k.take (j + 1)) (l.take (j + 1)) = (sames (k.take j) (l.take j) && same (k.getD j tr0) (l.getD j tr0)) := by
  induction j generalizing k l with
  | zero =>
    match k, l, h, hj with
    | t :: k, u :: l, _, _ => simp [sames]
  | succ j ih =>
    match k, l, h, hj with
    | t :: k, u :: l, h, hj =>
      have := ih (k := k) (l := l) (by simpa using h) (by simpa using hj)
      simp only [List.take_succ_cons, sames, this, List.getD_cons_succ, Bool.and_assoc]
theorem sameNd_refl (a : Nd) : sameNd a a = true := by simp [sameNd]
theorem same_refl : ∀ t : Tr, same t t = true := by
  refine tree_ind fun d ks ih => ?_
  simp only [same, sameNd_refl, Bool.true_and]
  exact (sames_at rfl).2 ih
theorem sameNd_comm (a b : Nd) : sameNd a b = sameNd b a := by
  unfold sameNd
  rw [Bool.eq_iff_iff]
  simp only [Bool.and_eq_true, Bool.or_eq_true, decide_eq_true_eq]
  constructor <;> rintro ⟨⟨⟨h1, h2⟩, h3⟩, h4⟩ <;> refine ⟨⟨⟨h1.symm, h2.symm⟩, h3.symm⟩, ?_⟩
  · rcases h4 with h | h
    · exact .inl (h1 ▸ h)
    · exact .inr h.symm
  · rcases h4 with h | h
    · exact .inl (h1 ▸ h)
    · exact .inr h.symm
theorem sameNd_bare (a b : Nd) : sameNd (bareNd a) (bareNd b) = sameNd a b := by
  unfold sameNd bareNd
  rw [Bool.eq_iff_iff]
  simp only [Bool.and_eq_true, Bool.or_eq_true, decide_eq_true_eq]
  constructor
  · rintro ⟨⟨⟨h1, h2⟩, h3⟩, h4⟩
    refine ⟨⟨⟨h1, h2⟩, h3⟩, ?_⟩
    rcases h4 with h | h
    · exact .inl h
    · by_cases hm : marks a.k = true
      · exact .inl hm
      · rw [if_neg hm, if_neg (by rw [← h1]; exact hm)] at h
        exact .inr h
  · rintro ⟨⟨⟨h1, h2⟩, h3⟩, h4⟩
    refine ⟨⟨⟨h1, h2⟩, h3⟩, ?_⟩
    rcases h4 with h | h
    · exact .inl h
    · by_cases hm : marks a.k = true
      · exact .inl hm
      · rw [if_neg hm, if_neg (by rw [← h1]; exact hm)]
        exact .inr h
end Go.Proofs.YtgodeffkboihlaaGreatDoor.Trd
