/- What the rings of lockers by numbers answer: the plain side. -/
import Derived.Test.YtclcbiiijoeplaaDoorRlo
set_option linter.unusedVariables false
namespace Go.Proofs.YtclcbiiijoeplaaDoor.Rrf
open Rcy Rsl Rrg Rpr Rlo

structure Facts (tq : List Int) (n : Nat) (rs : List (List Nat)) (L : List (List Int)) : Prop where
  len : rs.length ≤ n
  row : ∀ i, i < rs.length → L.getD i [] = (rs.getD i []).map (fun x : Nat => (x : Int) + 1)
  pos : ∀ i, i < rs.length → 0 < (rs.getD i []).length
  le : ∀ i, i < rs.length → (rs.getD i []).length ≤ n
  lt : ∀ i k, i < rs.length → k < (rs.getD i []).length → (rs.getD i []).getD k 0 < n
  up : ∀ i, i + 1 < rs.length → (rs.getD i []).getD 0 0 < (rs.getD (i + 1) []).getD 0 0
  least : ∀ i k, i < rs.length → k < (rs.getD i []).length → (rs.getD i []).getD 0 0 ≤ (rs.getD i []).getD k 0
  next : ∀ i k, i < rs.length → k < (rs.getD i []).length → tz tq n ((rs.getD i []).getD k 0) = some ((rs.getD i []).getD ((k + 1) % (rs.getD i []).length) 0)
  fresh : ∀ i k, i < rs.length → k < (rs.getD i []).length → ¬ Rpr.seen rs i k ((rs.getD i []).getD k 0)
theorem vals_get {f : Nat → Option Nat} {a p k : Nat} (h : k < p) : (vals f a p).getD k 0 = (it f a k).getD 0 := by
  simp [vals, List.getD_eq_getElem?_getD, h]
theorem vals_length {f : Nat → Option Nat} {a p : Nat} : (vals f a p).length = p := by simp [vals]
theorem within_lof (tq : List Int) (n : Nat) : Within (leadsF (lof tq n n)) n := by
  have := leads_within (lof tq n n)
  rw [lof_length] at this; exact this
theorem facts (tq : List Int) (n : Nat) : Facts tq n (rings (leadsF (lof tq n n)) n) (out (lof tq n n) n) := by
  have hW := within_lof tq n
  have lt : ∀ i k, i < (rings (leadsF (lof tq n n)) n).length → k < ((rings (leadsF (lof tq n n)) n).getD i []).length → ((rings (leadsF (lof tq n n)) n).getD i []).getD k 0 < n := by
    intro i k hi hk
    obtain ⟨a, p, ha, h1, h2, h3, h4⟩ := rings_get hi
    rw [getD_ring hi, h3] at hk ⊢
    rw [vals_length] at hk
    rw [vals_get hk]
    obtain ⟨b, hb⟩ := cyc_all h1 k
    rw [hb]; exact it_lt hW ha hb
  refine ⟨?_, ?_, ?_, ?_, lt, ?_, ?_, ?_, ?_⟩
  · have := out_length (lof tq n n) n
    simpa [out] using this
  · intro i hi
    have e : (out (lof tq n n) n).getD i [] = sers (lof tq n n) ((rings (leadsF (lof tq n n)) n).getD i []) := by
      unfold out
      simp [List.getD_eq_getElem?_getD, hi]
    rw [e]
    refine sers_lof fun x hx => ?_
    obtain ⟨k, hk, e2⟩ := List.getElem_of_mem hx
    have := lt i k hi hk
    rw [getD_at hk, e2] at this
    exact this
  · intro i hi
    obtain ⟨a, p, ha, h1, h2, h3, h4⟩ := rings_get hi
    rw [getD_ring hi, h3, vals_length]; exact h1.pos
  · intro i hi
    obtain ⟨a, p, ha, h1, h2, h3, h4⟩ := rings_get hi
    rw [getD_ring hi, h3, vals_length]; exact cyc_le hW ha h1
  · intro i hi
    obtain ⟨a, p, ha, h1, h2, h3, h4⟩ := rings_get (show i < (rings (leadsF (lof tq n n)) n).length by omega)
    obtain ⟨b, q, hb, k1, k2, k3, k4⟩ := rings_get hi
    have := rings_lt (Nat.lt_succ_self i) hi h4 k4
    rw [getD_ring (show i < (rings (leadsF (lof tq n n)) n).length by omega), getD_ring hi, h3, k3, vals_get h1.pos, vals_get k1.pos]
    exact this
  · intro i k hi hk
    obtain ⟨a, p, ha, h1, h2, h3, h4⟩ := rings_get hi
    rw [getD_ring hi, h3] at hk ⊢
    rw [vals_length] at hk
    rw [vals_get hk, vals_get h1.pos]
    obtain ⟨b, hb⟩ := cyc_all h1 k
    rw [hb]; exact h2 k b hb
  · intro i k hi hk
    have hx := lt i k hi hk
    obtain ⟨a, p, ha, h1, h2, h3, h4⟩ := rings_get hi
    rw [getD_ring hi, h3] at hk hx ⊢
    rw [vals_length] at hk ⊢
    rw [vals_get hk] at hx ⊢
    rw [vals_get (Nat.mod_lt _ h1.pos)]
    obtain ⟨b, hb⟩ := cyc_all h1 k
    rw [hb] at hx ⊢
    rw [← leads_lof (by exact hx), ← it_mod h1, it_succ hb]
    obtain ⟨d, hd⟩ := cyc_all h1 (k + 1)
    rw [it_succ hb] at hd
    show leadsF _ b = _
    rw [hd]; rfl
  · intro i k hi hk
    exact not_seen hi hk
/-- One is led on, and nobody met stands in a ring. -/
structure Wy (f : Nat → Option Nat) (n : Nat) (i q at_ : Nat) : Prop where
  here : it f i q = some at_
  le : q ≤ n
  out : ∀ r c, r < q → it f i r = some c → ¬ Rpr.seen (rings f n) (rings f n).length 0 c
theorem seen_all {rs : List (List Nat)} {x : Nat} : Rpr.seen rs rs.length 0 x ↔ ∃ j, j < rs.length ∧ x ∈ rs.getD j [] := by
  unfold Rpr.seen
  simp
theorem wy_start (f : Nat → Option Nat) (n i : Nat) : Wy f n i 0 i := ⟨rfl, Nat.zero_le _, fun r c h => absurd h (by omega)⟩
theorem wy_step {f : Nat → Option Nat} {n i q a b : Nat} (hW : Within f n) (hi : i < n) (h : Wy f n i q a) (hs : ¬ Rpr.seen (rings f n) (rings f n).length 0 a) (hb : f a = some b) : Wy f n i (q + 1) b := by
  have hall : ∀ r c, r < q + 1 → it f i r = some c → ¬ Rpr.seen (rings f n) (rings f n).length 0 c := by
    intro r c hr hc
    by_cases e : r = q
    · subst e
      rw [h.here] at hc; cases hc; exact hs
    · exact h.out r c (by omega) hc
  have hlt : q < n := by
    rcases Nat.lt_or_ge q n with h' | h'
    · exact h'
    · exfalso
      have e : q = n := by have := h.le; omega
      subst e
      obtain ⟨x, c, hx, hc, j, hj, hm⟩ := long_way hW hi (fun r hr => by
        cases hc : it f i r with
        | some b => exact ⟨b, rfl⟩
        | none =>
          have := it_none hc (q - r)
          rw [show r + (q - r) = q by omega, h.here] at this; cases this)
      exact hall x c (by omega) hc (seen_all.2 ⟨j, hj, by rw [getD_ring hj]; exact hm⟩)
  exact ⟨by rw [it_succ h.here]; exact hb, hlt, hall⟩
theorem tz_some {tq : List Int} {n i : Nat} (h : 0 ≤ tq.getD i 0) : tz tq n i = some (tq.getD i 0 % n).toNat := by unfold tz; rw [if_pos h]
theorem tz_none {tq : List Int} {n i : Nat} (h : ¬ 0 ≤ tq.getD i 0) : tz tq n i = none := by unfold tz; rw [if_neg h]
end Go.Proofs.YtclcbiiijoeplaaDoor.Rrf
