/- Nobody stands in two rings; who is led on comes into one, or to an end: the plain side. -/
import Derived.Test.YtclcbiiijoeplaaDoorRcy
set_option linter.unusedVariables false
namespace Go.Proofs.YtclcbiiijoeplaaDoor.Rpr
open Rcy

variable {f : Nat → Option Nat} {n : Nat}
theorem rings_sorted (n : Nat) : List.Pairwise (fun k m => ∀ a b, Ring f a k → Ring f b m → a < b) (rings f n) := by
  unfold rings
  rw [List.pairwise_filterMap]
  refine List.Pairwise.imp ?_ (List.pairwise_lt_range (n := n))
  intro x y hxy k hk m hm a b ha hb
  have h1 := ringAt_some.1 hk
  have h2 := ringAt_some.1 hm
  have e1 : a = x := ring_head ha h1
  have e2 : b = y := ring_head hb h2
  omega
where
  ring_head {a b : Nat} {l : List Nat} (h : Ring f a l) (k : Ring f b l) : a = b := by
    obtain ⟨p, h1, _, e1⟩ := h.ex
    obtain ⟨q, k1, _, e2⟩ := k.ex
    have hp := h1.pos
    have hq := k1.pos
    have e := e1.symm.trans e2
    obtain ⟨p', rfl⟩ : ∃ x, p = x + 1 := ⟨p - 1, by omega⟩
    obtain ⟨q', rfl⟩ : ∃ x, q = x + 1 := ⟨q - 1, by omega⟩
    have h3 := congrArg (fun l => l.head?) e
    simp [vals, List.range_succ_eq_map, it] at h3
    exact h3
theorem rings_get {i : Nat} (hi : i < (rings f n).length) : ∃ a p, a < n ∧ Cyc f a p ∧ (∀ q b, it f a q = some b → a ≤ b) ∧ (rings f n)[i] = vals f a p ∧ Ring f a (rings f n)[i] := by
  have hm := List.getElem_mem hi
  unfold rings at hm
  rw [List.mem_filterMap] at hm
  obtain ⟨a, ha, hr⟩ := hm
  rw [List.mem_range] at ha
  have h1 := ringAt_some.1 hr
  obtain ⟨p, h2, h3, h4⟩ := h1.ex
  exact ⟨a, p, ha, h2, h3, h4, h1⟩
theorem rings_lt {i j a b : Nat} (hij : i < j) (hj : j < (rings f n).length) (ha : Ring f a (rings f n)[i]) (hb : Ring f b (rings f n)[j]) : a < b :=
  List.pairwise_iff_getElem.1 (rings_sorted (f := f) n) i j (by omega) hj hij a b ha hb
/-- One in two rings: they are one. -/
theorem ring_one {a b x : Nat} {k m : List Nat} (ha : Ring f a k) (hb : Ring f b m) (hx : x ∈ k) (hy : x ∈ m) : a = b := by
  obtain ⟨p, h1, h2, rfl⟩ := ha.ex
  obtain ⟨q, k1, k2, rfl⟩ := hb.ex
  obtain ⟨r, _, er⟩ := mem_vals.1 hx
  obtain ⟨s, _, es⟩ := mem_vals.1 hy
  obtain ⟨c, hc⟩ := cyc_all h1 r
  obtain ⟨d, hd⟩ := cyc_all k1 s
  rw [hc] at er; rw [hd] at es
  simp only [Option.getD_some] at er es
  subst er; subst es
  obtain ⟨u, hu⟩ := cyc_home h1 hc
  obtain ⟨t, ht⟩ := cyc_home k1 hd
  have h3 := h2 (r + t) b (by rw [it_add hc]; exact ht)
  have h4 := k2 (s + u) a (by rw [it_add hd]; exact hu)
  omega
/-- Who comes back to himself stands in a ring. -/
theorem cyc_in (hW : Within f n) {c p : Nat} (hc : c < n) (hp : 0 < p) (h : it f c p = some c) : ∃ i, ∃ hi : i < (rings f n).length, c ∈ (rings f n)[i] := by
  obtain ⟨q, hq, _⟩ := cyc_exists hp h
  obtain ⟨s, rfl⟩ : ∃ s, q = s + 1 := ⟨q - 1, by have := hq.pos; omega⟩
  obtain ⟨d, p', _, ⟨r, hr⟩, hd, hring⟩ := least_ring hq
  have hdn : d < n := it_lt hW hc hr
  obtain ⟨t, ht⟩ := cyc_home hq hr
  have hmem : c ∈ vals f d p' := by
    rw [it_mod hd] at ht
    exact mem_vals.2 ⟨t % p', Nat.mod_lt _ hd.pos, by rw [ht]; rfl⟩
  have hin : vals f d p' ∈ rings f n := by
    unfold rings
    rw [List.mem_filterMap]
    exact ⟨d, List.mem_range.2 hdn, ringAt_some.2 hring⟩
  obtain ⟨i, hi, e⟩ := List.getElem_of_mem hin
  exact ⟨i, hi, by rw [e]; exact hmem⟩
theorem pigeon : ∀ (n : Nat) (g : Nat → Nat), (∀ q, q ≤ n → g q < n) → ∃ x y, x < y ∧ y ≤ n ∧ g x = g y := by
  intro n g h
  cases hd : decide (((List.range (n + 1)).map g).Nodup) with
  | true =>
    have h1 := nodup_lt n _ (of_decide_eq_true hd) (fun a ha => by
      obtain ⟨q, hq, rfl⟩ := List.mem_map.1 ha
      rw [List.mem_range] at hq
      exact h q (by omega))
    simp at h1; omega
  | false =>
    have h1 := of_decide_eq_false hd
    refine Classical.byContradiction fun hno => h1 ?_
    rw [List.nodup_iff_pairwise_ne, List.pairwise_map]
    refine List.Pairwise.imp_of_mem ?_ (List.pairwise_lt_range (n := n + 1))
    intro x y hx hy hlt e
    rw [List.mem_range] at hx hy
    exact hno ⟨x, y, hlt, by omega, e⟩
/-- Who is led on n + 1 times has met one who stands in a ring. -/
theorem long_way (hW : Within f n) {i : Nat} (hi : i < n) (h : ∀ q, q ≤ n → ∃ b, it f i q = some b) : ∃ x c, x ≤ n ∧ it f i x = some c ∧ ∃ j, ∃ hj : j < (rings f n).length, c ∈ (rings f n)[j] := by
  obtain ⟨x, y, hxy, hy, e⟩ := pigeon n (fun q => (it f i q).getD 0) (fun q hq => by
    obtain ⟨b, hb⟩ := h q hq
    rw [hb]; exact it_lt hW hi hb)
  obtain ⟨c, hc⟩ := h x (by omega)
  obtain ⟨d, hd⟩ := h y hy
  rw [hc, hd] at e
  simp only [Option.getD_some] at e
  subst e
  refine ⟨x, c, by omega, hc, cyc_in hW (it_lt hW hi hc) (p := y - x) (by omega) ?_⟩
  rw [← it_add hc, show x + (y - x) = y by omega]; exact hd
/-- Who has been met in the rings before the i-th and in the first k of it. -/
def seen (rs : List (List Nat)) (i k x : Nat) : Prop := (∃ j, j < i ∧ x ∈ rs.getD j []) ∨ x ∈ (rs.getD i []).take k
theorem getD_at {l : List Nat} {k : Nat} (hk : k < l.length) : l.getD k 0 = l[k] := by simp [List.getD_eq_getElem?_getD, hk]
theorem seen_step {rs : List (List Nat)} {i k x : Nat} (hk : k < (rs.getD i []).length) : seen rs i (k + 1) x ↔ (seen rs i k x ∨ x = (rs.getD i []).getD k 0) := by
  unfold seen
  rw [List.take_succ_eq_append_getElem hk]
  have e : (rs.getD i []).getD k 0 = (rs.getD i [])[k] := getD_at hk
  rw [e]
  simp only [List.mem_append, List.mem_singleton, or_assoc]
theorem seen_next {rs : List (List Nat)} {i x : Nat} : seen rs (i + 1) 0 x ↔ seen rs i (rs.getD i []).length x := by
  unfold seen
  simp only [List.take_zero, List.not_mem_nil, or_false, List.take_length]
  constructor
  · rintro ⟨j, hj, hx⟩
    by_cases e : j = i
    · subst e; exact .inr hx
    · exact .inl ⟨j, by omega, hx⟩
  · rintro (⟨j, hj, hx⟩ | hx)
    · exact ⟨j, by omega, hx⟩
    · exact ⟨i, by omega, hx⟩
theorem getD_ring {i : Nat} (hi : i < (rings f n).length) : (rings f n).getD i [] = (rings f n)[i] := by simp [List.getD_eq_getElem?_getD, hi]
/-- The next one in a ring has not been seen. -/
theorem not_seen {i k : Nat} (hi : i < (rings f n).length) (hk : k < ((rings f n).getD i []).length) : ¬ seen (rings f n) i k (((rings f n).getD i []).getD k 0) := by
  obtain ⟨a, p, ha, h1, h2, h3, h4⟩ := rings_get hi
  rw [getD_ring hi] at hk ⊢
  have e : (rings f n)[i].getD k 0 = (rings f n)[i][k] := getD_at hk
  rw [e]
  have hnd : ((rings f n)[i]).Nodup := by rw [h3]; exact vals_nodup h1
  rintro (⟨j, hj, hx⟩ | hx)
  · have hjl : j < (rings f n).length := by omega
    rw [getD_ring hjl] at hx
    obtain ⟨b, q, hb, _, _, _, k4⟩ := rings_get hjl
    have h5 := rings_lt hj hi k4 h4
    have h6 := ring_one k4 h4 hx (List.getElem_mem hk)
    omega
  · rw [getD_ring hi] at hx
    obtain ⟨j, hj, e2⟩ := List.getElem_of_mem hx
    rw [List.getElem_take] at e2
    rw [List.length_take] at hj
    rw [List.nodup_iff_pairwise_ne] at hnd
    exact List.pairwise_iff_getElem.1 hnd j k (by omega) hk (by omega) e2
end Go.Proofs.YtclcbiiijoeplaaDoor.Rpr
