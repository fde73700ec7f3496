/- report.Rings: the marks, plain. -/
import Derived.Test.YtclcbiiijoeplaaDoorRgp
set_option linter.unusedVariables false
namespace Go.Proofs.YtclcbiiijoeplaaDoor.Rgm
open Rcy Rsl

variable {f : Nat → Option Nat} {n i m : Nat} {D E : List Int} {R : Nat → Option (List Nat)} {at_ : Option Nat}
abbrev Dn (n : Nat) (D : List Int) : Nat → Prop := fun a => a < n ∧ D.getD a 0 ≠ 0
structure Mk (f : Nat → Option Nat) (n i : Nat) (D : List Int) (R : Nat → Option (List Nat)) : Prop where
  mark : Rcy.Mark f (Dn n D) R
  ids : ∀ a, a < n → 0 ≤ D.getD a 0 ∧ D.getD a 0 ≤ i
  all : ∀ a, a < i → D.getD a 0 ≠ 0
  len : D.length = n
structure Wk (f : Nat → Option Nat) (n i : Nat) (D E : List Int) (m : Nat) (at_ : Option Nat) : Prop where
  walk : Rcy.Walk f (Dn n D) i m at_
  on : ∀ a, a < n → (On f i m a → E.getD a 0 = i + 1) ∧ (¬ On f i m a → E.getD a 0 = D.getD a 0)
  dup : (vals f i m).Nodup
  len : E.length = n
theorem getD_rep (n a : Nat) : (List.replicate n (0 : Int)).getD a 0 = 0 := by
  simp only [List.getD_eq_getElem?_getD, List.getElem?_replicate]
  split <;> rfl
theorem mk_start (f : Nat → Option Nat) (n : Nat) : Mk f n 0 (List.replicate n 0) (fun _ => none) :=
  ⟨⟨fun a b h _ => absurd (getD_rep n a) h.2, fun a l => ⟨fun h => (by cases h), fun h => absurd (getD_rep n a) h.2.2⟩⟩, fun a _ => by rw [getD_rep]; omega, fun a h => absurd h (by omega), by simp⟩
theorem wk_start (h : Mk f n i D R) (hi : i < n) : Wk f n i D D 0 (some i) :=
  ⟨⟨rfl, fun q b hq => absurd hq (by omega), fun q hq => absurd hq (by omega)⟩, fun a _ => ⟨fun ⟨q, hq, _⟩ => absurd hq (by omega), fun _ => rfl⟩, by simp [vals], h.len⟩
theorem not_on (h : Wk f n i D E m at_) {a : Nat} (ha : a < n) (he : E.getD a 0 ≠ (i : Int) + 1) : ¬ On f i m a := fun ho => he ((h.on a ha).1 ho)
theorem vals_lt (hW : Within f n) (hi : i < n) (h : Wk f n i D E m at_) : ∀ b ∈ vals f i m, b < n := by
  intro b hb
  obtain ⟨q, hq, e⟩ := mem_vals.1 hb
  obtain ⟨c, hc⟩ := h.walk.all q hq
  rw [hc] at e; cases e
  exact it_lt hW hi hc
theorem wk_room (hW : Within f n) (hi : i < n) {a : Nat} (h : Wk f n i D E m (some a)) (he : E.getD a 0 = 0) : m < n ∧ (vals f i (m + 1)).Nodup ∧ a < n := by
  have ha : a < n := it_lt hW hi h.walk.here
  have hno := not_on h ha (by rw [he]; omega)
  have hmem : a ∉ vals f i m := fun hb => hno (by
    obtain ⟨q, hq, e⟩ := mem_vals.1 hb
    obtain ⟨c, hc⟩ := h.walk.all q hq
    rw [hc] at e; cases e
    exact ⟨q, hq, hc⟩)
  have h2 : (vals f i (m + 1)).Nodup := by
    rw [vals_succ, h.walk.here, Option.getD_some, List.nodup_append]
    exact ⟨h.dup, by simp, fun x hx y hy e => hmem (by simp at hy; rw [← hy, ← e]; exact hx)⟩
  have h3 := nodup_lt n _ h2 (fun b hb => by
    rw [vals_succ, List.mem_append] at hb
    rcases hb with hb | hb
    · exact vals_lt hW hi h b hb
    · rw [h.walk.here] at hb; simp at hb; omega)
  refine ⟨?_, h2, ha⟩
  simp [vals] at h3; omega
theorem getD_set {a b : Nat} {x : Int} (ha : a < E.length) : (E.set a x).getD b 0 = if b = a then x else E.getD b 0 := by
  simp only [List.getD_eq_getElem?_getD, List.getElem?_set]
  by_cases h : a = b
  · subst h; simp [ha]
  · rw [if_neg h, if_neg (Ne.symm h)]
theorem wk_step (hW : Within f n) (hi : i < n) {a : Nat} (h : Wk f n i D E m (some a)) (he : E.getD a 0 = 0) : Wk f n i D (E.set a ((i : Int) + 1)) (m + 1) (f a) := by
  obtain ⟨h1, h2, ha⟩ := wk_room hW hi h he
  have hno := not_on h ha (by rw [he]; omega)
  have hD : D.getD a 0 = 0 := by rw [← (h.on a ha).2 hno]; exact he
  refine ⟨⟨it_succ h.walk.here, fun q b hq hb => ?_, fun q hq => ?_⟩, fun b hb => ?_, h2, by rw [List.length_set]; exact h.len⟩
  · by_cases e : q = m
    · subst e; rw [h.walk.here] at hb; cases hb; exact fun hd => hd.2 hD
    · exact h.walk.free q b (by omega) hb
  · by_cases e : q = m
    · subst e; exact ⟨a, h.walk.here⟩
    · exact h.walk.all q (by omega)
  · rw [getD_set (by rw [h.len]; exact ha), on_succ, h.walk.here]
    by_cases e : b = a
    · subst e; simp
    · rw [if_neg e]
      refine ⟨fun ho => (h.on b hb).1 (ho.resolve_right (fun x => e (by cases x; rfl))), fun ho => (h.on b hb).2 (fun x => ho (.inl x))⟩
/-- What is marked behind the walk. -/
theorem wk_dn (hW : Within f n) (hi : i < n) (h : Wk f n i D E m at_) : ∀ a, Dn n E a ↔ (Dn n D a ∨ On f i m a) := by
  intro a
  constructor
  · rintro ⟨h1, h2⟩
    by_cases ho : On f i m a
    · exact .inr ho
    · exact .inl ⟨h1, by rw [← (h.on a h1).2 ho]; exact h2⟩
  · rintro (⟨h1, h2⟩ | ho)
    · by_cases ho : On f i m a
      · exact ⟨h1, by rw [(h.on a h1).1 ho]; omega⟩
      · exact ⟨h1, by rw [(h.on a h1).2 ho]; exact h2⟩
    · obtain ⟨q, hq, hqa⟩ := ho
      have ha : a < n := it_lt hW hi hqa
      exact ⟨ha, by rw [(h.on a ha).1 ⟨q, hq, hqa⟩]; omega⟩
theorem mark_congr {D D' : Nat → Prop} {R : Nat → Option (List Nat)} (h : Rcy.Mark f D R) (e : ∀ a, D' a ↔ D a) : Rcy.Mark f D' R :=
  ⟨fun a b ha hb => (e b).2 (h.closed a b ((e a).1 ha) hb), fun a l => by rw [h.rings, e]⟩
theorem wk_rest (hW : Within f n) (hi : i < n) (hM : Mk f n i D R) (h : Wk f n i D E m at_) (hst : m = 0 → E.getD i 0 ≠ 0) {R' : Nat → Option (List Nat)} (hm : Rcy.Mark f (fun a => Dn n D a ∨ On f i m a) R') : Mk f n (i + 1) E R' := by
  refine ⟨mark_congr hm (wk_dn hW hi h), fun a ha => ?_, fun a ha => ?_, h.len⟩
  · have h1 := hM.ids a ha
    by_cases ho : On f i m a
    · rw [(h.on a ha).1 ho]; omega
    · rw [(h.on a ha).2 ho]; omega
  · by_cases e : a = i
    · subst e
      by_cases hm0 : m = 0
      · exact hst hm0
      · rw [(h.on a hi).1 ⟨0, by omega, rfl⟩]; omega
    · have h1 := hM.all a (by omega)
      have han : a < n := by omega
      by_cases ho : On f i m a
      · rw [(h.on a han).1 ho]; omega
      · rw [(h.on a han).2 ho]; exact h1
theorem wk_none (hW : Within f n) (hi : i < n) (hM : Mk f n i D R) (h : Wk f n i D E m none) : Mk f n (i + 1) E R :=
  wk_rest hW hi hM h (fun e => by subst e; have := h.walk.here; cases this) (mark_none hM.mark h.walk (fun b e => by cases e))
theorem wk_old (hW : Within f n) (hi : i < n) (hM : Mk f n i D R) {a : Nat} (h : Wk f n i D E m (some a)) (he : E.getD a 0 ≠ 0) (hne : E.getD a 0 ≠ (i : Int) + 1) : Mk f n (i + 1) E R := by
  have ha : a < n := it_lt hW hi h.walk.here
  have hno := not_on h ha hne
  have hD : Dn n D a := ⟨ha, by rw [← (h.on a ha).2 hno]; exact he⟩
  refine wk_rest hW hi hM h (fun e => ?_) (mark_none hM.mark h.walk (fun b e => by cases e; exact hD))
  subst e
  have := h.walk.here
  cases this
  exact he
/-- The walk has met itself. -/
theorem wk_on (hW : Within f n) (hi : i < n) (hM : Mk f n i D R) {a : Nat} (h : Wk f n i D E m (some a)) (he : E.getD a 0 = (i : Int) + 1) : On f i m a ∧ ∃ s, Cyc f a (s + 1) := by
  have ha : a < n := it_lt hW hi h.walk.here
  have ho : On f i m a := by
    by_cases ho : On f i m a
    · exact ho
    · have h1 := (h.on a ha).2 ho
      have h2 := (hM.ids a ha).2
      omega
  refine ⟨ho, ?_⟩
  obtain ⟨q, hq, hqa⟩ := ho
  have hb : it f a (m - q) = some a := by
    have := it_add hqa (m - q)
    rw [show q + (m - q) = m by omega, h.walk.here] at this; exact this.symm
  obtain ⟨p, hp, _⟩ := cyc_exists (by omega) hb
  obtain ⟨s, rfl⟩ : ∃ s, p = s + 1 := ⟨p - 1, by have := hp.pos; omega⟩
  exact ⟨s, hp⟩
theorem wk_ring (hW : Within f n) (hi : i < n) (hM : Mk f n i D R) {a c : Nat} {k : List Nat} (h : Wk f n i D E m (some a)) (he : E.getD a 0 = (i : Int) + 1) (hr : Ring f c k) (hac : ∃ q, it f a q = some c) :
    Mk f n (i + 1) E (fun x => if x = c then some k else R x) :=
  wk_rest hW hi hM h (fun e => by subst e; have := h.walk.here; cases this; rw [he]; omega) (mark_ring hM.mark h.walk (wk_on hW hi hM h he).1 hr hac)
/-- The ring that is found was not known. -/
theorem wk_new (hW : Within f n) (hi : i < n) (hM : Mk f n i D R) {a c : Nat} (h : Wk f n i D E m (some a)) (he : E.getD a 0 = (i : Int) + 1) (hac : ∃ q, it f a q = some c) : R c = none := by
  obtain ⟨⟨q0, hq0, hqa⟩, s, hs⟩ := wk_on hW hi hM h he
  obtain ⟨q, hq⟩ := hac
  cases hR : R c with
  | none => rfl
  | some k =>
    exfalso
    have h1 := (hM.mark.rings c k).1 hR
    obtain ⟨r, hrc⟩ := cyc_home hs hq
    have h2 := closed_it hM.mark.closed h1.2 hrc
    exact h.walk.free q0 a hq0 hqa h2
end Go.Proofs.YtclcbiiijoeplaaDoor.Rgm
