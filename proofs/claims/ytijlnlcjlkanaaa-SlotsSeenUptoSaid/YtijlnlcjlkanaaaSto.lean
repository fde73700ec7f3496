/- SlotsNever's plain law: the state of its loop. -/
import Derived.Test.YtijlnlcjlkanaaaStn
set_option linter.unusedVariables false
namespace Go.Proofs.Ytijlnlcjlkanaaa.Sto
open Go.RowKit Rwo Sta Stb Stc Stg Ste Rwp Sti Stj Stk Stl Stn

/-- What the table and the three lists keep. -/
structure Inv (n : Nat) (t : Tab) (ts : List Hd) (xs gs : List Int) : Prop where
  ok : TabOk t ts.length
  most : t.most = n
  born : t.born = ts.length
  xl : xs.length = ts.length
  gl : gs.length = ts.length
  place : ∀ h ∈ ts, 1 ≤ h.slot ∧ h.slot ≤ t.sl.length ∧ h.gen ≤ (t.sl.getD (h.slot - 1) ⟨0, 0, 0⟩).gen
  once : ts.Nodup
  gone : ∀ j, j < ts.length → (gs.getD j 0 = 0 ↔ lives t (ts.getD j ⟨0, 0⟩) = true)
  thing : ∀ j, j < ts.length → lives t (ts.getD j ⟨0, 0⟩) = true → (t.sl.getD ((ts.getD j ⟨0, 0⟩).slot - 1) ⟨0, 0, 0⟩).thing = xs.getD j 0
theorem Inv.start (n : Nat) (h : n ≤ 500) : Inv n ⟨[], n, 0, 0, []⟩ [] [] [] :=
  ⟨TabOk.new n h, rfl, rfl, rfl, rfl, fun _ h => absurd h (by simp), List.nodup_nil, fun j h => absurd h (by simp), fun j h => absurd h (by simp)⟩
variable {n : Nat} {t : Tab} {ts : List Hd} {xs gs : List Int}
theorem Inv.take (v : Inv n t ts xs gs) {x : Int} {t' : Tab} {h : Hd} (k : takeT t x = some (t', h)) :
    Inv n t' (ts ++ [h]) (xs ++ [x]) (gs ++ [0]) ∧ h ∉ ts ∧ t.count < n ∧ t'.count = t.count + 1 := by
  unfold takeT at k
  obtain ⟨⟨u, i⟩, hr, he⟩ := Option.map_eq_some_iff.1 k
  simp only [Prod.mk.injEq] at he
  obtain ⟨rfl, rfl⟩ := he
  have r := room_some v.ok hr
  have hlw : ∀ h, lives (laidIn u i x) h = true ↔ h = ⟨i + 1, (u.sl.getD i ⟨0, 0, 0⟩).gen + 1⟩ ∨ lives t h = true := fun h => by rw [← r.lives]; exact laid_lives r.lt r.ser h
  have hsl : (laidIn u i x).sl = u.sl.set i ⟨(u.sl.getD i ⟨0, 0, 0⟩).gen + 1, u.born + 1, x⟩ := rfl
  have hnot : (⟨i + 1, (u.sl.getD i ⟨0, 0, 0⟩).gen + 1⟩ : Hd) ∉ ts := fun hm => by
    obtain ⟨h1, h2, h3⟩ := v.place _ hm
    simp only [Nat.add_sub_cancel] at h2 h3
    rw [← r.same i (by omega)] at h3
    omega
  refine ⟨⟨?_, ?_, ?_, ?_, ?_, ?_, ?_, ?_, ?_⟩, hnot, by rw [← v.most]; exact r.less, by show u.count + 1 = _; rw [r.count]⟩
  · rw [List.length_append]; exact Stn.TabOk.laid v.ok r
  · show u.most = n; rw [r.most, v.most]
  · show u.born + 1 = _; rw [r.born, v.born, List.length_append]; rfl
  · rw [List.length_append, List.length_append, v.xl]; rfl
  · rw [List.length_append, List.length_append, v.gl]; rfl
  · intro h hm
    rw [hsl, List.length_set, getD_set r.lt]
    rcases List.mem_append.1 hm with h1 | h1
    · obtain ⟨a, b, c⟩ := v.place h h1
      have := r.le
      rw [← r.same _ (by omega)] at c
      refine ⟨a, by omega, ?_⟩
      by_cases e : h.slot - 1 = i
      · rw [if_pos e]; rw [e] at c; show _ ≤ _ + 1; omega
      · rw [if_neg e]; exact c
    · rw [List.mem_singleton.1 h1]
      refine ⟨Nat.le_add_left _ _, r.lt, ?_⟩
      rw [if_pos (Nat.add_sub_cancel ..)]
      exact Nat.le_refl _
  · exact List.nodup_append.2 ⟨v.once, by simp, fun a ha b hb => by rw [List.mem_singleton.1 hb]; exact fun e => hnot (e ▸ ha)⟩
  · intro j hj
    rw [List.length_append] at hj
    rw [getD_app, getD_app, v.gl]
    by_cases e : j < ts.length
    · rw [if_pos e, if_pos e, v.gone j e, hlw]
      constructor
      · exact fun hh => .inr hh
      · rintro (hh | hh)
        · exact absurd (hh ▸ getD_mem e) hnot
        · exact hh
    · have e2 : j = ts.length := by simp at hj; omega
      rw [if_neg e, if_neg e, if_pos e2, if_pos e2, hlw]
      exact ⟨fun _ => .inl rfl, fun _ => rfl⟩
  · intro j hj
    rw [List.length_append] at hj
    rw [getD_app, getD_app, v.xl, hsl, getD_set r.lt]
    by_cases e : j < ts.length
    · rw [if_pos e, if_pos e, hlw]
      rintro (hh | hh)
      · exact absurd (hh ▸ getD_mem e) hnot
      · obtain ⟨a, b, c, d⟩ := lives_iff.1 hh
        rw [if_neg, r.same _ (by omega)]
        · exact v.thing j e hh
        · intro ee
          have hs := r.ser
          rw [← ee, r.same _ (by omega)] at hs
          exact c hs
    · have e2 : j = ts.length := by simp at hj; omega
      rw [if_neg e, if_neg e, if_pos e2, if_pos e2]
      intro _
      rw [if_pos (Nat.add_sub_cancel ..)]
theorem Inv.full (v : Inv n t ts xs gs) {x : Int} (k : takeT t x = none) : ¬ t.count < n := by
  unfold takeT at k
  rw [Option.map_eq_none_iff] at k
  have := room_none v.ok k
  rw [v.most] at this
  exact this
theorem Inv.keep (v : Inv n t ts xs gs) {j : Nat} {x : Int} (hj : j < ts.length) (h : lives t (ts.getD j ⟨0, 0⟩) = false) : Inv n t ts (xs.set j x) gs where
  ok := v.ok
  most := v.most
  born := v.born
  xl := by rw [List.length_set]; exact v.xl
  gl := v.gl
  place := v.place
  once := v.once
  gone := v.gone
  thing i hi hl := by
    rw [getD_set (by rw [v.xl]; exact hj)]
    by_cases e : i = j
    · subst e; rw [h] at hl; cases hl
    · rw [if_neg e]; exact v.thing i hi hl
theorem nodup_ne {l : List Hd} (h : l.Nodup) {i j : Nat} (hi : i < l.length) (hj : j < l.length) (e : l.getD i ⟨0, 0⟩ = l.getD j ⟨0, 0⟩) : i = j := by
  rw [List.getD_eq_getElem?_getD, List.getD_eq_getElem?_getD, List.getElem?_eq_getElem hi, List.getElem?_eq_getElem hj] at e
  exact (List.getElem_inj h).1 e
theorem lives_same {t : Tab} {a b : Hd} (ha : lives t a = true) (hb : lives t b = true) (e : a.slot - 1 = b.slot - 1) : a = b := by
  obtain ⟨a1, a2, a3, a4⟩ := lives_iff.1 ha
  obtain ⟨b1, b2, b3, b4⟩ := lives_iff.1 hb
  obtain ⟨s, gg⟩ := a
  obtain ⟨s', gg'⟩ := b
  simp only at *
  rw [e] at a4
  simp only [Hd.mk.injEq]
  exact ⟨by omega, by rw [← a4, ← b4]⟩
theorem Inv.set (v : Inv n t ts xs gs) {j : Nat} {x : Int} (hj : j < ts.length) (h : lives t (ts.getD j ⟨0, 0⟩) = true) : Inv n (setIn t ((ts.getD j ⟨0, 0⟩).slot - 1) x) ts (xs.set j x) gs := by
  obtain ⟨a, b, c, d⟩ := lives_iff.1 h
  have hlt : (ts.getD j ⟨0, 0⟩).slot - 1 < t.sl.length := by omega
  have hsl : (setIn t ((ts.getD j ⟨0, 0⟩).slot - 1) x).sl = t.sl.set ((ts.getD j ⟨0, 0⟩).slot - 1) ⟨(t.sl.getD ((ts.getD j ⟨0, 0⟩).slot - 1) ⟨0, 0, 0⟩).gen, (t.sl.getD ((ts.getD j ⟨0, 0⟩).slot - 1) ⟨0, 0, 0⟩).ser, x⟩ := rfl
  refine ⟨Stn.TabOk.setIn v.ok hlt, v.most, v.born, by rw [List.length_set]; exact v.xl, v.gl, ?_, v.once, ?_, ?_⟩
  · intro y hy
    obtain ⟨p, q, r⟩ := v.place y hy
    rw [hsl, List.length_set, getD_set hlt]
    refine ⟨p, q, ?_⟩
    by_cases e : y.slot - 1 = (ts.getD j ⟨0, 0⟩).slot - 1
    · rw [if_pos e]; rw [e] at r; exact r
    · rw [if_neg e]; exact r
  · intro i hi
    rw [set_lives hlt]; exact v.gone i hi
  · intro i hi hl
    rw [set_lives hlt] at hl
    rw [hsl, getD_set hlt, getD_set (by rw [v.xl]; exact hj)]
    by_cases e : i = j
    · subst e; rw [if_pos rfl, if_pos rfl]
    · rw [if_neg e, if_neg, v.thing i hi hl]
      exact fun ee => e (nodup_ne v.once hi hj (lives_same hl h ee))
theorem Inv.free (v : Inv n t ts xs gs) {j i : Nat} (hj : j < ts.length) (h : lives t (ts.getD j ⟨0, 0⟩) = true) (hi : i < t.ord.length) (h0 : t.ord.getD i ⟨0, 0⟩ = ts.getD j ⟨0, 0⟩) :
    Inv n (out t ((ts.getD j ⟨0, 0⟩).slot - 1) i) ts xs (gs.set j 1) := by
  obtain ⟨a, b, c, d⟩ := lives_iff.1 h
  have hlt : (ts.getD j ⟨0, 0⟩).slot - 1 < t.sl.length := by omega
  have hsl : (out t ((ts.getD j ⟨0, 0⟩).slot - 1) i).sl = t.sl.set ((ts.getD j ⟨0, 0⟩).slot - 1) ⟨(t.sl.getD ((ts.getD j ⟨0, 0⟩).slot - 1) ⟨0, 0, 0⟩).gen, 0, 0⟩ := rfl
  refine ⟨Stn.TabOk.out v.ok h hi h0, v.most, v.born, v.xl, by rw [List.length_set]; exact v.gl, ?_, v.once, ?_, ?_⟩
  · intro y hy
    obtain ⟨p, q, r⟩ := v.place y hy
    rw [hsl, List.length_set, getD_set hlt]
    refine ⟨p, q, ?_⟩
    by_cases e : y.slot - 1 = (ts.getD j ⟨0, 0⟩).slot - 1
    · rw [if_pos e]; rw [e] at r; exact r
    · rw [if_neg e]; exact r
  · intro k hk
    rw [out_lives h, getD_set (by rw [v.gl]; exact hj)]
    by_cases e : k = j
    · subst e; rw [if_pos rfl]
      exact ⟨fun hh => absurd hh (by omega), fun hh => absurd rfl hh.2⟩
    · rw [if_neg e, v.gone k hk]
      exact ⟨fun hh => ⟨hh, fun ee => e (nodup_ne v.once hk hj ee)⟩, fun hh => hh.1⟩
  · intro k hk hl
    obtain ⟨h1, h2⟩ := (out_lives h _).1 hl
    rw [hsl, getD_set hlt, if_neg, v.thing k hk h1]
    exact fun ee => h2 (lives_same h1 h ee)
/-- Where a handle that lives stands first in the order. -/
theorem first_in {l : List Hd} {y : Hd} (h : y ∈ l) : ∃ i, i < l.length ∧ l.getD i ⟨0, 0⟩ = y ∧ ∀ j, j < i → l.getD j ⟨0, 0⟩ ≠ y := by
  have h1 : l.findIdx (· == y) < l.length := List.findIdx_lt_length_of_exists ⟨y, h, by simp⟩
  refine ⟨l.findIdx (· == y), h1, ?_, ?_⟩
  · have := List.findIdx_getElem (w := h1)
    rw [List.getD_eq_getElem?_getD, List.getElem?_eq_getElem h1]
    simpa using this
  · intro j hj
    have := List.not_of_lt_findIdx hj
    rw [List.getD_eq_getElem?_getD, List.getElem?_eq_getElem (by omega)]
    simpa using this
end Go.Proofs.Ytijlnlcjlkanaaa.Sto
