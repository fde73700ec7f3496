/- SlotsNever's plain law: what a table and the lists of the law keep. -/
import Derived.Test.YtijlnlcjlkanaaaVtl
set_option linter.unusedVariables false
namespace Go.Proofs.Ytijlnlcjlkanaaa.Vtn
open Sta (Hd hdE Step below_drewN below_drewN_up blk_cells)
open Go.RowKit Rwo Vta Vtb Vtc Vtd Vtg Vte Rwp Sti Vtj Vtk Vtl

theorem getD_set {α : Type} {l : List α} {i j : Nat} {y d : α} (hi : i < l.length) : (l.set i y).getD j d = if j = i then y else l.getD j d := by
  by_cases h : j = i
  · subst h; rw [if_pos rfl, List.getD_eq_getElem?_getD, List.getElem?_set_self hi]; rfl
  · rw [if_neg h, List.getD_eq_getElem?_getD, List.getD_eq_getElem?_getD, List.getElem?_set_ne (fun e => h e.symm)]
theorem getD_app {α : Type} {l : List α} {j : Nat} {y d : α} : (l ++ [y]).getD j d = if j < l.length then l.getD j d else if j = l.length then y else d := by
  by_cases h : j < l.length
  · rw [if_pos h, List.getD_eq_getElem?_getD, List.getElem?_append_left h, List.getD_eq_getElem?_getD]
  · rw [if_neg h]
    by_cases h2 : j = l.length
    · subst h2; rw [if_pos rfl, List.getD_eq_getElem?_getD]; simp
    · rw [if_neg h2, List.getD_eq_getElem?_getD, List.getElem?_eq_none (by simp; omega)]; rfl
theorem getD_mem {α : Type} {l : List α} {j : Nat} {d : α} (h : j < l.length) : l.getD j d ∈ l := by
  rw [List.getD_eq_getElem?_getD, List.getElem?_eq_getElem h]; exact List.getElem_mem _
theorem countP_getD {l : List Sl} {i : Nat} {y : Sl} (hi : i < l.length) : (l.set i y).countP occ + (if occ (l.getD i ⟨0, 0, th0⟩) then 1 else 0) = l.countP occ + (if occ y then 1 else 0) := by
  have e : l.getD i ⟨0, 0, th0⟩ = l[i] := by rw [List.getD_eq_getElem?_getD, List.getElem?_eq_getElem hi]; rfl
  rw [e, List.countP_set hi]
  have : (if occ l[i] = true then 1 else 0) ≤ l.countP occ := by
    by_cases h : occ l[i] = true
    · rw [if_pos h]; exact List.countP_pos_iff.2 ⟨_, List.getElem_mem hi, h⟩
    · rw [if_neg h]; exact Nat.zero_le _
  omega
/-- What is known of the slot that Take takes. -/
structure Room (t u : Tab) (i k : Nat) : Prop where
  lt : i < u.sl.length
  ser : (u.sl.getD i ⟨0, 0, th0⟩).ser = 0
  most : u.most = t.most
  count : u.count = t.count
  born : u.born = t.born
  ord : u.ord = t.ord
  le : t.sl.length ≤ u.sl.length
  len : u.sl.length ≤ t.most
  same : ∀ j, j < t.sl.length → u.sl.getD j ⟨0, 0, th0⟩ = t.sl.getD j ⟨0, 0, th0⟩
  gen : ∀ s ∈ u.sl, s.gen ≤ k ∧ s.ser ≤ k
  occs : u.sl.countP occ = t.sl.countP occ
  lives : ∀ h, lives u h = lives t h
  less : t.count < t.most
theorem not_all {l : List Sl} {i : Nat} (hi : i < l.length) (h : (l.getD i ⟨0, 0, th0⟩).ser = 0) : l.countP occ < l.length := by
  have h1 := List.countP_le_length (p := occ) (l := l)
  rcases Nat.lt_or_ge (l.countP occ) l.length with h2 | h2
  · exact h2
  · have h3 := List.countP_eq_length.1 (Nat.le_antisymm h1 h2)
    have h4 := h3 _ (getD_mem (d := ⟨0, 0, th0⟩) hi)
    unfold occ at h4
    rw [h] at h4; cases h4
theorem room_some {t u : Tab} {i k : Nat} (g : TabOk t k) (h : room t = some (u, i)) : Room t u i k := by
  unfold room at h
  cases hf : firstFree t.sl with
  | some i' =>
    rw [hf] at h
    simp only [Option.some.injEq, Prod.mk.injEq] at h
    obtain ⟨rfl, rfl⟩ := h
    obtain ⟨h1, h2, _⟩ := free_some hf
    refine ⟨h1, h2, rfl, rfl, rfl, rfl, Nat.le_refl _, g.len, fun _ _ => rfl, g.gen, rfl, fun _ => rfl, ?_⟩
    have := not_all h1 h2; have := g.count; have := g.len; omega
  | none =>
    rw [hf] at h
    by_cases hm : t.sl.length < t.most
    · simp only [if_pos hm, Option.some.injEq, Prod.mk.injEq] at h
      obtain ⟨rfl, rfl⟩ := h
      have hw : (wider t).sl = t.sl ++ [⟨0, 0, th0⟩] := rfl
      have hl : (wider t).sl.length = t.sl.length + 1 := by rw [hw, List.length_append]; rfl
      have hn : (wider t).sl.getD t.sl.length ⟨0, 0, th0⟩ = ⟨0, 0, th0⟩ := by rw [hw, getD_app, if_neg (Nat.lt_irrefl _), if_pos rfl]
      have hs : ∀ j, j < t.sl.length → (wider t).sl.getD j ⟨0, 0, th0⟩ = t.sl.getD j ⟨0, 0, th0⟩ := fun j hj => by rw [hw, getD_app, if_pos hj]
      refine ⟨by rw [hl]; exact Nat.lt_succ_self _, by rw [hn], rfl, rfl, rfl, rfl, by omega, by rw [hl]; exact hm, hs, ?_, ?_, ?_, ?_⟩
      · intro s hs
        rw [hw] at hs
        rcases List.mem_append.1 hs with h1 | h1
        · exact g.gen s h1
        · rw [List.mem_singleton.1 h1]; exact ⟨Nat.zero_le _, Nat.zero_le _⟩
      · rw [hw, List.countP_append]; rfl
      · intro h
        rw [Bool.eq_iff_iff, lives_iff, lives_iff, hl]
        constructor
        · rintro ⟨a, b, c, d⟩
          by_cases hb : h.slot ≤ t.sl.length
          · rw [hs _ (by omega)] at c d; exact ⟨a, hb, c, d⟩
          · rw [show h.slot - 1 = t.sl.length from by omega, hn] at c
            exact absurd rfl c
        · rintro ⟨a, b, c, d⟩
          rw [hs _ (by omega)]
          exact ⟨a, by omega, c, d⟩
      · have := g.count; have := List.countP_le_length (p := occ) (l := t.sl); omega
    · simp only [if_neg hm] at h; cases h
theorem room_none {t : Tab} {k : Nat} (g : TabOk t k) (h : room t = none) : ¬ t.count < t.most := by
  unfold room at h
  cases hf : firstFree t.sl with
  | some i' => rw [hf] at h; cases h
  | none =>
    rw [hf] at h
    by_cases hm : t.sl.length < t.most
    · simp only [if_pos hm] at h; cases h
    · have h1 : t.sl.countP occ = t.sl.length := List.countP_eq_length.2 fun s hs => by
        obtain ⟨j, hj, rfl⟩ := List.getElem_of_mem hs
        have := free_none hf j hj
        rw [List.getD_eq_getElem?_getD, List.getElem?_eq_getElem hj] at this
        unfold occ
        simpa using this
      have := g.count; omega
theorem laid_lives {u : Tab} {i : Nat} {x : Th} (hi : i < u.sl.length) (h0 : (u.sl.getD i ⟨0, 0, th0⟩).ser = 0) (h : Hd) :
    lives (laidIn u i x) h = true ↔ h = ⟨i + 1, (u.sl.getD i ⟨0, 0, th0⟩).gen + 1⟩ ∨ lives u h = true := by
  rw [lives_iff, lives_iff]
  show 1 ≤ h.slot ∧ h.slot ≤ (u.sl.set i _).length ∧ ((u.sl.set i _).getD _ _).ser ≠ 0 ∧ ((u.sl.set i _).getD _ _).gen = h.gen ↔ _
  rw [List.length_set, getD_set hi]
  by_cases e : h.slot - 1 = i
  · rw [if_pos e, e]
    constructor
    · rintro ⟨a, b, c, d⟩
      left
      obtain ⟨s, gg⟩ := h
      simp only at a d e ⊢
      rw [← d]
      simp only [Hd.mk.injEq, and_true]; omega
    · rintro (rfl | ⟨a, b, c, d⟩)
      · exact ⟨Nat.le_add_left _ _, hi, Nat.succ_ne_zero _, rfl⟩
      · exact absurd h0 c
  · rw [if_neg e]
    constructor
    · intro hh; exact .inr hh
    · rintro (rfl | hh)
      · exact absurd (Nat.add_sub_cancel ..) e
      · exact hh
theorem set_lives {t : Tab} {j : Nat} {x : Th} (hj : j < t.sl.length) (h : Hd) : lives (setIn t j x) h = lives t h := by
  rw [Bool.eq_iff_iff, lives_iff, lives_iff]
  show 1 ≤ h.slot ∧ h.slot ≤ (t.sl.set j _).length ∧ ((t.sl.set j _).getD _ _).ser ≠ 0 ∧ ((t.sl.set j _).getD _ _).gen = h.gen ↔ _
  rw [List.length_set, getD_set hj]
  by_cases e : h.slot - 1 = j
  · rw [if_pos e, e]
  · rw [if_neg e]
theorem out_lives {t : Tab} {i : Nat} {y : Hd} (hy : lives t y = true) (h : Hd) : lives (out t (y.slot - 1) i) h = true ↔ lives t h = true ∧ h ≠ y := by
  obtain ⟨y1, y2, y3, y4⟩ := lives_iff.1 hy
  have hj : y.slot - 1 < t.sl.length := by omega
  rw [lives_iff, lives_iff]
  show 1 ≤ h.slot ∧ h.slot ≤ (t.sl.set _ _).length ∧ ((t.sl.set _ _).getD _ _).ser ≠ 0 ∧ ((t.sl.set _ _).getD _ _).gen = h.gen ↔ _
  rw [List.length_set, getD_set hj]
  by_cases e : h.slot - 1 = y.slot - 1
  · rw [if_pos e, e]
    constructor
    · rintro ⟨a, b, c, d⟩; exact absurd rfl c
    · rintro ⟨⟨a, b, c, d⟩, ne⟩
      refine absurd ?_ ne
      obtain ⟨s, gg⟩ := h
      obtain ⟨s', gg'⟩ := y
      simp only at *
      simp only [Hd.mk.injEq]
      exact ⟨by omega, by rw [← d, ← y4]⟩
  · rw [if_neg e]
    constructor
    · intro hh; exact ⟨hh, fun ee => e (by rw [ee])⟩
    · exact fun hh => hh.1
theorem mem_erase {l : List Hd} {i : Nat} {y h : Hd} (hi : i < l.length) (hy : l.getD i ⟨0, 0⟩ = y) (hh : h ∈ l) (hne : h ≠ y) : h ∈ l.eraseIdx i := by
  rw [List.mem_eraseIdx_iff_getElem?]
  obtain ⟨j, hj, rfl⟩ := List.getElem_of_mem hh
  refine ⟨j, fun e => ?_, List.getElem?_eq_getElem hj⟩
  subst e
  apply hne
  rw [← hy, List.getD_eq_getElem?_getD, List.getElem?_eq_getElem hj]; rfl
theorem TabOk.laid {t u : Tab} {i k : Nat} {x : Th} (g : TabOk t k) (r : Room t u i k) : TabOk (laidIn u i x) (k + 1) where
  len := by show (u.sl.set i _).length ≤ u.most; rw [List.length_set, r.most]; exact r.len
  most := by show u.most ≤ 500; rw [r.most]; exact g.most
  born := by show u.born + 1 ≤ _; rw [r.born]; have := g.born; omega
  ord := by show (u.ord ++ [_]).length = u.count + 1; rw [List.length_append, r.ord, g.ord, r.count]; rfl
  count := by
    show (u.sl.set i _).countP occ = u.count + 1
    have h1 := countP_getD (y := ⟨(u.sl.getD i ⟨0, 0, th0⟩).gen + 1, u.born + 1, x⟩) r.lt
    have h2 : occ (u.sl.getD i ⟨0, 0, th0⟩) = false := by unfold occ; rw [r.ser]; rfl
    rw [h2] at h1
    have h3 : occ ⟨(u.sl.getD i ⟨0, 0, th0⟩).gen + 1, u.born + 1, x⟩ = true := by unfold occ; simp
    rw [h3] at h1
    have := r.occs; have := g.count; have := r.count
    simp at h1 ⊢; omega
  gen s hs := by
    rcases List.mem_or_eq_of_mem_set hs with h | rfl
    · have := r.gen s h; omega
    · have := (r.gen _ (getD_mem (d := ⟨0, 0, th0⟩) r.lt)).1
      have h2 := g.born; have h3 := r.born
      show _ + 1 ≤ _ ∧ u.born + 1 ≤ _; omega
  all h hl := by
    show h ∈ u.ord ++ [_]
    rcases (laid_lives r.lt r.ser h).1 hl with rfl | h1
    · simp
    · rw [r.lives] at h1
      rw [r.ord]; exact List.mem_append_left _ (g.all h h1)
theorem TabOk.setIn {t : Tab} {j k : Nat} {x : Th} (g : TabOk t k) (hj : j < t.sl.length) : TabOk (setIn t j x) k where
  len := by show (t.sl.set j _).length ≤ t.most; rw [List.length_set]; exact g.len
  most := g.most
  born := g.born
  ord := g.ord
  count := by
    show (t.sl.set j _).countP occ = t.count
    have h1 := countP_getD (y := ⟨(t.sl.getD j ⟨0, 0, th0⟩).gen, (t.sl.getD j ⟨0, 0, th0⟩).ser, x⟩) hj
    have h2 : occ ⟨(t.sl.getD j ⟨0, 0, th0⟩).gen, (t.sl.getD j ⟨0, 0, th0⟩).ser, x⟩ = occ (t.sl.getD j ⟨0, 0, th0⟩) := rfl
    rw [h2] at h1
    have := g.count
    omega
  gen s hs := by
    rcases List.mem_or_eq_of_mem_set hs with h | rfl
    · exact g.gen s h
    · have hh := g.gen _ (getD_mem (d := ⟨0, 0, th0⟩) hj)
      exact ⟨hh.1, hh.2⟩
  all h hl := by rw [set_lives hj] at hl; exact g.all h hl
theorem TabOk.out {t : Tab} {i k : Nat} {y : Hd} (g : TabOk t k) (hy : lives t y = true) (hi : i < t.ord.length) (h0 : t.ord.getD i ⟨0, 0⟩ = y) : TabOk (out t (y.slot - 1) i) k where
  len := by show (t.sl.set _ _).length ≤ t.most; rw [List.length_set]; exact g.len
  most := g.most
  born := g.born
  ord := by
    show (t.ord.eraseIdx i).length = t.count - 1
    rw [List.length_eraseIdx_of_lt hi, g.ord]
  count := by
    obtain ⟨y1, y2, y3, y4⟩ := lives_iff.1 hy
    have hj : y.slot - 1 < t.sl.length := by omega
    show (t.sl.set _ _).countP occ = t.count - 1
    have h1 := countP_getD (y := ⟨(t.sl.getD (y.slot - 1) ⟨0, 0, th0⟩).gen, 0, th0⟩) hj
    have h2 : occ (t.sl.getD (y.slot - 1) ⟨0, 0, th0⟩) = true := by unfold occ; simpa using y3
    have h3 : occ ⟨(t.sl.getD (y.slot - 1) ⟨0, 0, th0⟩).gen, 0, th0⟩ = false := rfl
    rw [h2, h3] at h1
    have := g.count
    simp at h1 ⊢
    omega
  gen s hs := by
    obtain ⟨y1, y2, y3, y4⟩ := lives_iff.1 hy
    rcases List.mem_or_eq_of_mem_set hs with h | rfl
    · exact g.gen s h
    · exact ⟨(g.gen _ (getD_mem (d := ⟨0, 0, th0⟩) (by omega : y.slot - 1 < t.sl.length))).1, Nat.zero_le _⟩
  all h hl := by
    obtain ⟨h1, h2⟩ := (out_lives hy h).1 hl
    exact mem_erase hi h0 (g.all h h1) h2
end Go.Proofs.Ytijlnlcjlkanaaa.Vtn
