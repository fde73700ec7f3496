/- SlotsPlays' plain law: the table beside the document's list. -/
import Derived.Test.YtijlnlcjlkanaaaSto
import Derived.Test.YtijlnlcjlkanaaaSui
set_option linter.unusedVariables false
namespace Go.Proofs.Ytijlnlcjlkanaaa.Suj
open Go.RowKit Sta Stb Stc Stg Ste Stj Stl Stn Sto Sue Suf Sug Suh

/-- The table is what the list says. -/
structure Sim (t : Tab) (R : List Th) : Prop where
  ok : TabOk t R.length
  born : t.born = R.length
  ord : t.ord = (R.filter here).map (·.h)
  place : ∀ s ∈ R, 1 ≤ s.h.slot ∧ s.h.slot ≤ t.sl.length ∧ s.h.gen ≤ taken R s.h.slot
  gen : ∀ j, j < t.sl.length → (t.sl.getD j ⟨0, 0, 0⟩).gen = taken R (j + 1)
  once : (R.map (·.h)).Nodup
  alive : ∀ i, i < R.length → (R.getD i th0).gone = false → lives t (R.getD i th0).h = true ∧ (t.sl.getD ((R.getD i th0).h.slot - 1) ⟨0, 0, 0⟩).thing = (R.getD i th0).x ∧ (t.sl.getD ((R.getD i th0).h.slot - 1) ⟨0, 0, 0⟩).ser = i + 1
theorem Sim.start (n : Nat) (h : n ≤ 500) : Sim ⟨[], n, 0, 0, []⟩ [] :=
  ⟨TabOk.new n h, rfl, rfl, fun _ h => absurd h (by simp), fun j h => absurd h (by simp), List.nodup_nil, fun j h => absurd h (by simp)⟩
variable {t : Tab} {R : List Th}
theorem getD_at {R : List Th} {i : Nat} (h : i < R.length) : R.getD i th0 = R[i] := by rw [List.getD_eq_getElem?_getD, List.getElem?_eq_getElem h]; rfl
/-- What is found lives; what lives is found. -/
theorem Sim.found (v : Sim t R) {h : Hd} {i : Nat} (hf : findR R h = some i) : i < R.length ∧ (R.getD i th0).h = h ∧ (R.getD i th0).gone = false ∧ lives t h = true ∧ (t.sl.getD (h.slot - 1) ⟨0, 0, 0⟩).thing = (R.getD i th0).x ∧ (t.sl.getD (h.slot - 1) ⟨0, 0, 0⟩).ser = i + 1 := by
  obtain ⟨hi, hy, _⟩ := find_some hf
  unfold isIt at hy
  simp only [Bool.and_eq_true, decide_eq_true_eq, Bool.not_eq_true'] at hy
  obtain ⟨h1, h2⟩ := hy
  have := v.alive i hi h2
  rw [h1] at this
  exact ⟨hi, h1, h2, this⟩
theorem Sim.none_lives (v : Sim t R) {h : Hd} (hf : findR R h = none) : lives t h = false := by
  cases hl : lives t h with
  | false => rfl
  | true =>
    have h1 := v.ok.all h hl
    rw [v.ord] at h1
    obtain ⟨s, hs, he⟩ := List.mem_map.1 h1
    obtain ⟨hs1, hs2⟩ := List.mem_filter.1 hs
    obtain ⟨j, hj, hje⟩ := List.getElem_of_mem hs1
    have h2 := find_none hf j hj
    rw [getD_at hj, hje] at h2
    unfold isIt at h2
    unfold here at hs2
    rw [decide_eq_true he, Bool.true_and] at h2
    rw [h2] at hs2; cases hs2
/-- A slot that one lives in. -/
theorem Sim.used_iff (v : Sim t R) (s : Nat) : used R s = true ↔ 1 ≤ s ∧ s ≤ t.sl.length ∧ (t.sl.getD (s - 1) ⟨0, 0, 0⟩).ser ≠ 0 := by
  unfold used
  rw [List.any_eq_true]
  constructor
  · rintro ⟨x, hx, hu⟩
    unfold usedBy inSlot here at hu
    simp only [Bool.and_eq_true, beq_iff_eq, Bool.not_eq_true'] at hu
    obtain ⟨j, hj, hje⟩ := List.getElem_of_mem hx
    have h1 := v.alive j hj (by rw [getD_at hj, hje]; exact hu.2)
    rw [getD_at hj, hje] at h1
    obtain ⟨a, b, c, d⟩ := lives_iff.1 h1.1
    rw [hu.1] at a b c
    exact ⟨a, b, c⟩
  · rintro ⟨a, b, c⟩
    have hl : lives t ⟨s, (t.sl.getD (s - 1) ⟨0, 0, 0⟩).gen⟩ = true := lives_iff.2 ⟨a, b, c, rfl⟩
    have h1 := v.ok.all _ hl
    rw [v.ord] at h1
    obtain ⟨x, hx, he⟩ := List.mem_map.1 h1
    obtain ⟨hx1, hx2⟩ := List.mem_filter.1 hx
    refine ⟨x, hx1, ?_⟩
    unfold usedBy inSlot
    rw [he, hx2]
    simp
theorem taken_app (R : List Th) (y : Th) (s : Nat) : taken (R ++ [y]) s = taken R s + (if inSlot s y then 1 else 0) := by
  unfold taken
  rw [List.countP_append]
  simp [List.countP_cons]
theorem taken_zero (R : List Th) (s : Nat) (h : ∀ x ∈ R, x.h.slot ≠ s) : taken R s = 0 := by
  unfold taken
  rw [List.countP_eq_zero]
  intro x hx
  have := h x hx
  unfold inSlot
  simpa using this
/-- Take, of both. -/
theorem Sim.take (v : Sim t R) {x : Int} {t' : Tab} {h : Hd} (k : takeT t x = some (t', h)) :
    Sim t' (R ++ [⟨h, x, false⟩]) ∧ 1 ≤ h.slot ∧ h.slot ≤ t.most ∧ used R h.slot = false ∧ (∀ s, 1 ≤ s → s < h.slot → used R s = true) ∧ 1 + taken R h.slot = h.gen := by
  unfold takeT at k
  obtain ⟨⟨u, i⟩, hr, he⟩ := Option.map_eq_some_iff.1 k
  simp only [Prod.mk.injEq] at he
  obtain ⟨rfl, rfl⟩ := he
  have r := room_some v.ok hr
  have hlw : ∀ h, lives (laidIn u i x) h = true ↔ h = ⟨i + 1, (u.sl.getD i ⟨0, 0, 0⟩).gen + 1⟩ ∨ lives t h = true := fun h => by rw [← r.lives]; exact laid_lives r.lt r.ser h
  have hsl : (laidIn u i x).sl = u.sl.set i ⟨(u.sl.getD i ⟨0, 0, 0⟩).gen + 1, u.born + 1, x⟩ := rfl
  -- what the slot was
  have hcase : (firstFree t.sl = some i ∧ u = t) ∨ (firstFree t.sl = none ∧ u = wider t ∧ i = t.sl.length) := by
    unfold room at hr
    cases hf : firstFree t.sl with
    | some j =>
      rw [hf] at hr
      simp only [Option.some.injEq, Prod.mk.injEq] at hr
      exact .inl ⟨by rw [hr.2], hr.1.symm⟩
    | none =>
      rw [hf] at hr
      by_cases hm : t.sl.length < t.most
      · simp only [if_pos hm, Option.some.injEq, Prod.mk.injEq] at hr
        exact .inr ⟨rfl, hr.1.symm, hr.2.symm⟩
      · simp only [if_neg hm] at hr; cases hr
  have hgen : (u.sl.getD i ⟨0, 0, 0⟩).gen = taken R (i + 1) := by
    rcases hcase with ⟨hf, rfl⟩ | ⟨hf, rfl, rfl⟩
    · exact v.gen i r.lt
    · have e1 : (wider t).sl = t.sl ++ [⟨0, 0, 0⟩] := rfl
      rw [e1, getD_app, if_neg (Nat.lt_irrefl _), if_pos rfl]
      exact (taken_zero R _ (fun s hs => by have := (v.place s hs).2.1; omega)).symm
  have hnu : used R (i + 1) = false := by
    cases hu : used R (i + 1) with
    | false => rfl
    | true =>
      obtain ⟨a, b, c⟩ := (v.used_iff _).1 hu
      rw [Nat.add_sub_cancel] at c
      have hs := r.ser
      rw [r.same i (by omega)] at hs
      exact absurd hs c
  have hall : ∀ s, 1 ≤ s → s < i + 1 → used R s = true := by
    intro s h1 h2
    rw [v.used_iff]
    rcases hcase with ⟨hf, rfl⟩ | ⟨hf, rfl, rfl⟩
    · obtain ⟨q1, q2, q3⟩ := free_some hf
      exact ⟨h1, by omega, q3 (s - 1) (by omega)⟩
    · exact ⟨h1, by omega, free_none hf (s - 1) (by omega)⟩
  have hnot : (⟨i + 1, (u.sl.getD i ⟨0, 0, 0⟩).gen + 1⟩ : Hd) ∉ R.map (·.h) := fun hm => by
    obtain ⟨s, hs, he⟩ := List.mem_map.1 hm
    have := (v.place s hs).2.2
    rw [he] at this
    simp only at this
    omega
  have hlen := r.len
  have hle := r.le
  refine ⟨⟨?_, ?_, ?_, ?_, ?_, ?_, ?_⟩, Nat.le_add_left _ _, by show i + 1 ≤ t.most; have := r.lt; omega, hnu, hall, by show 1 + taken R (i + 1) = _ + 1; rw [hgen]; omega⟩
  · rw [List.length_append]; exact Stn.TabOk.laid v.ok r
  · show u.born + 1 = _; rw [r.born, v.born, List.length_append]; rfl
  · show u.ord ++ [_] = _
    rw [r.ord, v.ord, List.filter_append, List.map_append]
    rfl
  · intro s hs
    rw [hsl, List.length_set, taken_app]
    rcases List.mem_append.1 hs with h1 | h1
    · obtain ⟨a, b, c⟩ := v.place s h1
      exact ⟨a, by omega, by omega⟩
    · rw [List.mem_singleton.1 h1]
      refine ⟨Nat.le_add_left _ _, r.lt, ?_⟩
      show _ + 1 ≤ taken R (i + 1) + _
      rw [hgen]
      simp [inSlot]
  · intro j hj
    rw [hsl, List.length_set] at hj
    rw [hsl, getD_set r.lt, taken_app]
    by_cases e : j = i
    · subst e
      rw [if_pos rfl]
      have : inSlot (j + 1) ⟨⟨j + 1, (u.sl.getD j ⟨0, 0, 0⟩).gen + 1⟩, x, false⟩ = true := by unfold inSlot; simp
      rw [this]
      show _ + 1 = _ + 1
      rw [hgen]
    · have : inSlot (j + 1) ⟨⟨i + 1, (u.sl.getD i ⟨0, 0, 0⟩).gen + 1⟩, x, false⟩ = false := by unfold inSlot; simp; omega
      rw [if_neg e, this]
      rcases hcase with ⟨hf, rfl⟩ | ⟨hf, rfl, rfl⟩
      · exact v.gen j hj
      · rw [r.same j (by have e1 : (wider t).sl.length = t.sl.length + 1 := by show (t.sl ++ [_]).length = _; rw [List.length_append]; rfl
                         omega)]
        exact v.gen j (by have e1 : (wider t).sl.length = t.sl.length + 1 := by show (t.sl ++ [_]).length = _; rw [List.length_append]; rfl
                          omega)
  · rw [List.map_append]
    exact List.nodup_append.2 ⟨v.once, by simp, fun a ha b hb => by
      have hb := List.mem_singleton.1 hb
      intro e
      have e' : a = (⟨i + 1, (u.sl.getD i ⟨0, 0, 0⟩).gen + 1⟩ : Hd) := e.trans hb
      exact hnot (by rw [← e']; exact ha)⟩
  · intro j hj hg
    rw [List.length_append] at hj
    have hjx : (R ++ [(⟨⟨i + 1, (u.sl.getD i ⟨0, 0, 0⟩).gen + 1⟩, x, false⟩ : Th)]).getD j th0 = if j < R.length then R.getD j th0 else if j = R.length then ⟨⟨i + 1, (u.sl.getD i ⟨0, 0, 0⟩).gen + 1⟩, x, false⟩ else th0 := getD_app
    rw [hjx] at hg ⊢
    rw [hsl, getD_set r.lt, hlw]
    by_cases e : j < R.length
    · rw [if_pos e] at hg ⊢
      obtain ⟨a, b, c⟩ := v.alive j e hg
      obtain ⟨p, q, s, y⟩ := lives_iff.1 a
      have hne : (R.getD j th0).h.slot - 1 ≠ i := fun ee => by
        have hs := r.ser
        rw [← ee, r.same ((R.getD j th0).h.slot - 1) (by omega)] at hs
        exact s hs
      rw [if_neg hne, r.same ((R.getD j th0).h.slot - 1) (by omega)]
      exact ⟨.inr a, b, c⟩
    · have e2 : j = R.length := by simp at hj; omega
      rw [if_neg e, if_pos e2, if_pos (Nat.add_sub_cancel ..)]
      refine ⟨.inl rfl, rfl, ?_⟩
      show u.born + 1 = j + 1
      rw [r.born, v.born, e2]
theorem Sim.full (v : Sim t R) {x : Int} (k : takeT t x = none) : ∀ s, 1 ≤ s → s ≤ t.most → used R s = true := by
  unfold takeT at k
  rw [Option.map_eq_none_iff] at k
  unfold room at k
  cases hf : firstFree t.sl with
  | some j => rw [hf] at k; cases k
  | none =>
    rw [hf] at k
    by_cases hm : t.sl.length < t.most
    · simp only [if_pos hm] at k; cases k
    · intro s h1 h2
      rw [v.used_iff]
      exact ⟨h1, by omega, free_none hf (s - 1) (by omega)⟩
/-- What All tells, by the list. -/
theorem Sim.count (v : Sim t R) : R.countP here = t.count := by
  rw [List.countP_eq_length_filter, ← v.ok.ord, v.ord, List.length_map]
end Go.Proofs.Ytijlnlcjlkanaaa.Suj
