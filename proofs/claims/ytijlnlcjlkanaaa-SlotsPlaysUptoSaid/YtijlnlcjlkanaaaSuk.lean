/- SlotsPlays' plain law: Free, Set, what All tells. -/
import Derived.Test.YtijlnlcjlkanaaaSuj
import Derived.Test.YtijlnlcjlkanaaaSud
set_option linter.unusedVariables false
namespace Go.Proofs.Ytijlnlcjlkanaaa.Suk
open Go.RowKit Sta Stb Stc Stg Ste Stj Stl Stn Sto Sue Suf Sug Suh Suj

variable {t : Tab} {R : List Th}
theorem split_at {R : List Th} {i : Nat} (hi : i < R.length) (y : Th) : R = R.take i ++ R.getD i th0 :: R.drop (i + 1) ∧ R.set i y = R.take i ++ y :: R.drop (i + 1) := by
  refine ⟨?_, List.set_eq_take_append_cons_drop ▸ (by rw [if_pos hi])⟩
  rw [getD_at hi, ← List.drop_eq_getElem_cons hi, List.take_append_drop]
theorem alive_at {R : List Th} {i : Nat} (hi : i < R.length) (y : Th) :
    (R.filter here).map (·.h) = ((R.take i).filter here).map (·.h) ++ ((if here (R.getD i th0) then [(R.getD i th0).h] else []) ++ ((R.drop (i + 1)).filter here).map (·.h)) ∧
    ((R.set i y).filter here).map (·.h) = ((R.take i).filter here).map (·.h) ++ ((if here y then [y.h] else []) ++ ((R.drop (i + 1)).filter here).map (·.h)) := by
  obtain ⟨h1, h2⟩ := split_at hi y
  constructor
  · conv => lhs; rw [h1]
    rw [List.filter_append, List.map_append, List.filter_cons]
    cases here (R.getD i th0) <;> rfl
  · rw [h2, List.filter_append, List.map_append, List.filter_cons]
    cases here y <;> rfl
theorem map_set_h {R : List Th} {i : Nat} {y : Th} (hi : i < R.length) (hy : y.h = (R.getD i th0).h) : (R.set i y).map (·.h) = R.map (·.h) := by
  obtain ⟨h1, h2⟩ := split_at hi y
  rw [h2]
  conv => rhs; rw [h1]
  rw [List.map_append, List.map_append, List.map_cons, List.map_cons, hy]
theorem taken_set {R : List Th} {i : Nat} {y : Th} (hi : i < R.length) (hy : y.h = (R.getD i th0).h) (s : Nat) : taken (R.set i y) s = taken R s := by
  have h : ∀ L : List Th, taken L s = (L.map (·.h)).countP (fun h => h.slot == s) := fun L => by
    unfold taken; rw [List.countP_map]; rfl
  rw [h, h, map_set_h hi hy]
theorem mem_set_h {R : List Th} {i : Nat} {y s : Th} (hi : i < R.length) (hy : y.h = (R.getD i th0).h) (hs : s ∈ R.set i y) : ∃ s' ∈ R, s'.h = s.h := by
  have h1 : s.h ∈ (R.set i y).map (·.h) := List.mem_map_of_mem hs
  rw [map_set_h hi hy] at h1
  obtain ⟨s', hs', he⟩ := List.mem_map.1 h1
  exact ⟨s', hs', he⟩
theorem once_inj {R : List Th} (hn : (R.map (·.h)).Nodup) {i j : Nat} (hi : i < R.length) (hj : j < R.length) (e : (R.getD j th0).h = (R.getD i th0).h) : j = i := by
  rw [getD_at hj, getD_at hi] at e
  have h1 : j < (R.map (·.h)).length := by rw [List.length_map]; exact hj
  have h2 : i < (R.map (·.h)).length := by rw [List.length_map]; exact hi
  refine (List.getElem_inj (h₀ := h1) (h₁ := h2) hn).1 ?_
  rw [List.getElem_map, List.getElem_map]
  exact e
theorem sim_once (v : Sim t R) : t.ord.Nodup := by
  rw [v.ord]
  exact v.once.sublist (List.filter_sublist.map _)
theorem sim_set (v : Sim t R) {h : Hd} {i : Nat} {x : Int} (hf : findR R h = some i) : Sim (setIn t (h.slot - 1) x) (R.set i ⟨(R.getD i th0).h, x, (R.getD i th0).gone⟩) := by
  obtain ⟨hi, h1, h2, h3, h4, h5⟩ := v.found hf
  obtain ⟨a, b, c, d⟩ := lives_iff.1 h3
  have hlt : h.slot - 1 < t.sl.length := by omega
  have hsl : (setIn t (h.slot - 1) x).sl = t.sl.set (h.slot - 1) ⟨(t.sl.getD (h.slot - 1) ⟨0, 0, 0⟩).gen, (t.sl.getD (h.slot - 1) ⟨0, 0, 0⟩).ser, x⟩ := rfl
  refine ⟨?_, ?_, ?_, ?_, ?_, ?_, ?_⟩
  · rw [List.length_set]; exact Stn.TabOk.setIn v.ok hlt
  · rw [List.length_set]; exact v.born
  · show t.ord = _
    obtain ⟨q1, q2⟩ := alive_at hi ⟨(R.getD i th0).h, x, (R.getD i th0).gone⟩
    rw [q2, v.ord, q1]
    rfl
  · intro s hs
    obtain ⟨s', hs', he⟩ := mem_set_h (y := ⟨(R.getD i th0).h, x, (R.getD i th0).gone⟩) hi rfl hs
    have := v.place s' hs'
    rw [he] at this
    rw [hsl, List.length_set, taken_set (y := ⟨(R.getD i th0).h, x, (R.getD i th0).gone⟩) hi rfl]
    exact this
  · intro j hj
    rw [hsl, List.length_set] at hj
    rw [hsl, getD_set hlt, taken_set (y := ⟨(R.getD i th0).h, x, (R.getD i th0).gone⟩) hi rfl]
    by_cases e : j = h.slot - 1
    · rw [if_pos e]; show (t.sl.getD (h.slot - 1) _).gen = _; rw [← e]; exact v.gen j hj
    · rw [if_neg e]; exact v.gen j hj
  · rw [map_set_h (y := ⟨(R.getD i th0).h, x, (R.getD i th0).gone⟩) hi rfl]; exact v.once
  · intro j hj hg
    rw [List.length_set] at hj
    have hjx : (R.set i ⟨(R.getD i th0).h, x, (R.getD i th0).gone⟩).getD j th0 = if j = i then ⟨(R.getD i th0).h, x, (R.getD i th0).gone⟩ else R.getD j th0 := getD_set hi
    rw [hjx] at hg ⊢
    rw [hsl, getD_set hlt, set_lives hlt]
    by_cases e : j = i
    · subst e
      rw [if_pos rfl]
      simp only
      rw [h1, if_pos rfl]
      exact ⟨h3, rfl, h5⟩
    · rw [if_neg e] at hg ⊢
      obtain ⟨p, q, r⟩ := v.alive j hj hg
      have hne : (R.getD j th0).h.slot - 1 ≠ h.slot - 1 := fun ee => by
        have := lives_same p h3 ee
        rw [← h1] at this
        exact e (once_inj v.once hi hj this)
      rw [if_neg hne]
      exact ⟨p, q, r⟩
theorem sim_free (v : Sim t R) {h : Hd} {i j : Nat} (hf : findR R h = some i) (hj : j < t.ord.length) (h0 : t.ord.getD j ⟨0, 0⟩ = h) : Sim (out t (h.slot - 1) j) (R.set i ⟨(R.getD i th0).h, (R.getD i th0).x, true⟩) := by
  obtain ⟨hi, h1, h2, h3, h4, h5⟩ := v.found hf
  obtain ⟨a, b, c, d⟩ := lives_iff.1 h3
  have hlt : h.slot - 1 < t.sl.length := by omega
  have hsl : (out t (h.slot - 1) j).sl = t.sl.set (h.slot - 1) ⟨(t.sl.getD (h.slot - 1) ⟨0, 0, 0⟩).gen, 0, 0⟩ := rfl
  refine ⟨?_, ?_, ?_, ?_, ?_, ?_, ?_⟩
  · rw [List.length_set]; exact Stn.TabOk.out v.ok h3 hj h0
  · rw [List.length_set]; exact v.born
  · show t.ord.eraseIdx j = _
    obtain ⟨q1, q2⟩ := alive_at hi ⟨(R.getD i th0).h, (R.getD i th0).x, true⟩
    have hh : here (R.getD i th0) = true := by unfold here; rw [h2]; rfl
    rw [hh, if_pos rfl] at q1
    rw [show here ⟨(R.getD i th0).h, (R.getD i th0).x, true⟩ = false from rfl] at q2
    rw [q2]
    have ho := v.ord
    rw [q1, h1] at ho
    obtain ⟨A, hA⟩ : ∃ A, A = ((R.take i).filter here).map (·.h) := ⟨_, rfl⟩
    obtain ⟨B, hB⟩ : ∃ B, B = ((R.drop (i + 1)).filter here).map (·.h) := ⟨_, rfl⟩
    rw [← hA, ← hB] at ho ⊢
    have hAl : A.length < t.ord.length := by rw [ho]; simp
    have hjA : j = A.length := by
      refine nodup_ne (sim_once v) hj hAl ?_
      rw [h0, ho, List.getD_eq_getElem?_getD, List.getElem?_append_right (Nat.le_refl _)]
      simp
    rw [ho, hjA, List.eraseIdx_append_of_length_le (Nat.le_refl _), Nat.sub_self]
    rfl
  · intro s hs
    obtain ⟨s', hs', he⟩ := mem_set_h (y := ⟨(R.getD i th0).h, (R.getD i th0).x, true⟩) hi rfl hs
    have := v.place s' hs'
    rw [he] at this
    rw [hsl, List.length_set, taken_set (y := ⟨(R.getD i th0).h, (R.getD i th0).x, true⟩) hi rfl]
    exact this
  · intro k hk
    rw [hsl, List.length_set] at hk
    rw [hsl, getD_set hlt, taken_set (y := ⟨(R.getD i th0).h, (R.getD i th0).x, true⟩) hi rfl]
    by_cases e : k = h.slot - 1
    · rw [if_pos e]; show (t.sl.getD (h.slot - 1) _).gen = _; rw [← e]; exact v.gen k hk
    · rw [if_neg e]; exact v.gen k hk
  · rw [map_set_h (y := ⟨(R.getD i th0).h, (R.getD i th0).x, true⟩) hi rfl]; exact v.once
  · intro k hk hg
    rw [List.length_set] at hk
    have hkx : (R.set i ⟨(R.getD i th0).h, (R.getD i th0).x, true⟩).getD k th0 = if k = i then ⟨(R.getD i th0).h, (R.getD i th0).x, true⟩ else R.getD k th0 := getD_set hi
    rw [hkx] at hg ⊢
    by_cases e : k = i
    · rw [if_pos e] at hg; cases hg
    · rw [if_neg e] at hg ⊢
      obtain ⟨p, q, r⟩ := v.alive k hk hg
      have hnh : (R.getD k th0).h ≠ h := fun ee => by
        rw [← h1] at ee
        exact e (once_inj v.once hi hk ee)
      have hne : (R.getD k th0).h.slot - 1 ≠ h.slot - 1 := fun ee => hnh (lives_same p h3 ee)
      rw [hsl, getD_set hlt, if_neg hne, out_lives h3]
      exact ⟨⟨p, hnh⟩, q, r⟩
theorem sim_tells (v : Sim t R) : Sud.tells t = (R.filter here).map (fun s => (s.h, s.x)) := by
  unfold Sud.tells
  rw [v.ord, List.map_map]
  apply List.map_congr_left
  intro s hs
  obtain ⟨h1, h2⟩ := List.mem_filter.1 hs
  obtain ⟨j, hj, rfl⟩ := List.getElem_of_mem h1
  have := (v.alive j hj (by rw [getD_at hj]; unfold here at h2; simpa using h2)).2.1
  rw [getD_at hj] at this
  simp only [Function.comp, this]
theorem sim_lives (v : Sim t R) : ∀ h ∈ t.ord, lives t h = true := by
  intro h hh
  rw [v.ord] at hh
  obtain ⟨s, hs, rfl⟩ := List.mem_map.1 hh
  obtain ⟨h1, h2⟩ := List.mem_filter.1 hs
  obtain ⟨j, hj, rfl⟩ := List.getElem_of_mem h1
  have := (v.alive j hj (by rw [getD_at hj]; unfold here at h2; simpa using h2)).1
  rw [getD_at hj] at this
  exact this
end Go.Proofs.Ytijlnlcjlkanaaa.Suk
