/- An element struck out of a row of the call's own. -/
import Derived.Test.YtclcbiiijoeplaaDoorRwo
import Derived.Laws.IdiomCopy
set_option linter.unusedVariables false
namespace Go.Proofs.YtclcbiiijoeplaaDoor.Rwp
open Go.RowKit Rwo

theorem setCells_row {g : Nat} {T : TypeId} : ∀ (vs : List Value) (o : Nat) (w : World) (cs : Array Value), w.heap[g]? = some (.cells cs T (0, 0)) → o + vs.length ≤ cs.size →
    ∃ cs', (w.setCells g o vs).heap[g]? = some (.cells cs' T (0, 0)) ∧ cs'.size = cs.size ∧ cs'.toList = cs.toList.take o ++ vs ++ cs.toList.drop (o + vs.length)
  | [], o, w, cs, h, _ => ⟨cs, h, rfl, by simp⟩
  | v :: vs, o, w, cs, h, hl => by
    rw [List.length_cons] at hl
    have h1 := heap_setCell_same w g o cs T v h
    obtain ⟨cs', h2, h3, h4⟩ := setCells_row vs (o + 1) (w.setCell ⟨g, o, none⟩ v) _ h1 (by rw [Array.size_setIfInBounds]; omega)
    refine ⟨cs', h2, by rw [h3, Array.size_setIfInBounds], ?_⟩
    rw [h4, Array.toList_setIfInBounds]
    have ho : o < cs.toList.length := by rw [Array.length_toList]; omega
    have e1 : (cs.toList.set o v).take (o + 1) = cs.toList.take o ++ [v] := by
      rw [List.take_succ_eq_append_getElem (by rw [List.length_set]; exact ho), List.take_set_of_le (Nat.le_refl _)]
      simp
    have e2 : (cs.toList.set o v).drop (o + 1 + vs.length) = cs.toList.drop (o + (vs.length + 1)) := by
      rw [List.drop_set_of_lt (by omega)]
      congr 1; omega
    rw [e1, e2, List.length_cons]
    simp
theorem below_cells {B g : Nat} {w0 : World} (hg : B ≤ g) : ∀ (vs : List Value) (o : Nat) (w : World), Below B w0 w → Below B w0 (w.setCells g o vs)
  | [], _, _, h => h
  | v :: vs, o, w, h => below_cells hg vs (o + 1) _ (h.setCell (p := ⟨g, o, none⟩) hg v)
/-- One block alone changes. -/
structure Only (g : Nat) (w w' : World) : Prop where
  os : w'.os = w.os
  tape : w'.tape = w.tape
  output : w'.output = w.output
  size : w.heap.size ≤ w'.heap.size
  far : ∀ b, b ≠ g → w'.heap[b]? = w.heap[b]?
theorem Only.refl (g : Nat) (w : World) : Only g w w := ⟨rfl, rfl, rfl, Nat.le_refl _, fun _ _ => rfl⟩
theorem Only.drew {g : Nat} {w w' : World} (h : Only g w w') : Only g w w'.drew := ⟨h.os, h.tape, h.output, h.size, h.far⟩
theorem Only.setCell {g : Nat} {w w' : World} (h : Only g w w') (j : Nat) (v : Value) : Only g w (w'.setCell ⟨g, j, none⟩ v) := by
  have hb := (Below.refl 0 w').setCell (p := ⟨g, j, none⟩) (Nat.zero_le _) v
  exact ⟨hb.os.trans h.os, hb.tape.trans h.tape, hb.output.trans h.output, Nat.le_trans h.size hb.size, fun b hb => (heap_setCell_other w' ⟨g, j, none⟩ b v hb).trans (h.far b hb)⟩
theorem only_cells {g : Nat} {w0 : World} : ∀ (vs : List Value) (o : Nat) (w : World), Only g w0 w → Only g w0 (w.setCells g o vs)
  | [], _, _, h => h
  | v :: vs, o, w, h => only_cells vs (o + 1) _ (h.setCell o v)
theorem some_cells (g : Nat) : ∀ (vs : List Value) (o : Nat) (w : World) (j : Nat), (w.cell? ⟨g, j, none⟩).isSome = true → ((w.setCells g o vs).cell? ⟨g, j, none⟩).isSome = true
  | [], _, _, _, h => h
  | v :: vs, o, w, j, h => by
    refine some_cells g vs (o + 1) _ j ?_
    obtain ⟨u, hu⟩ := Option.isSome_iff_exists.1 h
    obtain ⟨u', hu'⟩ := cell?_setCell_some (w := w) (p := ⟨g, o, none⟩) (x := v) (q := ⟨g, j, none⟩) hu
    rw [hu']; rfl
variable {α : Type} {E : Enc α} {T : TypeId} {B : Nat} {l : List α} {w : World}
/-- The elements behind place i come one place down. -/
theorem moved {b cap n : Nat} (h : Own E T B (.slice (some ⟨b, 0, none⟩) n cap) l w) (i : Nat) (hi : i < l.length) :
    Own E T B (.slice (some ⟨b, 0, none⟩) (l.length - 1) cap) (l.eraseIdx i) (w.setCells b (i * E.z) ((l.drop (i + 1)).flatMap E.f)) := by
  have hlen : (l.eraseIdx i).length = l.length - 1 := List.length_eraseIdx_of_lt hi
  rcases h.2 with ⟨h0, _⟩ | ⟨g, cp, cur, hv, hB, hg, hnc, hcm, hcs, htk⟩
  · simp at h0
  · simp only [Value.slice.injEq, Option.some.injEq, Addr.mk.injEq, and_true] at hv
    obtain ⟨rfl, hn, rfl⟩ := hv
    have hnl : ((l.drop (i + 1)).flatMap E.f).length = (l.length - (i + 1)) * E.z := by rw [flat_length, List.length_drop]
    have hsum : i * E.z + (l.length - (i + 1)) * E.z = (l.length - 1) * E.z := by rw [← Nat.add_mul]; congr 1; omega
    have hle : (l.length - 1) * E.z ≤ cap * E.z := Nat.mul_le_mul_right _ (by omega)
    obtain ⟨cs', h1, h2, h3⟩ := setCells_row ((l.drop (i + 1)).flatMap E.f) (i * E.z) w cur hg (by rw [hnl, hsum, hcs]; exact hle)
    refine ⟨by rw [flat_length], .inr ⟨b, cap, cs', by rw [hlen], hB, h1, by rw [hlen]; omega, hcm, by rw [h2, hcs], ?_⟩⟩
    have hci : cur.toList.take (i * E.z) = (l.take i).flatMap E.f := by
      have e : cur.toList.take (i * E.z) = (cur.toList.take (l.length * E.z)).take (i * E.z) := by
        rw [List.take_take, Nat.min_eq_left (Nat.mul_le_mul_right _ (by omega))]
      rw [e, htk]
      have e2 : l.flatMap E.f = (l.take i).flatMap E.f ++ (l.drop i).flatMap E.f := by rw [← List.flatMap_append, List.take_append_drop]
      rw [e2]
      exact List.take_left' (by rw [flat_length, List.length_take, Nat.min_eq_left (by omega)])
    rw [hlen, h3, hci, List.eraseIdx_eq_take_drop_succ, List.flatMap_append]
    exact List.take_left' (by rw [List.length_append, flat_length, flat_length, List.length_take, List.length_drop, Nat.min_eq_left (by omega), hsum])
/-- A cell behind the row's elements is written. -/
theorem spare {b cap n j : Nat} {u : Value} (h : Own E T B (.slice (some ⟨b, 0, none⟩) n cap) l w) (hj : l.length * E.z ≤ j) : Own E T B (.slice (some ⟨b, 0, none⟩) n cap) l (w.setCell ⟨b, j, none⟩ u) := by
  refine ⟨h.1, h.2.imp id ?_⟩
  rintro ⟨g, cp, cur, hv, hB, hg, hnc, hcm, hcs, htk⟩
  simp only [Value.slice.injEq, Option.some.injEq, Addr.mk.injEq, and_true] at hv
  obtain ⟨rfl, hn, rfl⟩ := hv
  refine ⟨b, cap, _, by rw [hn], hB, heap_setCell_same w b j cur T u hg, hnc, hcm, by rw [Array.size_setIfInBounds]; exact hcs, ?_⟩
  rw [Array.toList_setIfInBounds, List.take_set_of_le (by omega)]
  exact htk
theorem capmax {b cap n : Nat} (h : Own E T B (.slice (some ⟨b, 0, none⟩) n cap) l w) : cap ≤ maxLen ∧ l.length ≤ cap ∧ n = l.length := by
  rcases h.2 with ⟨h0, _⟩ | ⟨g, cp, cur, hv, hB, hg, hnc, hcm, _⟩
  · simp at h0
  · simp only [Value.slice.injEq, Option.some.injEq, Addr.mk.injEq, and_true] at hv
    obtain ⟨rfl, hn, rfl⟩ := hv
    exact ⟨hcm, hnc, hn⟩
theorem flat_drop (l : List α) (k : Nat) (hk : k ≤ l.length) : (l.drop k).flatMap E.f = (l.flatMap E.f).drop (k * E.z) := by
  have e2 : l.flatMap E.f = (l.take k).flatMap E.f ++ (l.drop k).flatMap E.f := by rw [← List.flatMap_append, List.take_append_drop]
  rw [e2]
  exact (List.drop_left' (by rw [flat_length, List.length_take, Nat.min_eq_left hk])).symm
/-- The cells of the elements from place k on. -/
theorem cells_from {b cap n : Nat} (h : Own E T B (.slice (some ⟨b, 0, none⟩) n cap) l w) (k : Nat) (hk : k ≤ l.length) : ∀ j u, ((l.drop k).flatMap E.f)[j]? = some u → w.cell? ((⟨b, k * E.z, none⟩ : Addr).add j) = some u := by
  intro j u hu
  rw [flat_drop l k hk, List.getElem?_drop] at hu
  have h' : w.ownsRow B T E.z (.slice (some ⟨b, 0, none⟩) n cap) l.length (l.flatMap E.f) := h
  have := World.ownsRow.cells h' (g := b) rfl (k * E.z + j) u hu
  rw [Addr.add_lit] at this ⊢
  rw [← this]; congr 2; omega
theorem room_there {b cap n : Nat} (h : Own E T B (.slice (some ⟨b, 0, none⟩) n cap) l w) (i m : Nat) (hm : i + m ≤ l.length) : ∀ j, j < m * E.z → (w.cell? ⟨b, 0 + i * E.z + j, none⟩).isSome = true ∧ w.frozen? ⟨b, 0 + i * E.z + j, none⟩ = false := by
  intro j hj
  have hE := E.pos
  have e : i * E.z + j = (i + j / E.z) * E.z + j % E.z := by rw [Nat.add_mul, Nat.add_assoc, Nat.div_add_mod']
  have h1 : j / E.z < m := (Nat.div_lt_iff_lt_mul hE).2 hj
  have h2 : j % E.z < E.z := Nat.mod_lt _ hE
  rw [Nat.zero_add]
  refine ⟨?_, h.frozen _⟩
  rw [e, h.cell (i + j / E.z) (j % E.z) (by omega) h2]
  rw [List.getElem?_eq_getElem (by rw [E.len]; exact h2)]; rfl
end Go.Proofs.YtclcbiiijoeplaaDoor.Rwp
