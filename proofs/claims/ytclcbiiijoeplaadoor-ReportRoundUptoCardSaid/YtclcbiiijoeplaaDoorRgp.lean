/- report.Rings: the plain parts: the first places, the leads, what is marked. -/
import Derived.Test.YtclcbiiijoeplaaDoorRrg
import Derived.Test.YtclcbiiijoeplaaDoorRmp
import Derived.Test.YtclcbiiijoeplaaDoorRwq
set_option linter.unusedVariables false
namespace Go.Proofs.YtclcbiiijoeplaaDoor.Rgp
open Go.RowKit Go.Sort Rwo Rcy Rsl Rowz Rmp Rrg

/-- The first places after k. -/
def firsts (l : List As) : Nat → HM
  | 0 => []
  | k + 1 => if (findH (firsts l k) (l.getD k as0).ws (l.getD k as0).wg).isSome then firsts l k else firsts l k ++ [(((l.getD k as0).ws, (l.getD k as0).wg), (k : Int))]
theorem findH_app (m : HM) (p : (Int × Int) × Int) (s g : Int) : findH (m ++ [p]) s g = (findH m s g).or (if s == p.1.1 && g == p.1.2 then some p.2 else none) := by
  unfold findH
  rw [List.find?_append]
  cases h : m.find? (fun p => s == p.1.1 && g == p.1.2) with
  | some x => simp
  | none => by_cases h2 : (s == p.1.1 && g == p.1.2) = true <;> simp [h2]
theorem firsts_find (l : List As) (s g : Int) : ∀ k, k ≤ l.length → findH (firsts l k) s g = (firstOf (l.take k) s g).map Int.ofNat
  | 0, _ => by simp [firsts, findH, firstOf]
  | k + 1, hk => by
    have hlt : k < l.length := by omega
    have e : l.take (k + 1) = l.take k ++ [l.getD k as0] := by
      rw [List.take_succ_eq_append_getElem hlt]
      simp [List.getD_eq_getElem?_getD, hlt]
    have ih := firsts_find l s g k (by omega)
    have ih2 := firsts_find l (l.getD k as0).ws (l.getD k as0).wg k (by omega)
    have hf : firstOf (l.take (k + 1)) s g = (firstOf (l.take k) s g).or (if isW (l.getD k as0) s g then some k else none) := by
      unfold firstOf
      rw [e, List.findIdx?_append, List.length_take, Nat.min_eq_left (by omega)]
      congr 1
      simp [List.findIdx?_cons]
    rw [hf]
    unfold firsts
    by_cases hs : (findH (firsts l k) (l.getD k as0).ws (l.getD k as0).wg).isSome = true
    · rw [if_pos hs, ih]
      by_cases hw : isW (l.getD k as0) s g = true
      · have h1 : s = (l.getD k as0).ws ∧ g = (l.getD k as0).wg := by
          unfold isW at hw
          simp only [Bool.and_eq_true, beq_iff_eq] at hw
          exact ⟨hw.1.symm, hw.2.symm⟩
        rw [ih2, ← h1.1, ← h1.2] at hs
        cases hx : firstOf (l.take k) s g with
        | none => rw [hx] at hs; simp at hs
        | some x => simp
      · rw [if_neg hw, Option.or_none]
    · rw [if_neg hs, findH_app, ih]
      have : (s == (l.getD k as0).ws && g == (l.getD k as0).wg) = isW (l.getD k as0) s g := by
        unfold isW
        rw [Bool.eq_iff_iff]
        simp only [Bool.and_eq_true, beq_iff_eq]
        exact ⟨fun h => ⟨h.1.symm, h.2.symm⟩, fun h => ⟨h.1.symm, h.2.symm⟩⟩
      rw [this]
      cases firstOf (l.take k) s g <;> cases isW (l.getD k as0) s g <;> rfl
theorem firsts_all (l : List As) (s g : Int) : findH (firsts l l.length) s g = (firstOf l s g).map Int.ofNat := by rw [firsts_find l s g _ (Nat.le_refl _), List.take_length]
theorem firsts_step_old {l : List As} {k : Nat} (h : (findH (firsts l k) (l.getD k as0).ws (l.getD k as0).wg).isSome = true) : firsts l (k + 1) = firsts l k := by rw [firsts, if_pos h]
theorem firsts_step_new {l : List As} {k : Nat} (h : findH (firsts l k) (l.getD k as0).ws (l.getD k as0).wg = none) : firsts l (k + 1) = firsts l k ++ [(((l.getD k as0).ws, (l.getD k as0).wg), (k : Int))] := by rw [firsts, if_neg (by rw [h]; decide)]
/-- A made row of noughts. -/
theorem own_zero (n : Nat) (hn : n ≤ 1048576) (w : World) : Ints w.heap.size (.slice (some ⟨w.heap.size, 0, none⟩) n n) (List.replicate n 0) (w.alloc (.cells (madeCells #[.int .i64 0] (n * 1)) 3)) := by
  refine Rwq.own_made i64E 0 #[.int .i64 0] rfl ⟨by simp [size_madeCells], .inr ⟨w.heap.size, n, _, rfl, Nat.le_refl _, heap_alloc_new w _, Nat.le_refl _, by unfold maxLen; omega, by rw [size_madeCells]; rfl, ?_⟩⟩
  rw [List.take_of_length_le]
  · rfl
  · rw [Array.length_toList, size_madeCells]; show n * 1 ≤ n * 1; exact Nat.le_refl _
theorem run_mk (n : Nat) (hn : n ≤ 1048576) (w : World) : (Instr.makeSlice 45 (.int .i64 n) (.int .i64 n)).run Tryd.prog w = .ok (.slice (some ⟨w.heap.size, 0, none⟩) n n) (w.alloc (.cells (madeCells #[.int .i64 0] (n * 1)) 3)) := by
  obtain ⟨i0, hi, hz0, hz1, hz2⟩ := info_parts infoInt
  have := run_make (P := Tryd.prog) w 45 3 i0 (.int .i64 0) Tryd.underlying45 hi hz0 .i64 .i64 n n (by omega) (Int.le_refl _) (by rw [hz2]; omega) (by omega)
  rw [hz1] at this
  have e : (Value.int .i64 0).cells = #[Value.int .i64 0] := rfl
  rw [e] at this
  simpa using this
/-- A store into a row of ints. -/
theorem Ints.put {B g n cap : Nat} {l : List Int} {w : World} (h : Ints B (.slice (some ⟨g, 0, none⟩) n cap) l w) {j : Nat} (hj : j < l.length) (x : Int) :
    Ints B (.slice (some ⟨g, 0, none⟩) n cap) (l.set j x) (w.setCell ⟨g, j, none⟩ (.int .i64 x)) ∧ w.frozen? ⟨g, j, none⟩ = false ∧ (∃ u, w.cell? ⟨g, j, none⟩ = some u) := by
  have h1 := Own.store h j 0 (.int .i64 x) x hj (by decide) rfl
  have e : j * i64E.z + 0 = j := by show j * 1 + 0 = j; omega
  rw [e] at h1
  exact ⟨h1, Own.frozen h j, _, Ints.cell h hj⟩
/-- The leads after k, noughts behind. -/
def half (l : List As) (k : Nat) : List Int := tos l k ++ List.replicate (l.length - k) 0
theorem half_length {l : List As} {k : Nat} (h : k ≤ l.length) : (half l k).length = l.length := by unfold half; rw [List.length_append, tos_length, List.length_replicate]; omega
theorem half_zero (l : List As) : half l 0 = List.replicate l.length 0 := by simp [half, tos]
theorem half_all (l : List As) : half l l.length = tos l l.length := by simp [half]
theorem half_step {l : List As} {k : Nat} (h : k < l.length) : (half l k).set k (oi (leadsF l k)) = half l (k + 1) := by
  unfold half
  rw [tos_succ, List.set_append_right _ _ (by rw [tos_length]; exact Nat.le_refl _), tos_length, Nat.sub_self]
  obtain ⟨d, hd⟩ : ∃ d, l.length - k = d + 1 := ⟨l.length - k - 1, by omega⟩
  rw [hd, show l.length - (k + 1) = d by omega, List.replicate_succ, List.set_cons_zero]; simp
end Go.Proofs.YtclcbiiijoeplaaDoor.Rgp
