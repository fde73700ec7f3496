/- make of a slice of structs: a row of the call's own of so many zero elements. It bears no function of the program. -/
import Derived.Test.YtclcbiiijoeplaaDoorRwp
import Derived.Laws.MakeOwn
set_option linter.unusedVariables false
namespace Go.Proofs.YtclcbiiijoeplaaDoor.Rwq
open Go.RowKit Rwo Rwp
variable {α : Type} {E : Enc α} {T : TypeId} {B : Nat} {l : List α} {w : World}
theorem made_flat (E : Enc α) (d : α) (z : Array Value) (hz : z.toList = E.f d) (n : Nat) : (madeCells z (n * E.z)).toList = (List.replicate n d).flatMap E.f := by
  have hzs : z.size = E.z := by rw [← Array.length_toList, hz, E.len]
  apply List.ext_getElem?
  intro i
  by_cases hi : i < n * E.z
  · have hE := E.pos
    have h1 : i / E.z < n := (Nat.div_lt_iff_lt_mul hE).2 hi
    have h2 : i % E.z < E.z := Nat.mod_lt _ hE
    have e : i / E.z * E.z + i % E.z = i := Nat.div_add_mod' i E.z
    have h3 := flat_at E (List.replicate n d) (i / E.z) (i % E.z) (by simpa using h1) h2
    rw [e] at h3
    have hg : (List.replicate n d).getD (i / E.z) E.d = d := by
      rw [List.getD_eq_getElem?_getD, List.getElem?_replicate_of_lt h1]; rfl
    rw [h3, hg, ← hz]
    unfold madeCells
    rw [Array.toList_map, List.getElem?_map, Array.toList_range, List.getElem?_range hi]
    simp only [Option.map_some, hzs]
    rw [Array.getElem?_toList, Array.getElem?_eq_getElem (by omega), getElem!_pos z _ (by omega)]
  · rw [List.getElem?_eq_none (by rw [Array.length_toList, size_madeCells]; omega), List.getElem?_eq_none (by rw [flat_length, List.length_replicate]; omega)]
/-- What make lays. -/
theorem own_made (E : Enc α) (d : α) (z : Array Value) (hz : z.toList = E.f d) {n : Nat} {v : Value} (h : w.ownsRow B T E.z v n (madeCells z (n * E.z)).toList) : Own E T B v (List.replicate n d) w := by
  unfold Own
  rw [List.length_replicate, ← made_flat E d z hz]
  exact h
end Go.Proofs.YtclcbiiijoeplaaDoor.Rwq
