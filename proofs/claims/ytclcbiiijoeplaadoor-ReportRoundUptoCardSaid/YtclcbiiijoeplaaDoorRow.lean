/- Rows of ints that the call owns, and rows of such rows. -/
import Derived.Test.YtclcbiiijoeplaaDoorRwo
import Derived.Lib.Hide
set_option linter.unusedVariables false
namespace Go.Proofs.YtclcbiiijoeplaaDoor.Rowz
open Go.RowKit Rwo

def i64E : Enc Int where
  z := 1
  f x := [.int .i64 x]
  d := 0
  len _ := rfl
  pos := by decide
  one x u h := by
    simp only [List.mem_cons, List.not_mem_nil, or_false] at h
    subst h; rfl
theorem infoInt : (Tryd.prog.info? 3).map (fun i => (i.zero, i.size, i.bytes)) = some (some (.int .i64 0), 1, 8) := by kernel_rfl
theorem infoInts : (Tryd.prog.info? 45).map (fun i => (i.zero, i.size, i.bytes)) = some (some (.slice none 0 0), 1, 24) := by kernel_rfl
structure SV where
  a : Option Addr
  n : Nat
  c : Nat
abbrev SV.val (s : SV) : Value := .slice s.a s.n s.c
def sv0 : SV := ⟨none, 0, 0⟩
def slE : Enc SV where
  z := 1
  f s := [s.val]
  d := sv0
  len _ := rfl
  pos := by decide
  one x u h := by
    simp only [List.mem_cons, List.not_mem_nil, or_false] at h
    subst h; rfl
abbrev Ints (B : Nat) (v : Value) (l : List Int) (w : World) : Prop := Own i64E 3 B v l w
/-- A row of rows, no two in one block. -/
structure RowsI (B : Nat) (v : Value) (L : List (List Int)) (vs : List SV) (w : World) : Prop where
  out : Own slE 45 B v vs w
  len : vs.length = L.length
  each : ∀ j, j < vs.length → Ints B (vs.getD j sv0).val (L.getD j []) w
  apart : ∀ i j, i < j → j < vs.length → ∀ b, (vs.getD i sv0).val.ownBlock = some b → (vs.getD j sv0).val.ownBlock ≠ some b
theorem RowsI.nil (B : Nat) (w : World) : RowsI B (.slice none 0 0) [] [] w := ⟨Own.nil .., rfl, fun j hj => absurd hj (by simp), fun i j h1 h2 => absurd h2 (by simp)⟩
theorem RowsI.below {B B' : Nat} {v : Value} {L : List (List Int)} {vs : List SV} {w w' : World} (h : RowsI B v L vs w) (hb : Below B' w w') (hB : w.heap.size ≤ B') : RowsI B v L vs w' :=
  ⟨h.out.below hb hB, h.len, fun j hj => (h.each j hj).below hb hB, h.apart⟩
theorem getD_snoc {α : Type} {l : List α} {x d : α} {j : Nat} : (l ++ [x]).getD j d = if j < l.length then l.getD j d else if j = l.length then x else d := by
  simp only [List.getD_eq_getElem?_getD]
  by_cases h : j < l.length
  · rw [if_pos h, List.getElem?_append_left h]
  · rw [if_neg h]
    by_cases h2 : j = l.length
    · subst h2; simp
    · rw [if_neg h2, List.getElem?_eq_none (by simp; omega)]; rfl
/-- One row more: the outer row has been appended to, the inner one lies apart from all. -/
theorem RowsI.push {B B2 : Nat} {v v' : Value} {L : List (List Int)} {vs : List SV} {w w' : World} {s : SV} {l : List Int} (h : RowsI B v L vs w) (hs : Ints B s.val l w)
    (hap : ∀ j, j < vs.length → ∀ b, (vs.getD j sv0).val.ownBlock = some b → s.val.ownBlock ≠ some b)
    (ho : Own slE 45 B v' (vs ++ [s]) w') (hfar : ∀ b, b < w.heap.size → v.ownBlock ≠ some b → w'.heap[b]? = w.heap[b]?) : RowsI B v' (L ++ [l]) (vs ++ [s]) w' := by
  have keep : ∀ {u : Value} {k : List Int}, Ints B u k w → Ints B u k w' := fun {u k} hu => hu.kept fun b hb => hfar b (hu.lt hb).2 (fun e => h.out.apart hu (by decide) e hb)
  refine ⟨ho, by simp [h.len], fun j hj => ?_, fun i j hij hj b hb => ?_⟩
  · rw [getD_snoc, getD_snoc, ← h.len]
    by_cases hjl : j < vs.length
    · rw [if_pos hjl, if_pos hjl]; exact keep (h.each j hjl)
    · have : j = vs.length := by simp at hj; omega
      subst this
      simp only [Nat.lt_irrefl, if_false, if_true]; exact keep hs
  · simp only [List.length_append, List.length_singleton] at hj
    rw [getD_snoc] at hb ⊢
    rw [if_pos (by omega)] at hb
    by_cases hjl : j < vs.length
    · rw [if_pos hjl]; exact h.apart i j hij hjl b hb
    · rw [if_neg hjl, if_pos (by omega)]
      exact hap i (by omega) b hb
/-- A row of one that has just been laid. -/
theorem own_new {α : Type} (E : Enc α) (x : α) (T : TypeId) (w : World) : Own E T w.heap.size (.slice (some ⟨w.heap.size, 0, none⟩) 1 1) [x] (w.alloc (.cells (E.f x).toArray T)) := by
  have hlen : (E.f x).length = E.z := E.len x
  refine ⟨by simp [hlen], .inr ⟨w.heap.size, 1, _, rfl, Nat.le_refl _, heap_alloc_new w _, Nat.le_refl _, by unfold maxLen; decide, by simp [hlen], ?_⟩⟩
  simp
  rw [← hlen, List.take_length]
/-- A cell of a row of ints. -/
theorem Ints.cell {B g n cap : Nat} {l : List Int} {w : World} (h : Ints B (.slice (some ⟨g, 0, none⟩) n cap) l w) {j : Nat} (hj : j < l.length) : w.cell? ⟨g, j, none⟩ = some (.int .i64 (l.getD j 0)) := by
  have := Own.cell h j 0 hj (by decide)
  have e : j * i64E.z + 0 = j := by show j * 1 + 0 = j; omega
  rw [e] at this; exact this
theorem shape_some {B : Nat} {v : Value} {l : List Int} {w : World} (h : Ints B v l w) (hl : l ≠ []) : ∃ g cap, v = .slice (some ⟨g, 0, none⟩) l.length cap ∧ B ≤ g ∧ g < w.heap.size := by
  obtain ⟨g, cap, cur, h1, h2, _, h3, _⟩ := h.some hl
  exact ⟨g, cap, h1, h2, h3⟩
end Go.Proofs.YtclcbiiijoeplaaDoor.Rowz
