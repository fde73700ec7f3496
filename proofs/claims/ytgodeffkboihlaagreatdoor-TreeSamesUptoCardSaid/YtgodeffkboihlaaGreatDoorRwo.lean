/- A slice of structs of the call's own: a list, each element so many cells. -/
import Derived.Test.YtgodeffkboihlaaGreatDoorProg
import Derived.Laws.OwnMore
import Derived.OwnWalk
import Derived.Deep.AppendLies
import Derived.Maps.AppendAt
import Derived.Laws.Rows
import Derived.Below
import Derived.WalkKit
import Derived.Lib.Hide
import Derived.Deep.QuietTactic
import Derived.BigQuiet
import Derived.Deep.Draws
set_option linter.unusedVariables false
namespace Go.Proofs.YtgodeffkboihlaaGreatDoor.Rwo
open Go.RowKit

/-- How an element lies: its cells, z of them, each one cell wide. -/
structure Enc (α : Type) where
  z : Nat
  f : α → List Value
  d : α
  len : ∀ x, (f x).length = z
  one : ∀ x, ∀ u ∈ f x, u.oneCell' = true
  pos : 0 < z
variable {α : Type} (E : Enc α)
theorem flat_length : ∀ l : List α, (l.flatMap E.f).length = l.length * E.z
  | [] => by simp
  | x :: l => by rw [List.flatMap_cons, List.length_append, E.len, flat_length l, List.length_cons, Nat.add_mul, Nat.one_mul, Nat.add_comm]
theorem flat_one (l : List α) : ∀ u ∈ l.flatMap E.f, u.oneCell' = true := by
  intro u hu
  obtain ⟨x, _, h⟩ := List.mem_flatMap.1 hu
  exact E.one x u h
theorem flat_at : ∀ (l : List α) (j i : Nat), j < l.length → i < E.z → (l.flatMap E.f)[j * E.z + i]? = (E.f (l.getD j E.d))[i]?
  | [], j, i, h, _ => by simp at h
  | x :: l, 0, i, _, hi => by
    rw [List.flatMap_cons, Nat.zero_mul, Nat.zero_add, List.getElem?_append_left (by rw [E.len]; exact hi)]; rfl
  | x :: l, j + 1, i, h, hi => by
    have e : (j + 1) * E.z + i = E.z + (j * E.z + i) := by rw [Nat.add_mul, Nat.one_mul]; omega
    rw [List.flatMap_cons, e, List.getElem?_append_right (by rw [E.len]; omega), E.len, Nat.add_sub_cancel_left, flat_at l j i (by simpa using h) hi]
    simp
theorem flat_set : ∀ (l : List α) (j i : Nat) (u : Value) (y : α), j < l.length → i < E.z → E.f y = (E.f (l.getD j E.d)).set i u → (l.flatMap E.f).set (j * E.z + i) u = (l.set j y).flatMap E.f
  | [], j, i, u, y, h, _, _ => by simp at h
  | x :: l, 0, i, u, y, _, hi, hy => by
    rw [List.flatMap_cons, Nat.zero_mul, Nat.zero_add, List.set_append_left _ _ (by rw [E.len]; exact hi), List.set_cons_zero, List.flatMap_cons, hy]; rfl
  | x :: l, j + 1, i, u, y, h, hi, hy => by
    have e : (j + 1) * E.z + i = E.z + (j * E.z + i) := by rw [Nat.add_mul, Nat.one_mul]; omega
    rw [List.flatMap_cons, e, List.set_append_right _ _ (by rw [E.len]; omega), E.len, Nat.add_sub_cancel_left, List.set_cons_succ, List.flatMap_cons, flat_set l j i u y (by simpa using h) hi (by simpa using hy)]
/-- v is a row of the call's own that reads as the list l; T: the element type. -/
def Own (T : TypeId) (B : Nat) (v : Value) (l : List α) (w : World) : Prop := w.ownsRow B T E.z v l.length (l.flatMap E.f)
variable {E} {T : TypeId} {B : Nat} {v : Value} {l : List α} {w w' : World}
theorem Own.nil (B : Nat) (w : World) : Own E T B (.slice none 0 0) [] w := World.ownsRow_nil w B _ _
theorem Own.lt (h : Own E T B v l w) {k : Nat} (hk : v.ownBlock = some k) : B ≤ k ∧ k < w.heap.size := by
  have h : w.ownsRow B T E.z v l.length (l.flatMap E.f) := h
  exact World.ownsRow.lt h k hk
theorem Own.alloc (h : Own E T B v l w) (o : Obj) : Own E T B v l (w.alloc o) := World.ownsRow.alloc h o
theorem Own.drewN (h : Own E T B v l w) (n : Nat) : Own E T B v l (w.drewN n) := h
theorem Own.shape (h : Own E T B v l w) : ∃ A c, v = .slice A l.length c := by
  rcases h.2 with ⟨rfl, h0⟩ | ⟨g, cap, cur, rfl, _⟩
  · exact ⟨none, 0, by rw [h0]⟩
  · exact ⟨_, _, rfl⟩
theorem Own.below {B' : Nat} (h : Own E T B v l w) (hb : Below B' w w') (hB : w.heap.size ≤ B') : Own E T B v l w' := by
  refine ⟨h.1, h.2.imp id ?_⟩
  rintro ⟨g, cap, cur, hv, h0, h1, h2⟩
  refine ⟨g, cap, cur, hv, h0, ?_, h2⟩
  have hg : g < w.heap.size := (Array.getElem?_eq_some_iff.1 h1).1
  rw [hb.block g (by omega)]; exact h1
/-- Whatever keeps its own block keeps the row. -/
theorem Own.kept (h : Own E T B v l w) (hw : ∀ b, v.ownBlock = some b → w'.heap[b]? = w.heap[b]?) : Own E T B v l w' := by
  refine ⟨h.1, h.2.imp id ?_⟩
  rintro ⟨g, cap, cur, hv, h0, h1, h2⟩
  exact ⟨g, cap, cur, hv, h0, by rw [hw g (by rw [hv]; rfl)]; exact h1, h2⟩
theorem Own.base {B' : Nat} (h : Own E T B v l w) (hB : B' ≤ B) : Own E T B' v l w := by
  refine ⟨h.1, h.2.imp id ?_⟩
  rintro ⟨g, cap, cur, hv, h0, h1, h2⟩
  exact ⟨g, cap, cur, hv, by omega, h1, h2⟩
/-- The block of a row that has something. -/
theorem Own.some (h : Own E T B v l w) (hl : l ≠ []) : ∃ g cap cur, v = .slice (some ⟨g, 0, none⟩) l.length cap ∧ B ≤ g ∧ w.heap[g]? = some (.cells cur T (0, 0)) ∧ g < w.heap.size ∧ l.length ≤ cap := by
  rcases h.2 with ⟨_, h0⟩ | ⟨g, cap, cur, hv, h0, h1, h2, _⟩
  · exact absurd (List.length_eq_zero_iff.1 h0) hl
  · exact ⟨g, cap, cur, hv, h0, h1, (Array.getElem?_eq_some_iff.1 h1).1, h2⟩
/-- Two rows of different element types lie apart. -/
theorem Own.apart {β : Type} {F : Enc β} {S : TypeId} {u : Value} {m : List β} {B' : Nat} (h : Own E T B v l w) (k : Own F S B' u m w) (hTS : T ≠ S) {b : Nat} (hb : v.ownBlock = Option.some b) : u.ownBlock ≠ Option.some b := by
  intro hu
  rcases h.2 with ⟨rfl, _⟩ | ⟨g, cap, cur, rfl, h0, h1, _⟩
  · cases hb
  · rcases k.2 with ⟨rfl, _⟩ | ⟨g', cap', cur', rfl, k0, k1, _⟩
    · cases hu
    · have e1 : g = b := by simpa [Value.ownBlock] using hb
      have e2 : g' = b := by simpa [Value.ownBlock] using hu
      subst e1; subst e2
      rw [h1] at k1
      simp only [Option.some.injEq, Obj.cells.injEq] at k1
      exact hTS k1.2.1
theorem Own.cell {g cap n : Nat} (h : Own E T B (.slice (Option.some ⟨g, 0, none⟩) n cap) l w) (j i : Nat) (hj : j < l.length) (hi : i < E.z) : w.cell? ⟨g, j * E.z + i, none⟩ = (E.f (l.getD j E.d))[i]? := by
  obtain ⟨A, c, hv⟩ := Own.shape h
  have hn : n = l.length := by simp only [Value.slice.injEq] at hv; exact hv.2.1
  subst hn
  have hlt : j * E.z + i < l.length * E.z := by
    have : (j + 1) * E.z ≤ l.length * E.z := Nat.mul_le_mul_right _ hj
    rw [Nat.add_mul, Nat.one_mul] at this; omega
  rw [World.ownsRow.cellAt h (j * E.z + i) hlt]
  exact flat_at E l j i hj hi
theorem Own.frozen {g cap n : Nat} (h : Own E T B (.slice (Option.some ⟨g, 0, none⟩) n cap) l w) (j : Nat) : w.frozen? ⟨g, j, none⟩ = false := by
  obtain ⟨A, c, hv⟩ := Own.shape h
  have hn : n = l.length := by simp only [Value.slice.injEq] at hv; exact hv.2.1
  subst hn
  exact World.ownsRow.frozenAt h j
/-- A cell of an element is written. -/
theorem Own.store {g cap n : Nat} (h : Own E T B (.slice (Option.some ⟨g, 0, none⟩) n cap) l w) (j i : Nat) (u : Value) (y : α) (hj : j < l.length) (hi : i < E.z) (hy : E.f y = (E.f (l.getD j E.d)).set i u) :
    Own E T B (.slice (Option.some ⟨g, 0, none⟩) n cap) (l.set j y) (w.setCell ⟨g, j * E.z + i, none⟩ u) := by
  obtain ⟨A, c, hv⟩ := Own.shape h
  have hn : n = l.length := by simp only [Value.slice.injEq] at hv; exact hv.2.1
  subst hn
  have := (World.ownsRow.stored h (j * E.z + i) u).1
  unfold Own
  rw [List.length_set, ← flat_set E l j i u y hj hi hy]
  exact this
/-- The cells of one element in a block of their own. -/
theorem news (w : World) (x : α) (T : TypeId) : ∀ j u, ([x].flatMap E.f)[j]? = Option.some u → (w.alloc (.cells (E.f x).toArray T)).cell? ((⟨w.heap.size, 0, none⟩ : Addr).add j) = Option.some u := by
  have := World.news_of_block (cs := (E.f x).toArray) (heap_alloc_new w (.cells (E.f x).toArray T))
  simpa using this
theorem step_append {P : Program} {ops : Array Oper} {o : Oper} {a : Act} {w : World} {K : Act → World → Prop} {Q : Exit → Act → World → Prop} {X : Prop} (hgd : o.guard = none) (s x : Operand) (t : TypeId)
    (ho : o.op = .call { callee := .builtin .append, args := #[s, x], argTypes := #[t, t] })
    (T : TypeId) (z0 : Value) (bytes : Nat) (ht : P.underlying t = Option.some (.slice T)) (hinfo : (P.info? T).map (fun i => (i.zero, i.size, i.bytes)) = Option.some (Option.some z0, E.z, bytes)) (hz : z0.cells.size = E.z)
    (B : Nat) (v : Value) (l : List α) (w0 : World) (hown : Own E T B v l w0) (hs : a.eval s = v) (y : α) (cs : Array Value) (hcs : cs = (E.f y).toArray) (c : Nat)
    (H : Nat) (hw : w.heap = w0.heap.push (.cells cs T)) (hx : a.eval x = .slice (Option.some ⟨H, 0, none⟩) 1 c) (hlen : (l.length + 1) * (bytes + 1) ≤ 140737488355328) (hB : B ≤ w0.heap.size ∧ w0.heap.size = H)
    (h : ∀ g cap w', Own E T B (.slice (Option.some ⟨g, 0, none⟩) (l.length + 1) cap) (l ++ [y]) w' → Below B w w' → (∀ b, b < w0.heap.size → v.ownBlock ≠ Option.some b → w'.heap[b]? = w0.heap[b]?) → w0.heap.size < w'.heap.size → (v.ownBlock = Option.some g ∨ w0.heap.size ≤ g) → K (a.put o.dst (.slice (Option.some ⟨g, 0, none⟩) (l.length + 1) cap)) w') :
    if Region.wanted o (yielded ops a.tmps) = true then Oper.wp P o a w K Q else X := by
  subst hcs
  obtain ⟨hB, rfl⟩ := hB
  obtain ⟨i0, hi, hz0, hz1, hz2⟩ := info_parts hinfo
  have hlt : ∀ b, b < w0.heap.size → w.heap[b]? = w0.heap[b]? := fun b hb => by rw [hw, Array.getElem?_push_lt hb, Array.getElem?_eq_getElem hb]
  have hnew : w.heap[w0.heap.size]? = Option.some (.cells (E.f y).toArray T (0, 0)) := by rw [hw, Array.getElem?_push_size]
  have hsz : w.heap.size = w0.heap.size + 1 := by rw [hw, Array.size_push]
  have hown1 : Own E T B v l w := hown.kept fun b hb => hlt b (hown.lt hb).2
  have hone : ([y].flatMap E.f).length = 1 * E.z := by rw [flat_length]; rfl
  have hb2 : (l.length + 1) * bytes ≤ 140737488355328 := Nat.le_trans (Nat.mul_le_mul_left _ (Nat.le_succ _)) hlen
  have hb3 : l.length + 1 ≤ maxLen := by
    have h1 : (l.length + 1) * 1 ≤ (l.length + 1) * (bytes + 1) := Nat.mul_le_mul_left _ (by omega)
    unfold maxLen; omega
  refine step_append_lies w hgd s x t ho B T i0 z0 E.z bytes ht hi hz0 hz1 hz2 hz E.pos v l.length _ hs hown1 ⟨w0.heap.size, 0, none⟩ 1 c ([y].flatMap E.f) hx hone ?_ (flat_one E _) (by omega) hb3 hb2 (by omega) _ rfl ?_
  · have := World.news_of_block (cs := (E.f y).toArray) hnew
    simpa using this
  intro g cap w' hown' hg hat _
  refine h g cap w' ?_ ((Below.refl B w).grown hg (by omega) (fun k hk => (hown.lt hk).1)) ?_ ?_ (hat.imp id (fun e => by omega))
  · unfold Own
    rw [List.flatMap_append, List.length_append]
    exact hown'
  · intro b hb hne
    rw [hg.block b (by omega) (fun e => hne e.symm), hlt b hb]
  · have := hg.size; omega
theorem wpList_append {P : Program} {ops : Array Oper} {rest : List Oper} {o : Oper} {a : Act} {w : World} {Q : Exit → Act → World → Prop} (hgd : o.guard = none) (s x : Operand) (t : TypeId)
    (ho : o.op = .call { callee := .builtin .append, args := #[s, x], argTypes := #[t, t] })
    (T : TypeId) (z0 : Value) (bytes : Nat) (ht : P.underlying t = Option.some (.slice T)) (hinfo : (P.info? T).map (fun i => (i.zero, i.size, i.bytes)) = Option.some (Option.some z0, E.z, bytes)) (hz : z0.cells.size = E.z)
    (B : Nat) (v : Value) (l : List α) (w0 : World) (hown : Own E T B v l w0) (hs : a.eval s = v) (y : α) (cs : Array Value) (hcs : cs = (E.f y).toArray) (c : Nat)
    (H : Nat) (hw : w.heap = w0.heap.push (.cells cs T)) (hx : a.eval x = .slice (Option.some ⟨H, 0, none⟩) 1 c) (hlen : (l.length + 1) * (bytes + 1) ≤ 140737488355328) (hB : B ≤ w0.heap.size ∧ w0.heap.size = H)
    (h : ∀ g cap w', Own E T B (.slice (Option.some ⟨g, 0, none⟩) (l.length + 1) cap) (l ++ [y]) w' → Below B w w' → (∀ b, b < w0.heap.size → v.ownBlock ≠ Option.some b → w'.heap[b]? = w0.heap[b]?) → w0.heap.size < w'.heap.size → (v.ownBlock = Option.some g ∨ w0.heap.size ≤ g) → wpList P ops Q rest (a.put o.dst (.slice (Option.some ⟨g, 0, none⟩) (l.length + 1) cap)) w') :
    wpList P ops Q (o :: rest) a w := by
  subst hcs
  obtain ⟨hB, rfl⟩ := hB
  obtain ⟨i0, hi, hz0, hz1, hz2⟩ := info_parts hinfo
  have hlt : ∀ b, b < w0.heap.size → w.heap[b]? = w0.heap[b]? := fun b hb => by rw [hw, Array.getElem?_push_lt hb, Array.getElem?_eq_getElem hb]
  have hnew : w.heap[w0.heap.size]? = Option.some (.cells (E.f y).toArray T (0, 0)) := by rw [hw, Array.getElem?_push_size]
  have hsz : w.heap.size = w0.heap.size + 1 := by rw [hw, Array.size_push]
  have hown1 : Own E T B v l w := hown.kept fun b hb => hlt b (hown.lt hb).2
  have hone : ([y].flatMap E.f).length = 1 * E.z := by rw [flat_length]; rfl
  have hb2 : (l.length + 1) * bytes ≤ 140737488355328 := Nat.le_trans (Nat.mul_le_mul_left _ (Nat.le_succ _)) hlen
  have hb3 : l.length + 1 ≤ maxLen := by
    have h1 : (l.length + 1) * 1 ≤ (l.length + 1) * (bytes + 1) := Nat.mul_le_mul_left _ (by omega)
    unfold maxLen; omega
  refine wpList_append_lies w hgd s x t ho B T i0 z0 E.z bytes ht hi hz0 hz1 hz2 hz E.pos v l.length _ hs hown1 ⟨w0.heap.size, 0, none⟩ 1 c ([y].flatMap E.f) hx hone ?_ (flat_one E _) (by omega) hb3 hb2 (by omega) _ rfl ?_
  · have := World.news_of_block (cs := (E.f y).toArray) hnew
    simpa using this
  intro g cap w' hown' hg hat _
  refine h g cap w' ?_ ((Below.refl B w).grown hg (by omega) (fun k hk => (hown.lt hk).1)) ?_ ?_ (hat.imp id (fun e => by omega))
  · unfold Own
    rw [List.flatMap_append, List.length_append]
    exact hown'
  · intro b hb hne
    rw [hg.block b (by omega) (fun e => hne e.symm), hlt b hb]
  · have := hg.size; omega
end Go.Proofs.YtgodeffkboihlaaGreatDoor.Rwo
