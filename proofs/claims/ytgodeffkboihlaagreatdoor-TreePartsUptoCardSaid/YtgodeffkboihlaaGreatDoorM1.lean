/- A part of the proof; several texts in one file. -/
import Derived.Test.YtgodeffkboihlaaGreatDoorProg
import Derived.Laws.OwnMore
import Derived.OwnWalk
import Derived.Deep.AppendLies
import Derived.Maps.AppendAt
import Derived.Laws.Rows
import Derived.Below
import Derived.WalkKit
import Derived.Lib.Hide
import Derived.Deep.QuietTactic
import Derived.BigQuiet
import Derived.Deep.Draws
import Derived.Test.YtgodeffkboihlaaGreatDoorRows
import Derived.Deep.Slices
import Derived.Deep.Fields
import Derived.ChangeSame
import Derived.Test.YtgodeffkboihlaaGreatDoorCards
/- A slice of structs of the call's own: a list, each element so many cells. -/
set_option linter.unusedVariables false
namespace Go.Proofs.YtgodeffkboihlaaGreatDoor.Rwo
open Go.RowKit

/-- How an element lies: its cells, z of them, each one cell wide. -/
structure Enc (α : Type) where
  z : Nat
  f : α → List Value
  d : α
  len : ∀ x, (f x).length = z
  one : ∀ x, ∀ u ∈ f x, u.oneCell' = true
  pos : 0 < z
variable {α : Type} (E : Enc α)
theorem flat_length : ∀ l : List α, (l.flatMap E.f).length = l.length * E.z
  | [] => by simp
  | x :: l => by rw [List.flatMap_cons, List.length_append, E.len, flat_length l, List.length_cons, Nat.add_mul, Nat.one_mul, Nat.add_comm]
theorem flat_one (l : List α) : ∀ u ∈ l.flatMap E.f, u.oneCell' = true := by
  intro u hu
  obtain ⟨x, _, h⟩ := List.mem_flatMap.1 hu
  exact E.one x u h
theorem flat_at : ∀ (l : List α) (j i : Nat), j < l.length → i < E.z → (l.flatMap E.f)[j * E.z + i]? = (E.f (l.getD j E.d))[i]?
  | [], j, i, h, _ => by simp at h
  | x :: l, 0, i, _, hi => by
    rw [List.flatMap_cons, Nat.zero_mul, Nat.zero_add, List.getElem?_append_left (by rw [E.len]; exact hi)]; rfl
  | x :: l, j + 1, i, h, hi => by
    have e : (j + 1) * E.z + i = E.z + (j * E.z + i) := by rw [Nat.add_mul, Nat.one_mul]; omega
    rw [List.flatMap_cons, e, List.getElem?_append_right (by rw [E.len]; omega), E.len, Nat.add_sub_cancel_left, flat_at l j i (by simpa using h) hi]
    simp
theorem flat_set : ∀ (l : List α) (j i : Nat) (u : Value) (y : α), j < l.length → i < E.z → E.f y = (E.f (l.getD j E.d)).set i u → (l.flatMap E.f).set (j * E.z + i) u = (l.set j y).flatMap E.f
  | [], j, i, u, y, h, _, _ => by simp at h
  | x :: l, 0, i, u, y, _, hi, hy => by
    rw [List.flatMap_cons, Nat.zero_mul, Nat.zero_add, List.set_append_left _ _ (by rw [E.len]; exact hi), List.set_cons_zero, List.flatMap_cons, hy]; rfl
  | x :: l, j + 1, i, u, y, h, hi, hy => by
    have e : (j + 1) * E.z + i = E.z + (j * E.z + i) := by rw [Nat.add_mul, Nat.one_mul]; omega
    rw [List.flatMap_cons, e, List.set_append_right _ _ (by rw [E.len]; omega), E.len, Nat.add_sub_cancel_left, List.set_cons_succ, List.flatMap_cons, flat_set l j i u y (by simpa using h) hi (by simpa using hy)]
/-- v is a row of the call's own that reads as the list l; T: the element type. -/
def Own (T : TypeId) (B : Nat) (v : Value) (l : List α) (w : World) : Prop := w.ownsRow B T E.z v l.length (l.flatMap E.f)
variable {E} {T : TypeId} {B : Nat} {v : Value} {l : List α} {w w' : World}
theorem Own.nil (B : Nat) (w : World) : Own E T B (.slice none 0 0) [] w := World.ownsRow_nil w B _ _
theorem Own.lt (h : Own E T B v l w) {k : Nat} (hk : v.ownBlock = some k) : B ≤ k ∧ k < w.heap.size := by
  have h : w.ownsRow B T E.z v l.length (l.flatMap E.f) := h
  exact World.ownsRow.lt h k hk
theorem Own.alloc (h : Own E T B v l w) (o : Obj) : Own E T B v l (w.alloc o) := World.ownsRow.alloc h o
theorem Own.drewN (h : Own E T B v l w) (n : Nat) : Own E T B v l (w.drewN n) := h
theorem Own.shape (h : Own E T B v l w) : ∃ A c, v = .slice A l.length c := by
  rcases h.2 with ⟨rfl, h0⟩ | ⟨g, cap, cur, rfl, _⟩
  · exact ⟨none, 0, by rw [h0]⟩
  · exact ⟨_, _, rfl⟩
theorem Own.below {B' : Nat} (h : Own E T B v l w) (hb : Below B' w w') (hB : w.heap.size ≤ B') : Own E T B v l w' := by
  refine ⟨h.1, h.2.imp id ?_⟩
  rintro ⟨g, cap, cur, hv, h0, h1, h2⟩
  refine ⟨g, cap, cur, hv, h0, ?_, h2⟩
  have hg : g < w.heap.size := (Array.getElem?_eq_some_iff.1 h1).1
  rw [hb.block g (by omega)]; exact h1
/-- Whatever keeps its own block keeps the row. -/
theorem Own.kept (h : Own E T B v l w) (hw : ∀ b, v.ownBlock = some b → w'.heap[b]? = w.heap[b]?) : Own E T B v l w' := by
  refine ⟨h.1, h.2.imp id ?_⟩
  rintro ⟨g, cap, cur, hv, h0, h1, h2⟩
  exact ⟨g, cap, cur, hv, h0, by rw [hw g (by rw [hv]; rfl)]; exact h1, h2⟩
theorem Own.base {B' : Nat} (h : Own E T B v l w) (hB : B' ≤ B) : Own E T B' v l w := by
  refine ⟨h.1, h.2.imp id ?_⟩
  rintro ⟨g, cap, cur, hv, h0, h1, h2⟩
  exact ⟨g, cap, cur, hv, by omega, h1, h2⟩
/-- The block of a row that has something. -/
theorem Own.some (h : Own E T B v l w) (hl : l ≠ []) : ∃ g cap cur, v = .slice (some ⟨g, 0, none⟩) l.length cap ∧ B ≤ g ∧ w.heap[g]? = some (.cells cur T (0, 0)) ∧ g < w.heap.size ∧ l.length ≤ cap := by
  rcases h.2 with ⟨_, h0⟩ | ⟨g, cap, cur, hv, h0, h1, h2, _⟩
  · exact absurd (List.length_eq_zero_iff.1 h0) hl
  · exact ⟨g, cap, cur, hv, h0, h1, (Array.getElem?_eq_some_iff.1 h1).1, h2⟩
/-- Two rows of different element types lie apart. -/
theorem Own.apart {β : Type} {F : Enc β} {S : TypeId} {u : Value} {m : List β} {B' : Nat} (h : Own E T B v l w) (k : Own F S B' u m w) (hTS : T ≠ S) {b : Nat} (hb : v.ownBlock = Option.some b) : u.ownBlock ≠ Option.some b := by
  intro hu
  rcases h.2 with ⟨rfl, _⟩ | ⟨g, cap, cur, rfl, h0, h1, _⟩
  · cases hb
  · rcases k.2 with ⟨rfl, _⟩ | ⟨g', cap', cur', rfl, k0, k1, _⟩
    · cases hu
    · have e1 : g = b := by simpa [Value.ownBlock] using hb
      have e2 : g' = b := by simpa [Value.ownBlock] using hu
      subst e1; subst e2
      rw [h1] at k1
      simp only [Option.some.injEq, Obj.cells.injEq] at k1
      exact hTS k1.2.1
theorem Own.cell {g cap n : Nat} (h : Own E T B (.slice (Option.some ⟨g, 0, none⟩) n cap) l w) (j i : Nat) (hj : j < l.length) (hi : i < E.z) : w.cell? ⟨g, j * E.z + i, none⟩ = (E.f (l.getD j E.d))[i]? := by
  obtain ⟨A, c, hv⟩ := Own.shape h
  have hn : n = l.length := by simp only [Value.slice.injEq] at hv; exact hv.2.1
  subst hn
  have hlt : j * E.z + i < l.length * E.z := by
    have : (j + 1) * E.z ≤ l.length * E.z := Nat.mul_le_mul_right _ hj
    rw [Nat.add_mul, Nat.one_mul] at this; omega
  rw [World.ownsRow.cellAt h (j * E.z + i) hlt]
  exact flat_at E l j i hj hi
theorem Own.frozen {g cap n : Nat} (h : Own E T B (.slice (Option.some ⟨g, 0, none⟩) n cap) l w) (j : Nat) : w.frozen? ⟨g, j, none⟩ = false := by
  obtain ⟨A, c, hv⟩ := Own.shape h
  have hn : n = l.length := by simp only [Value.slice.injEq] at hv; exact hv.2.1
  subst hn
  exact World.ownsRow.frozenAt h j
/-- A cell of an element is written. -/
theorem Own.store {g cap n : Nat} (h : Own E T B (.slice (Option.some ⟨g, 0, none⟩) n cap) l w) (j i : Nat) (u : Value) (y : α) (hj : j < l.length) (hi : i < E.z) (hy : E.f y = (E.f (l.getD j E.d)).set i u) :
    Own E T B (.slice (Option.some ⟨g, 0, none⟩) n cap) (l.set j y) (w.setCell ⟨g, j * E.z + i, none⟩ u) := by
  obtain ⟨A, c, hv⟩ := Own.shape h
  have hn : n = l.length := by simp only [Value.slice.injEq] at hv; exact hv.2.1
  subst hn
  have := (World.ownsRow.stored h (j * E.z + i) u).1
  unfold Own
  rw [List.length_set, ← flat_set E l j i u y hj hi hy]
  exact this
/-- The cells of one element in a block of their own. -/
theorem news (w : World) (x : α) (T : TypeId) : ∀ j u, ([x].flatMap E.f)[j]? = Option.some u → (w.alloc (.cells (E.f x).toArray T)).cell? ((⟨w.heap.size, 0, none⟩ : Addr).add j) = Option.some u := by
  have := World.news_of_block (cs := (E.f x).toArray) (heap_alloc_new w (.cells (E.f x).toArray T))
  simpa using this
theorem step_append {P : Program} {ops : Array Oper} {o : Oper} {a : Act} {w : World} {K : Act → World → Prop} {Q : Exit → Act → World → Prop} {X : Prop} (hgd : o.guard = none) (s x : Operand) (t : TypeId)
    (ho : o.op = .call { callee := .builtin .append, args := #[s, x], argTypes := #[t, t] })
    (T : TypeId) (z0 : Value) (bytes : Nat) (ht : P.underlying t = Option.some (.slice T)) (hinfo : (P.info? T).map (fun i => (i.zero, i.size, i.bytes)) = Option.some (Option.some z0, E.z, bytes)) (hz : z0.cells.size = E.z)
    (B : Nat) (v : Value) (l : List α) (w0 : World) (hown : Own E T B v l w0) (hs : a.eval s = v) (y : α) (cs : Array Value) (hcs : cs = (E.f y).toArray) (c : Nat)
    (H : Nat) (hw : w.heap = w0.heap.push (.cells cs T)) (hx : a.eval x = .slice (Option.some ⟨H, 0, none⟩) 1 c) (hlen : (l.length + 1) * (bytes + 1) ≤ 140737488355328) (hB : B ≤ w0.heap.size ∧ w0.heap.size = H)
    (h : ∀ g cap w', Own E T B (.slice (Option.some ⟨g, 0, none⟩) (l.length + 1) cap) (l ++ [y]) w' → Below B w w' → (∀ b, b < w0.heap.size → v.ownBlock ≠ Option.some b → w'.heap[b]? = w0.heap[b]?) → w0.heap.size < w'.heap.size → (v.ownBlock = Option.some g ∨ w0.heap.size ≤ g) → K (a.put o.dst (.slice (Option.some ⟨g, 0, none⟩) (l.length + 1) cap)) w') :
    if Region.wanted o (yielded ops a.tmps) = true then Oper.wp P o a w K Q else X := by
  subst hcs
  obtain ⟨hB, rfl⟩ := hB
  obtain ⟨i0, hi, hz0, hz1, hz2⟩ := info_parts hinfo
  have hlt : ∀ b, b < w0.heap.size → w.heap[b]? = w0.heap[b]? := fun b hb => by rw [hw, Array.getElem?_push_lt hb, Array.getElem?_eq_getElem hb]
  have hnew : w.heap[w0.heap.size]? = Option.some (.cells (E.f y).toArray T (0, 0)) := by rw [hw, Array.getElem?_push_size]
  have hsz : w.heap.size = w0.heap.size + 1 := by rw [hw, Array.size_push]
  have hown1 : Own E T B v l w := hown.kept fun b hb => hlt b (hown.lt hb).2
  have hone : ([y].flatMap E.f).length = 1 * E.z := by rw [flat_length]; rfl
  have hb2 : (l.length + 1) * bytes ≤ 140737488355328 := Nat.le_trans (Nat.mul_le_mul_left _ (Nat.le_succ _)) hlen
  have hb3 : l.length + 1 ≤ maxLen := by
    have h1 : (l.length + 1) * 1 ≤ (l.length + 1) * (bytes + 1) := Nat.mul_le_mul_left _ (by omega)
    unfold maxLen; omega
  refine step_append_lies w hgd s x t ho B T i0 z0 E.z bytes ht hi hz0 hz1 hz2 hz E.pos v l.length _ hs hown1 ⟨w0.heap.size, 0, none⟩ 1 c ([y].flatMap E.f) hx hone ?_ (flat_one E _) (by omega) hb3 hb2 (by omega) _ rfl ?_
  · have := World.news_of_block (cs := (E.f y).toArray) hnew
    simpa using this
  intro g cap w' hown' hg hat _
  refine h g cap w' ?_ ((Below.refl B w).grown hg (by omega) (fun k hk => (hown.lt hk).1)) ?_ ?_ (hat.imp id (fun e => by omega))
  · unfold Own
    rw [List.flatMap_append, List.length_append]
    exact hown'
  · intro b hb hne
    rw [hg.block b (by omega) (fun e => hne e.symm), hlt b hb]
  · have := hg.size; omega
theorem wpList_append {P : Program} {ops : Array Oper} {rest : List Oper} {o : Oper} {a : Act} {w : World} {Q : Exit → Act → World → Prop} (hgd : o.guard = none) (s x : Operand) (t : TypeId)
    (ho : o.op = .call { callee := .builtin .append, args := #[s, x], argTypes := #[t, t] })
    (T : TypeId) (z0 : Value) (bytes : Nat) (ht : P.underlying t = Option.some (.slice T)) (hinfo : (P.info? T).map (fun i => (i.zero, i.size, i.bytes)) = Option.some (Option.some z0, E.z, bytes)) (hz : z0.cells.size = E.z)
    (B : Nat) (v : Value) (l : List α) (w0 : World) (hown : Own E T B v l w0) (hs : a.eval s = v) (y : α) (cs : Array Value) (hcs : cs = (E.f y).toArray) (c : Nat)
    (H : Nat) (hw : w.heap = w0.heap.push (.cells cs T)) (hx : a.eval x = .slice (Option.some ⟨H, 0, none⟩) 1 c) (hlen : (l.length + 1) * (bytes + 1) ≤ 140737488355328) (hB : B ≤ w0.heap.size ∧ w0.heap.size = H)
    (h : ∀ g cap w', Own E T B (.slice (Option.some ⟨g, 0, none⟩) (l.length + 1) cap) (l ++ [y]) w' → Below B w w' → (∀ b, b < w0.heap.size → v.ownBlock ≠ Option.some b → w'.heap[b]? = w0.heap[b]?) → w0.heap.size < w'.heap.size → (v.ownBlock = Option.some g ∨ w0.heap.size ≤ g) → wpList P ops Q rest (a.put o.dst (.slice (Option.some ⟨g, 0, none⟩) (l.length + 1) cap)) w') :
    wpList P ops Q (o :: rest) a w := by
  subst hcs
  obtain ⟨hB, rfl⟩ := hB
  obtain ⟨i0, hi, hz0, hz1, hz2⟩ := info_parts hinfo
  have hlt : ∀ b, b < w0.heap.size → w.heap[b]? = w0.heap[b]? := fun b hb => by rw [hw, Array.getElem?_push_lt hb, Array.getElem?_eq_getElem hb]
  have hnew : w.heap[w0.heap.size]? = Option.some (.cells (E.f y).toArray T (0, 0)) := by rw [hw, Array.getElem?_push_size]
  have hsz : w.heap.size = w0.heap.size + 1 := by rw [hw, Array.size_push]
  have hown1 : Own E T B v l w := hown.kept fun b hb => hlt b (hown.lt hb).2
  have hone : ([y].flatMap E.f).length = 1 * E.z := by rw [flat_length]; rfl
  have hb2 : (l.length + 1) * bytes ≤ 140737488355328 := Nat.le_trans (Nat.mul_le_mul_left _ (Nat.le_succ _)) hlen
  have hb3 : l.length + 1 ≤ maxLen := by
    have h1 : (l.length + 1) * 1 ≤ (l.length + 1) * (bytes + 1) := Nat.mul_le_mul_left _ (by omega)
    unfold maxLen; omega
  refine wpList_append_lies w hgd s x t ho B T i0 z0 E.z bytes ht hi hz0 hz1 hz2 hz E.pos v l.length _ hs hown1 ⟨w0.heap.size, 0, none⟩ 1 c ([y].flatMap E.f) hx hone ?_ (flat_one E _) (by omega) hb3 hb2 (by omega) _ rfl ?_
  · have := World.news_of_block (cs := (E.f y).toArray) hnew
    simpa using this
  intro g cap w' hown' hg hat _
  refine h g cap w' ?_ ((Below.refl B w).grown hg (by omega) (fun k hk => (hown.lt hk).1)) ?_ ?_ (hat.imp id (fun e => by omega))
  · unfold Own
    rw [List.flatMap_append, List.length_append]
    exact hown'
  · intro b hb hne
    rw [hg.block b (by omega) (fun e => hne e.symm), hlt b hb]
  · have := hg.size; omega
end Go.Proofs.YtgodeffkboihlaaGreatDoor.Rwo

/- An argument that is a slice, opened: a list that lies in memory, element by element; its sizes out of the bulk. It bears no function of the program. -/
set_option linter.unusedVariables false
namespace Go.Proofs.YtgodeffkboihlaaGreatDoor.Slo
open Go.RowKit Go.ChangeShapes Go.WideShapes Go.Deep Rwo

/-- A list that lies in memory, as a slice's value. -/
def Arg {α : Type} (E : Enc α) (w : World) (v : Value) (l : List α) : Prop :=
  (l = [] ∧ ∃ x c, v = .slice x 0 c) ∨ ∃ b o c, v = .slice (some ⟨b, o, none⟩) l.length c ∧ b < w.heap.size ∧ ∀ j, j < l.length → ∀ i, i < E.z → w.cell? ⟨b, o + j * E.z + i, none⟩ = (E.f (l.getD j E.d))[i]?
theorem Arg.below {α : Type} {E : Enc α} {w w' : World} {v : Value} {l : List α} (h : Arg E w v l) (hb : Below w.heap.size w w') : Arg E w' v l := by
  rcases h with h | ⟨b, o, c, rfl, h1, h2⟩
  · exact .inl h
  · exact .inr ⟨b, o, c, rfl, Nat.lt_of_lt_of_le h1 hb.size, fun j hj i hi => (hb.cell (p := ⟨b, _, none⟩) h1).trans (h2 j hj i hi)⟩
theorem cell_lt {w : World} {a : Addr} {v : Value} (h : w.cell? a = some v) : a.block < w.heap.size := by
  rcases Nat.lt_or_ge a.block w.heap.size with h' | h'
  · exact h'
  · unfold World.cell? at h
    rw [Array.getElem?_eq_none (by omega)] at h
    simp at h
theorem i64_bounds {n : Int} (h : (Lit.int .i64 n).wf = true) : -9223372036854775808 ≤ n ∧ n ≤ 9223372036854775807 := by
  simp only [Lit.wf, IntKind.min, IntKind.max, IntKind.signed, IntKind.bits, Bool.and_eq_true, decide_eq_true_eq, if_true] at h
  simpa using h
theorem u32_bounds {n : Int} (h : (Lit.int .u32 n).wf = true) : 0 ≤ n ∧ n < 4294967296 := by
  simp only [Lit.wf, IntKind.min, IntKind.max, IntKind.signed, IntKind.bits, Bool.and_eq_true] at h
  simp at h; omega
theorem bulk_mem {H : Type} : ∀ {l : List (DataW H)} {d : DataW H}, d ∈ l → Rows.uptoBulk d ≤ Rows.uptoBulkAll l
  | [], d, h => by cases h
  | e :: r, d, h => by
    rcases List.mem_cons.1 h with rfl | h
    · simp [Rows.uptoBulkAll]
    · have := bulk_mem h
      simp only [Rows.uptoBulkAll]; omega
theorem bulk_length {H : Type} : ∀ (l : List (DataW H)), (∀ d ∈ l, 1 ≤ Rows.uptoBulk d) → l.length ≤ Rows.uptoBulkAll l
  | [], _ => by simp
  | d :: r, h => by
    have h1 := h d (by simp)
    have h2 := bulk_length r (fun e he => h e (by simp [he]))
    simp only [Rows.uptoBulkAll, List.length_cons]; omega
theorem bulk_pos {H : Type} (d : DataW H) : 1 ≤ Rows.uptoBulk d := by
  cases d with
  | lit l => cases l <;> simp only [Rows.uptoBulk] <;> omega
  | _ => simp only [Rows.uptoBulk]; omega
section
variable {H : Type} {enc : TypeId × Value → H} {P : Program} {w : World}
/-- A field of a struct that was trod, by its place and its cells. -/
theorem field_at {base n : Nat} {spare : Nat → Bool} {held : Bool} {fs : Array Field} {cs : List Value} {xs : List (DataW H × List MemPlace)}
    (hf : ∀ (i : Nat) (f : Field), fs[i]? = some f → DataW.trod enc P w base spare held n f.type ((cs.drop f.offset).take (P.cellsOf f.type)) = xs[i]?)
    (hl : xs.length = fs.size) (i : Nat) (T : TypeId) (o k : Nat) (hT : (fs[i]?).map (fun f => (f.type, f.offset)) = some (T, o)) (hk : P.cellsOf T = k) :
    ∃ y, xs[i]? = some y ∧ DataW.trod enc P w base spare held n T ((cs.drop o).take k) = some y := by
  obtain ⟨f, hf0, he⟩ := Option.map_eq_some_iff.1 hT
  simp only [Prod.mk.injEq] at he
  obtain ⟨rfl, rfl⟩ := he
  have h := hf i f hf0
  rw [hk] at h
  have hi : i < xs.length := by rw [hl]; exact (Array.getElem?_eq_some_iff.1 hf0).1
  exact ⟨xs[i], List.getElem?_eq_getElem hi, h.trans (List.getElem?_eq_getElem hi)⟩
variable {α : Type} [Inhabited α] (E : Enc α) (Q : α → DataW H → Prop)
theorem open_rows {t e : TypeId} (ht : P.underlying t = some (.slice e)) (hz : P.cellsOf e = E.z)
    (one : ∀ n cs x, DataW.trod enc P w 0 (fun _ => true) true n e cs = some x → ∃ a, cs = E.f a ∧ Q a x.1)
    {b0 : Nat} {v : Value} {d : DataW H} {ps : List MemPlace} (hval : Value.okWide P w .any b0 t v) (hd : DataW.Trod enc P w 0 (fun _ => true) true t v d ps) {K : Nat} (hk : Rows.uptoBulk d ≤ K) :
    ∃ l, Arg E w v l ∧ l.length ≤ K ∧ ∀ j, j < l.length → ∃ dj, Q (l.getD j E.d) dj ∧ Rows.uptoBulk dj ≤ K := by
  obtain ⟨a0, len, c0, rfl⟩ := okWide_slice ht hval
  obtain ⟨fuel, hf⟩ := hd
  rcases open_slice ht hf with ⟨hcs, _⟩ | ⟨x, len1, c1, m, n, D, Pl, hcs, _, hlc, hcm, hm, hx, hi⟩
  · simp [Value.cells] at hcs
    obtain ⟨rfl, rfl, rfl⟩ := hcs
    exact ⟨[], .inl ⟨rfl, _, _, rfl⟩, Nat.zero_le _, fun j hj => absurd hj (by simp)⟩
  · simp [Value.cells] at hcs
    obtain ⟨rfl, rfl, rfl⟩ := hcs
    simp only [if_true] at hm
    subst hm
    simp only [Prod.mk.injEq] at hx
    obtain ⟨rfl, _⟩ := hx
    rw [hz] at hi
    have each : ∀ i, i < m → ∃ a : α, Q a (D i) ∧ ∀ j, j < E.z → w.cell? (x.add (i * E.z + j)) = (E.f a)[j]? := by
      intro i him
      obtain ⟨cs', hc, ht⟩ := hi i him
      obtain ⟨a, rfl, hD⟩ := one _ _ _ ht
      obtain ⟨_, _, hat⟩ := World.cells?_some hc
      exact ⟨a, hD, fun j hj => by rw [← Go.Deep.add_add]; exact hat j hj⟩
    obtain ⟨T, hT⟩ := choose_lt (α := α) (p := fun i a => Q a (D i) ∧ ∀ j, j < E.z → w.cell? (x.add (i * E.z + j)) = (E.f a)[j]?) each
    have hbulk : Rows.uptoBulkAll ((List.range len).map D) ≤ K := by simp only [Rows.uptoBulk] at hk; omega
    have hone : ∀ i, i < len → Rows.uptoBulk (D i) ≤ K := fun i h => Nat.le_trans (bulk_mem (List.mem_map.2 ⟨i, List.mem_range.2 h, rfl⟩)) hbulk
    have hlen : len ≤ K := by
      have := bulk_length ((List.range len).map D) (fun d _ => bulk_pos d)
      simp at this; omega
    have hget : ∀ j, j < len → ((List.range len).map T).getD j E.d = T j := by
      intro j hj; simp [List.getD_eq_getElem?_getD, hj]
    refine ⟨(List.range len).map T, ?_, by simpa using hlen, ?_⟩
    · by_cases h0 : len = 0
      · subst h0; exact .inl ⟨rfl, _, _, rfl⟩
      · right
        obtain ⟨b, o, spot⟩ := x
        have hE := E.pos
        have c0 := (hT 0 (by omega)).2 0 hE
        have hl0 : (E.f (T 0)).length = E.z := E.len _
        rw [List.getElem?_eq_getElem (by omega)] at c0
        have hspot : spot = none := by simpa [Addr.add] using World.cell?_spot c0
        subst hspot
        refine ⟨b, o, m, by simp, ?_, ?_⟩
        · have c0' := c0
          simp only [Addr.add_lit] at c0'
          exact cell_lt c0'
        · intro j hj i hi
          have hj' : j < len := by simpa using hj
          rw [hget j hj']
          have := (hT j (by omega)).2 i hi
          rw [Addr.add_lit, ← Nat.add_assoc] at this
          exact this
    · intro j hj
      have hj' : j < len := by simpa using hj
      rw [hget j hj']
      exact ⟨D j, (hT j (by omega)).1, hone j hj'⟩
end
end Go.Proofs.YtgodeffkboihlaaGreatDoor.Slo

/- Trees of nodes, and how they lie in memory: no function of the program. -/
set_option linter.unusedVariables false
namespace Go.Proofs.YtgodeffkboihlaaGreatDoor.Tra
open Go.RowKit

/-- A node's own data: kind, text, number, type, slot, place, line. -/
structure Nd where
  k : Int
  text : ByteArray
  n : Int
  ty : ByteArray
  slot : Int
  at_ : Int
  line : Int
inductive Tr where
  | mk (d : Nd) (kids : List Tr)
def nd0 : Nd := ⟨0, .empty, 0, .empty, 0, 0, 0⟩
def tr0 : Tr := .mk nd0 []
def Tr.d : Tr → Nd | .mk d _ => d
def Tr.kids : Tr → List Tr | .mk _ ks => ks
/-- A node's value, with its kids' slice. -/
abbrev Nd.val (d : Nd) (a : Option Addr) (n c : Nat) : Value := .agg #[.int .i64 d.k, .string d.text, .int .i64 d.n, .string d.ty, .int .i64 d.slot, .int .i64 d.at_, .int .i64 d.line, .slice a n c]
abbrev Nd.row (d : Nd) (a : Option Addr) (n c : Nat) : List Value := [.int .i64 d.k, .string d.text, .int .i64 d.n, .string d.ty, .int .i64 d.slot, .int .i64 d.at_, .int .i64 d.line, .slice a n c]
mutual
/-- How many nodes. -/
def size : Tr → Nat
  | .mk _ ks => 1 + sizes ks
def sizes : List Tr → Nat
  | [] => 0
  | t :: l => size t + sizes l
end
theorem size_pos (t : Tr) : 1 ≤ size t := by cases t; simp only [size]; omega
theorem sizes_append (l m : List Tr) : sizes (l ++ m) = sizes l + sizes m := by
  induction l with
  | nil => simp [sizes]
  | cons t l ih => simp only [List.cons_append, sizes, ih]; omega
theorem length_sizes (l : List Tr) : l.length ≤ sizes l := by
  induction l with
  | nil => simp
  | cons t l ih => have := size_pos t; simp only [sizes, List.length_cons]; omega
theorem size_kid {l : List Tr} {j : Nat} (hj : j < l.length) : size (l.getD j tr0) ≤ sizes l := by
  induction l generalizing j with
  | nil => simp at hj
  | cons t l ih =>
    cases j with
    | zero => simp only [List.getD_cons_zero, sizes]; omega
    | succ j => have := ih (j := j) (by simpa using hj); simp only [List.getD_cons_succ, sizes]; omega
/-- Induction over a tree: what holds of all kids holds of the node. -/
theorem tree_ind {p : Tr → Prop} (h : ∀ d ks, (∀ j, j < ks.length → p (ks.getD j tr0)) → p (.mk d ks)) : ∀ t, p t := by
  suffices ∀ n t, size t ≤ n → p t from fun t => this _ t (Nat.le_refl _)
  intro n
  induction n with
  | zero => intro t ht; have := size_pos t; omega
  | succ n ih =>
    rintro ⟨d, ks⟩ ht
    refine h d ks fun j hj => ih _ ?_
    have := size_kid hj
    simp only [size] at ht; omega
/-- A tree that lies in memory, in blocks of S alone (lists may share it). -/
inductive Lies (w : World) (S : Nat → Prop) : Tr → Value → Prop
  | mk (d : Nd) (ks : List Tr) (a : Option Addr) (c : Nat) (ds : Nat → Nd) (xs : Nat → Option Addr) (ns cs : Nat → Nat) (hcap : ks.length ≤ c)
      (hat : ks = [] ∨ ∃ b o, a = some ⟨b, o, none⟩ ∧ b < w.heap.size ∧ S b ∧ ∀ j, j < ks.length → ∀ i, i < 8 → w.cell? ⟨b, o + j * 8 + i, none⟩ = ((ds j).row (xs j) (ns j) (cs j))[i]?)
      (hk : ∀ j, j < ks.length → Lies w S (ks.getD j tr0) ((ds j).val (xs j) (ns j) (cs j))) : Lies w S (.mk d ks) (d.val a ks.length c)
variable {w w' : World} {S S' : Nat → Prop} {t : Tr} {v : Value}
/-- Where the blocks of S stay, it lies on. -/
theorem Lies.on (h : Lies w S t v) (hz : w.heap.size ≤ w'.heap.size) (hS : ∀ b, b < w.heap.size → S b → w'.heap[b]? = w.heap[b]?) : Lies w' S t v := by
  induction h with
  | mk d ks a c ds xs ns cs hcap hat hk ih =>
    refine .mk d ks a c ds xs ns cs hcap ?_ ih
    rcases hat with h | ⟨b, o, rfl, h1, h3, h2⟩
    · exact .inl h
    · exact .inr ⟨b, o, rfl, Nat.lt_of_lt_of_le h1 hz, h3, fun j hj i hi => (World.cell?_of_block (a := ⟨b, _, none⟩) (hS b h1 h3)).trans (h2 j hj i hi)⟩
theorem Lies.kept (h : Lies w S t v) (hb : Below w.heap.size w w') : Lies w' S t v := h.on hb.size fun b hlt _ => hb.block b hlt
theorem Lies.mono (h : Lies w S t v) (hS : ∀ b, b < w.heap.size → S b → S' b) : Lies w S' t v := by
  induction h with
  | mk d ks a c ds xs ns cs hcap hat hk ih =>
    refine .mk d ks a c ds xs ns cs hcap ?_ ih
    rcases hat with h | ⟨b, o, rfl, h1, h3, h2⟩
    · exact .inl h
    · exact .inr ⟨b, o, rfl, h1, hS b h1 h3, h2⟩
theorem Lies.shape (h : Lies w S t v) : ∃ a c, v = t.d.val a t.kids.length c := by
  cases h with
  | mk d ks a c ds xs ns cs hcap hat hk => exact ⟨a, c, rfl⟩
end Go.Proofs.YtgodeffkboihlaaGreatDoor.Tra

/- An argument that is a tree of nodes, opened. It bears no function of the program. -/
set_option linter.unusedVariables false
namespace Go.Proofs.YtgodeffkboihlaaGreatDoor.Trb
open Go.RowKit Go.ChangeShapes Go.WideShapes Go.Deep Tra Slo

def In64 (n : Int) : Prop := -9223372036854775808 ≤ n ∧ n ≤ 9223372036854775807
structure NdFit (d : Nd) : Prop where
  k : In64 d.k
  n : In64 d.n
  slot : In64 d.slot
  at_ : In64 d.at_
  line : In64 d.line
  text : d.text.size ≤ 1048576
  ty : d.ty.size ≤ 1048576
inductive Fit : Tr → Prop
  | mk (d : Nd) (ks : List Tr) (hd : NdFit d) (hl : ks.length ≤ 1048576) (h : ∀ j, j < ks.length → Fit (ks.getD j tr0)) : Fit (.mk d ks)
/-- What is asked of a node's type. -/
structure NodeTy (P : Program) (T S : TypeId) (U : Nat → TypeId) : Prop where
  st : P.underlying T = some (.struct (P.fieldsOf T))
  sl : P.underlying S = some (.slice T)
  cells : P.cellsOf T = 8
  size : (P.fieldsOf T).size = 8
  fs : ∀ i, i < 8 → ((P.fieldsOf T)[i]?).map (fun f => (f.type, f.offset)) = some (U i, i) ∧ P.cellsOf (U i) = 1
  u0 : P.underlying (U 0) = some (.int .i64)
  u1 : P.underlying (U 1) = some .string
  u2 : P.underlying (U 2) = some (.int .i64)
  u3 : P.underlying (U 3) = some .string
  u4 : P.underlying (U 4) = some (.int .i64)
  u5 : P.underlying (U 5) = some (.int .i64)
  u6 : P.underlying (U 6) = some (.int .i64)
  u7 : U 7 = S
theorem eight {α : Type} {l : List α} (h : l.length = 8) : ∃ a b c d e f g i, l = [a, b, c, d, e, f, g, i] := by
  match l, h with
  | [a, b, c, d, e, f, g, i], _ => exact ⟨_, _, _, _, _, _, _, _, rfl⟩
section
variable {H : Type} {enc : TypeId × Value → H} {P : Program} {w : World} {T S : TypeId} {U : Nat → TypeId}
set_option maxRecDepth 100000 in
theorem open_node (N : NodeTy P T S U) : ∀ (B n : Nat) (cs : List Value) (x : DataW H × List MemPlace), DataW.trod enc P w 0 (fun _ => true) true n T cs = some x → Rows.uptoBulk x.1 ≤ B → B ≤ 1048576 →
    ∃ t a c, cs = t.d.row a t.kids.length c ∧ Lies w (fun _ => True) t (t.d.val a t.kids.length c) ∧ Fit t := by
  intro B
  induction B with
  | zero => intro n cs x _ hx _; have := bulk_pos x.1; omega
  | succ B ih =>
    intro n cs x h hx hB
    obtain ⟨xs, m, _, rfl, hc, hl, hf⟩ := DataW.trod_struct N.st h
    rw [N.cells] at hc
    obtain ⟨y0, e0, t0⟩ := field_at hf hl 0 _ _ _ (N.fs 0 (by omega)).1 (N.fs 0 (by omega)).2
    obtain ⟨y1, e1, t1⟩ := field_at hf hl 1 _ _ _ (N.fs 1 (by omega)).1 (N.fs 1 (by omega)).2
    obtain ⟨y2, e2, t2⟩ := field_at hf hl 2 _ _ _ (N.fs 2 (by omega)).1 (N.fs 2 (by omega)).2
    obtain ⟨y3, e3, t3⟩ := field_at hf hl 3 _ _ _ (N.fs 3 (by omega)).1 (N.fs 3 (by omega)).2
    obtain ⟨y4, e4, t4⟩ := field_at hf hl 4 _ _ _ (N.fs 4 (by omega)).1 (N.fs 4 (by omega)).2
    obtain ⟨y5, e5, t5⟩ := field_at hf hl 5 _ _ _ (N.fs 5 (by omega)).1 (N.fs 5 (by omega)).2
    obtain ⟨y6, e6, t6⟩ := field_at hf hl 6 _ _ _ (N.fs 6 (by omega)).1 (N.fs 6 (by omega)).2
    obtain ⟨y7, e7, t7⟩ := field_at hf hl 7 _ _ _ (N.fs 7 (by omega)).1 (N.fs 7 (by omega)).2
    have hin : ∀ (i : Nat) (y : DataW H × List MemPlace), xs[i]? = some y → Rows.uptoBulk y.1 ≤ B := by
      intro i y hy
      have hm : y.1 ∈ xs.map (·.1) := List.mem_map.2 ⟨y, List.mem_of_getElem? hy, rfl⟩
      have := bulk_mem hm
      simp only [Rows.uptoBulk] at hx; omega
    obtain ⟨k, f0, rfl, w0⟩ := DataW.trod_int N.u0 t0
    obtain ⟨s1, f1, rfl, _⟩ := DataW.trod_string N.u1 t1
    obtain ⟨nn, f2, rfl, w2⟩ := DataW.trod_int N.u2 t2
    obtain ⟨s3, f3, rfl, _⟩ := DataW.trod_string N.u3 t3
    obtain ⟨sl, f4, rfl, w4⟩ := DataW.trod_int N.u4 t4
    obtain ⟨at_, f5, rfl, w5⟩ := DataW.trod_int N.u5 t5
    obtain ⟨li, f6, rfl, w6⟩ := DataW.trod_int N.u6 t6
    rw [N.u7] at t7
    obtain ⟨c0, c1, c2, c3, c4, c5, c6, c7, rfl⟩ := eight hc
    simp at f0 f1 f2 f3 f4 f5 f6
    subst f0; subst f1; subst f2; subst f3; subst f4; subst f5; subst f6
    have hs1 := hin 1 _ e1
    have hs3 := hin 3 _ e3
    simp only [Rows.uptoBulk] at hs1 hs3
    have hd : NdFit ⟨k, s1, nn, s3, sl, at_, li⟩ := ⟨i64_bounds w0, i64_bounds w2, i64_bounds w4, i64_bounds w5, i64_bounds w6, by simp at hs1 ⊢; omega, by simp at hs3 ⊢; omega⟩
    have hb7 := hin 7 _ e7
    rcases open_slice N.sl t7 with ⟨hcs, _⟩ | ⟨a, len, cap, m', n', D, Pl, hcs, _, hlc, hcm, hm, rfl, hi⟩
    · simp at hcs
      subst hcs
      exact ⟨.mk ⟨k, s1, nn, s3, sl, at_, li⟩ [], none, 0, rfl, .mk _ [] none 0 (fun _ => nd0) (fun _ => none) (fun _ => 0) (fun _ => 0) (Nat.le_refl _) (.inl rfl) (fun j hj => absurd hj (by simp)), .mk _ [] hd (by simp) (fun j hj => absurd hj (by simp))⟩
    · simp at hcs
      subst hcs
      simp only [if_true] at hm
      subst hm
      rw [N.cells] at hi
      have hall : Rows.uptoBulkAll ((List.range len).map D) ≤ B := by
        dsimp only at hb7
        simp only [Rows.uptoBulk] at hb7; omega
      have hlen := bulk_length ((List.range len).map D) (fun d _ => bulk_pos d)
      simp at hlen
      have each : ∀ i, i < len → ∃ q : Tr × Option Addr × Nat, (∀ j, j < 8 → w.cell? (a.add (i * 8 + j)) = (q.1.d.row q.2.1 q.1.kids.length q.2.2)[j]?) ∧ Lies w (fun _ => True) q.1 (q.1.d.val q.2.1 q.1.kids.length q.2.2) ∧ Fit q.1 := by
        intro i hil
        obtain ⟨cs', hc', ht'⟩ := hi i (by omega)
        have hDi : Rows.uptoBulk (D i) ≤ B := by
          have := bulk_mem (d := D i) (l := (List.range len).map D) (List.mem_map.2 ⟨i, List.mem_range.2 hil, rfl⟩)
          omega
        obtain ⟨t, a', c', rfl, h1, h2⟩ := ih n' cs' _ ht' hDi (by omega)
        obtain ⟨_, _, hat⟩ := World.cells?_some hc'
        exact ⟨(t, a', c'), fun j hj => by rw [← Go.Deep.add_add]; exact hat j hj, h1, h2⟩
      have : Inhabited (Tr × Option Addr × Nat) := ⟨(tr0, none, 0)⟩
      obtain ⟨Q, hQ⟩ := choose_lt (α := Tr × Option Addr × Nat) (p := fun i q => (∀ j, j < 8 → w.cell? (a.add (i * 8 + j)) = (q.1.d.row q.2.1 q.1.kids.length q.2.2)[j]?) ∧ Lies w (fun _ => True) q.1 (q.1.d.val q.2.1 q.1.kids.length q.2.2) ∧ Fit q.1) each
      have hget : ∀ j, j < len → ((List.range len).map fun i => (Q i).1).getD j tr0 = (Q j).1 := by
        intro j hj; simp [List.getD_eq_getElem?_getD, hj]
      have hkl : ((List.range len).map fun i => (Q i).1).length = len := by simp
      refine ⟨.mk ⟨k, s1, nn, s3, sl, at_, li⟩ ((List.range len).map fun i => (Q i).1), some a, m', ?_, ?_, ?_⟩
      · show _ = Nd.row _ _ ((List.range len).map fun i => (Q i).1).length _
        rw [hkl]
        rfl
      · refine .mk _ _ (some a) m' (fun j => (Q j).1.d) (fun j => (Q j).2.1) (fun j => (Q j).1.kids.length) (fun j => (Q j).2.2) (by rw [hkl]; omega) ?_ ?_
        · by_cases h0 : len = 0
          · subst h0; exact .inl rfl
          · right
            obtain ⟨b, o, spot⟩ := a
            have c0 := (hQ 0 (by omega)).1 0 (by omega)
            have hspot : spot = none := by simpa [Addr.add] using World.cell?_spot c0
            subst hspot
            refine ⟨b, o, rfl, ?_, trivial, ?_⟩
            · have := c0
              simp only [Addr.add_lit] at this
              exact cell_lt this
            · intro j hj i hi8
              rw [hkl] at hj
              have := (hQ j hj).1 i hi8
              rw [Addr.add_lit, ← Nat.add_assoc] at this
              exact this
        · intro j hj
          rw [hkl] at hj
          rw [hget j hj]
          exact (hQ j hj).2.1
      · refine .mk _ _ hd (by rw [hkl]; omega) ?_
        intro j hj
        rw [hkl] at hj
        rw [hget j hj]
        exact (hQ j hj).2.2
/-- A tree as a call's argument. -/
theorem open_tree (N : NodeTy P T S U) {b0 : Nat} {v : Value} {d : DataW H} {ps : List MemPlace} (hval : Value.okWide P w .any b0 T v) (hd : DataW.Trod enc P w 0 (fun _ => true) true T v d ps) (hk : Rows.uptoBulk d ≤ 1048576) :
    ∃ t, Lies w (fun _ => True) t v ∧ Fit t := by
  obtain ⟨cs, rfl, _⟩ := okWide_struct N.st hval
  obtain ⟨fuel, hf⟩ := hd
  obtain ⟨t, a, c, hc, h1, h2⟩ := open_node N 1048576 _ _ _ hf hk (by omega)
  refine ⟨t, ?_, h2⟩
  have hc' : cs.toList = t.d.row a t.kids.length c := hc
  cases cs
  simp only at hc'
  rw [hc']
  exact h1
end
end Go.Proofs.YtgodeffkboihlaaGreatDoor.Trb

/- Trees of one's own: rows of nodes in memory of the call's own, kid by kid. No function of the program. -/
set_option linter.unusedVariables false
namespace Go.Proofs.YtgodeffkboihlaaGreatDoor.Trc
open Go.RowKit Tra Trb Rwo

/-- A node as it stands in a row: its data, its kids' slice. -/
structure Nv where
  d : Nd
  a : Option Addr
  n : Nat
  c : Nat
def nv0 : Nv := ⟨nd0, none, 0, 0⟩
abbrev Nv.val (x : Nv) : Value := x.d.val x.a x.n x.c
def nE : Enc Nv where
  z := 8
  f x := x.d.row x.a x.n x.c
  d := nv0
  len _ := rfl
  pos := by decide
  one x u h := by
    simp only [List.mem_cons, List.not_mem_nil, or_false] at h
    rcases h with rfl | rfl | rfl | rfl | rfl | rfl | rfl | rfl <;> rfl
/-- A row of one's own whose nodes lie as the trees ks, each in blocks at or above B and not in the row's own block. -/
structure Kids (T : TypeId) (B : Nat) (v : Value) (ks : List Tr) (xs : List Nv) (w : World) : Prop where
  out : Own nE T B v xs w
  len : xs.length = ks.length
  each : ∀ j, j < ks.length → Lies w (fun b => B ≤ b ∧ v.ownBlock ≠ some b) (ks.getD j tr0) (xs.getD j nv0).val
theorem Kids.nil (T : TypeId) (B : Nat) (w : World) : Kids T B (.slice none 0 0) [] [] w := ⟨Own.nil _ _, rfl, fun j hj => absurd hj (by simp)⟩
theorem Kids.kept {T : TypeId} {B : Nat} {v : Value} {ks : List Tr} {xs : List Nv} {w w' : World} (h : Kids T B v ks xs w) (hb : Below w.heap.size w w') : Kids T B v ks xs w' :=
  ⟨h.out.below hb (Nat.le_refl _), h.len, fun j hj => (h.each j hj).kept hb⟩
/-- A row of one's own, whole: the tree lies, in blocks at or above B. -/
theorem Kids.lies {T : TypeId} {B : Nat} {a : Option Addr} {n c : Nat} {ks : List Tr} {xs : List Nv} {w : World} (h : Kids T B (.slice a n c) ks xs w) (d : Nd) : Lies w (fun b => B ≤ b) (.mk d ks) (d.val a n c) := by
  obtain ⟨A, c', e⟩ := h.out.shape
  simp only [Value.slice.injEq] at e
  obtain ⟨rfl, rfl, rfl⟩ := e
  rw [h.len]
  refine .mk d ks a c (fun j => (xs.getD j nv0).d) (fun j => (xs.getD j nv0).a) (fun j => (xs.getD j nv0).n) (fun j => (xs.getD j nv0).c) (by
    by_cases hx : xs = []
    · rw [← h.len, hx]; exact Nat.zero_le _
    · obtain ⟨g, cap, cur, e2, _, _, _, h3⟩ := h.out.some hx
      simp only [Value.slice.injEq] at e2
      obtain ⟨_, _, rfl⟩ := e2
      rw [← h.len]; exact h3) ?_ fun j hj => (h.each j hj).mono fun b _ hb => hb.1
  by_cases hl : ks = []
  · exact .inl hl
  · right
    have hx : xs ≠ [] := fun e => hl (by have := h.len; rw [e] at this; exact List.length_eq_zero_iff.1 this.symm)
    have ho := h.out
    obtain ⟨g, cap, cur, e2, h0, h1, h2, h3⟩ := ho.some hx
    simp only [Value.slice.injEq] at e2
    obtain ⟨rfl, -, rfl⟩ := e2
    refine ⟨g, 0, rfl, h2, h0, fun j hj i hi => ?_⟩
    have := Own.cell ho j i (by rw [h.len]; exact hj) hi
    have e : 0 + j * 8 + i = j * nE.z + i := by show 0 + j * 8 + i = j * 8 + i; omega
    rw [e]; exact this
/-- One kid more: what wpList_append leaves, beside a tree that lies at or above the row's world. -/
theorem Kids.push {T : TypeId} {B g cap n : Nat} {v : Value} {ks : List Tr} {xs : List Nv} {x : Nv} {t : Tr} {w w' : World} (h : Kids T B v ks xs w) (hx : Lies w (fun b => B ≤ b ∧ v.ownBlock ≠ some b) t x.val)
    (ho : Own nE T B (.slice (some ⟨g, 0, none⟩) n cap) (xs ++ [x]) w') (hfar : ∀ b, b < w.heap.size → v.ownBlock ≠ some b → w'.heap[b]? = w.heap[b]?) (hz : w.heap.size ≤ w'.heap.size) (hat : v.ownBlock = some g ∨ w.heap.size ≤ g) :
    Kids T B (.slice (some ⟨g, 0, none⟩) n cap) (ks ++ [t]) (xs ++ [x]) w' := by
  have go : ∀ (t : Tr) (u : Value), Lies w (fun b => B ≤ b ∧ v.ownBlock ≠ some b) t u → Lies w' (fun b => B ≤ b ∧ (Value.slice (some ⟨g, 0, none⟩) n cap).ownBlock ≠ some b) t u := by
    intro t u hu
    have h1 := hu.mono (S' := fun b => B ≤ b ∧ v.ownBlock ≠ some b ∧ b < w.heap.size) fun b hlt hb => ⟨hb.1, hb.2, hlt⟩
    have h2 := h1.on hz fun b hlt hb => hfar b hlt hb.2.1
    refine h2.mono fun b _ hb => ⟨hb.1, fun e => ?_⟩
    have e2 : g = b := by simpa [Value.ownBlock] using e
    subst e2
    rcases hat with h3 | h3
    · exact hb.2.1 h3
    · have := hb.2.2; omega
  refine ⟨ho, by simp [h.len], fun j hj => ?_⟩
  by_cases hjl : j < ks.length
  · have e1 : (ks ++ [t]).getD j tr0 = ks.getD j tr0 := by simp [List.getD_eq_getElem?_getD, List.getElem?_append_left hjl]
    have e2 : (xs ++ [x]).getD j nv0 = xs.getD j nv0 := by simp [List.getD_eq_getElem?_getD, List.getElem?_append_left (show j < xs.length by rw [h.len]; exact hjl)]
    rw [e1, e2]; exact go _ _ (h.each j hjl)
  · have hje : j = ks.length := by simp at hj; omega
    subst hje
    have e1 : (ks ++ [t]).getD ks.length tr0 = t := by simp [List.getD_eq_getElem?_getD]
    have e2 : (xs ++ [x]).getD ks.length nv0 = x := by rw [← h.len]; simp [List.getD_eq_getElem?_getD]
    rw [e1, e2]; exact go _ _ hx
end Go.Proofs.YtgodeffkboihlaaGreatDoor.Trc

/- Trees: marks, the same, the bare (plain). -/
set_option linter.unusedVariables false
namespace Go.Proofs.YtgodeffkboihlaaGreatDoor.Trd
open Tra

/-- Is a type of this kind check's alone? (Name 21 .. Nil 24, Unary 26, Binary 27, Call 28, Method 30) -/
def marks (k : Int) : Bool := (decide (21 ≤ k) && decide (k ≤ 24)) || k == 26 || k == 27 || k == 28 || k == 30
/-- Two nodes' own data, but for places and marks. -/
def sameNd (a b : Nd) : Bool := decide (a.k = b.k) && decide (a.text = b.text) && decide (a.n = b.n) && (marks a.k || decide (a.ty = b.ty))
def bareNd (a : Nd) : Nd := ⟨a.k, a.text, a.n, if marks a.k then .empty else a.ty, 0, 0, 0⟩
mutual
def same : Tr → Tr → Bool
  | .mk a k, .mk b l => sameNd a b && sames k l
def sames : List Tr → List Tr → Bool
  | [], [] => true
  | t :: k, u :: l => same t u && sames k l
  | _, _ => false
end
mutual
def bare : Tr → Tr
  | .mk a k => .mk (bareNd a) (bares k)
def bares : List Tr → List Tr
  | [] => []
  | t :: k => bare t :: bares k
end
theorem bares_map (k : List Tr) : bares k = k.map bare := by
  induction k with
  | nil => rfl
  | cons t k ih => rw [bares, ih]; rfl
theorem bare_mk (a : Nd) (k : List Tr) : bare (.mk a k) = .mk (bareNd a) (k.map bare) := by rw [bare, bares_map]
theorem sames_length : ∀ {k l : List Tr}, sames k l = true → k.length = l.length
  | [], [], _ => rfl
  | t :: k, u :: l, h => by
    simp only [sames, Bool.and_eq_true] at h
    simp [sames_length h.2]
  | [], _ :: _, h => by simp [sames] at h
  | _ :: _, [], h => by simp [sames] at h
theorem sames_at : ∀ {k l : List Tr}, k.length = l.length → (sames k l = true ↔ ∀ j, j < k.length → same (k.getD j tr0) (l.getD j tr0) = true)
  | [], [], _ => by simp [sames]
  | t :: k, u :: l, h => by
    have ih := sames_at (k := k) (l := l) (by simpa using h)
    simp only [sames, Bool.and_eq_true, ih]
    constructor
    · rintro ⟨h1, h2⟩ j hj
      cases j with
      | zero => simpa using h1
      | succ j => simpa using h2 j (by simpa using hj)
    · intro h2
      exact ⟨by simpa using h2 0 (by simp), fun j hj => by simpa using h2 (j + 1) (by simpa using hj)⟩
  | [], _ :: _, h => by simp at h
  | _ :: _, [], h => by simp at h
/-- The kids up to the j-th are alike: what a loop has seen. -/
theorem sames_take_succ {k l : List Tr} (h : k.length = l.length) {j : Nat} (hj : j < k.length) : sames (k.take (j + 1)) (l.take (j + 1)) = (sames (k.take j) (l.take j) && same (k.getD j tr0) (l.getD j tr0)) := by
  induction j generalizing k l with
  | zero =>
    match k, l, h, hj with
    | t :: k, u :: l, _, _ => simp [sames]
  | succ j ih =>
    match k, l, h, hj with
    | t :: k, u :: l, h, hj =>
      have := ih (k := k) (l := l) (by simpa using h) (by simpa using hj)
      simp only [List.take_succ_cons, sames, this, List.getD_cons_succ, Bool.and_assoc]
theorem sameNd_refl (a : Nd) : sameNd a a = true := by simp [sameNd]
theorem same_refl : ∀ t : Tr, same t t = true := by
  refine tree_ind fun d ks ih => ?_
  simp only [same, sameNd_refl, Bool.true_and]
  exact (sames_at rfl).2 ih
theorem sameNd_comm (a b : Nd) : sameNd a b = sameNd b a := by
  unfold sameNd
  rw [Bool.eq_iff_iff]
  simp only [Bool.and_eq_true, Bool.or_eq_true, decide_eq_true_eq]
  constructor <;> rintro ⟨⟨⟨h1, h2⟩, h3⟩, h4⟩ <;> refine ⟨⟨⟨h1.symm, h2.symm⟩, h3.symm⟩, ?_⟩
  · rcases h4 with h | h
    · exact .inl (h1 ▸ h)
    · exact .inr h.symm
  · rcases h4 with h | h
    · exact .inl (h1 ▸ h)
    · exact .inr h.symm
theorem sameNd_bare (a b : Nd) : sameNd (bareNd a) (bareNd b) = sameNd a b := by
  unfold sameNd bareNd
  rw [Bool.eq_iff_iff]
  simp only [Bool.and_eq_true, Bool.or_eq_true, decide_eq_true_eq]
  constructor
  · rintro ⟨⟨⟨h1, h2⟩, h3⟩, h4⟩
    refine ⟨⟨⟨h1, h2⟩, h3⟩, ?_⟩
    rcases h4 with h | h
    · exact .inl h
    · by_cases hm : marks a.k = true
      · exact .inl hm
      · rw [if_neg hm, if_neg (by rw [← h1]; exact hm)] at h
        exact .inr h
  · rintro ⟨⟨⟨h1, h2⟩, h3⟩, h4⟩
    refine ⟨⟨⟨h1, h2⟩, h3⟩, ?_⟩
    rcases h4 with h | h
    · exact .inl h
    · by_cases hm : marks a.k = true
      · exact .inl hm
      · rw [if_neg hm, if_neg (by rw [← h1]; exact hm)]
        exact .inr h
end Go.Proofs.YtgodeffkboihlaaGreatDoor.Trd

/- api.Node's type in this seat. -/
set_option linter.unusedVariables false
namespace Go.Proofs.YtgodeffkboihlaaGreatDoor.Tre
open Trb

abbrev ndT : TypeId := 25
abbrev kidsT : TypeId := 23
noncomputable def fldT : Nat → TypeId := fun i => ((Tryz.prog.fieldsOf ndT)[i]?.map (·.type)).getD 0
set_option maxRecDepth 100000 in
theorem nodeTy : NodeTy Tryz.prog ndT kidsT fldT where
  st := by kernel_rfl
  sl := by kernel_rfl
  cells := by kernel_rfl
  size := by kernel_rfl
  fs i hi := by
    match i, hi with
    | 0, _ => exact ⟨by kernel_rfl, by kernel_rfl⟩
    | 1, _ => exact ⟨by kernel_rfl, by kernel_rfl⟩
    | 2, _ => exact ⟨by kernel_rfl, by kernel_rfl⟩
    | 3, _ => exact ⟨by kernel_rfl, by kernel_rfl⟩
    | 4, _ => exact ⟨by kernel_rfl, by kernel_rfl⟩
    | 5, _ => exact ⟨by kernel_rfl, by kernel_rfl⟩
    | 6, _ => exact ⟨by kernel_rfl, by kernel_rfl⟩
    | 7, _ => exact ⟨by kernel_rfl, by kernel_rfl⟩
  u0 := by kernel_rfl
  u1 := by kernel_rfl
  u2 := by kernel_rfl
  u3 := by kernel_rfl
  u4 := by kernel_rfl
  u5 := by kernel_rfl
  u6 := by kernel_rfl
  u7 := by kernel_rfl
end Go.Proofs.YtgodeffkboihlaaGreatDoor.Tre

/- Trees: how deep, and sums of kids' sizes (plain). -/
set_option linter.unusedVariables false
namespace Go.Proofs.YtgodeffkboihlaaGreatDoor.Trf
open Tra

mutual
/-- How many nodes stand above one another. -/
def depth : Tr → Nat
  | .mk _ ks => 1 + depths ks
def depths : List Tr → Nat
  | [] => 0
  | t :: l => max (depth t) (depths l)
end
theorem depth_pos (t : Tr) : 1 ≤ depth t := by cases t; simp only [depth]; omega
theorem depths_append (l m : List Tr) : depths (l ++ m) = max (depths l) (depths m) := by
  induction l with
  | nil => simp [depths]
  | cons t l ih => simp only [List.cons_append, depths, ih]; omega
theorem take_succ {l : List Tr} {j : Nat} (hj : j < l.length) : l.take (j + 1) = l.take j ++ [l.getD j tr0] := by
  rw [List.take_succ_eq_append_getElem hj]
  simp [List.getD_eq_getElem?_getD, hj]
theorem depths_take_succ {l : List Tr} {j : Nat} (hj : j < l.length) : depths (l.take (j + 1)) = max (depths (l.take j)) (depth (l.getD j tr0)) := by
  rw [take_succ hj, depths_append]; simp [depths]
theorem sizes_take_succ {l : List Tr} {j : Nat} (hj : j < l.length) : sizes (l.take (j + 1)) = sizes (l.take j) + size (l.getD j tr0) := by
  rw [take_succ hj, sizes_append]; simp [sizes]
theorem sizes_take_le (l : List Tr) (j : Nat) : sizes (l.take j) ≤ sizes l := by
  have h := sizes_append (l.take j) (l.drop j)
  rw [List.take_append_drop] at h; omega
theorem depths_take_le (l : List Tr) (j : Nat) : depths (l.take j) ≤ depths l := by
  have h := depths_append (l.take j) (l.drop j)
  rw [List.take_append_drop] at h; omega
theorem depths_le_sizes : ∀ t : Tr, depth t ≤ size t := by
  refine tree_ind fun d ks ih => ?_
  simp only [depth, size]
  suffices ∀ l : List Tr, (∀ j, j < l.length → depth (l.getD j tr0) ≤ size (l.getD j tr0)) → depths l ≤ sizes l by have := this ks ih; omega
  intro l
  induction l with
  | nil => intro _; simp [depths, sizes]
  | cons t l il =>
    intro h
    have h0 := h 0 (by simp)
    have h1 := il fun j hj => by simpa using h (j + 1) (by simpa using hj)
    simp only [List.getD_cons_zero] at h0
    simp only [depths, sizes]; omega
end Go.Proofs.YtgodeffkboihlaaGreatDoor.Trf

/- Trees of one's own, block apart from block (with a mark behind each list of kids, or without): no function of the program. -/
set_option linter.unusedVariables false
namespace Go.Proofs.YtgodeffkboihlaaGreatDoor.Trg
open Go.RowKit Tra Trb Rwo Trc

/-- The node behind a list of kids: its data. -/
def markNd : Nd := ⟨0, ⟨#[98, 101, 104, 105, 110, 100]⟩, 0, .empty, 0, 0, 0⟩
def markNv : Nv := ⟨markNd, none, 0, 0⟩
/-- What stands in a row of kids. -/
def rowOf (m : Bool) (xs : List Nv) : List Nv := if m then xs ++ [markNv] else xs
/-- A tree whose rows are the call's own (type T), each in a block of S, no two in one; m: a mark stands behind each list. -/
inductive Sep (T : TypeId) (m : Bool) (w : World) : (Nat → Prop) → Tr → Value → Prop
  | mk (S : Nat → Prop) (R : Nat → Nat → Prop) (d : Nd) (ks : List Tr) (a : Option Addr) (c n : Nat) (xs : List Nv)
      (ho : Own nE T 0 (.slice a n c) (rowOf m xs) w) (hl : xs.length = ks.length)
      (hS : ∀ b, (Value.slice a n c).ownBlock = some b → S b) (hR : ∀ j, j < ks.length → ∀ b, R j b → S b ∧ (Value.slice a n c).ownBlock ≠ some b)
      (hd : ∀ i j, i < ks.length → j < ks.length → i ≠ j → ∀ b, R i b → ¬ R j b)
      (hk : ∀ j, j < ks.length → Sep T m w (R j) (ks.getD j tr0) (xs.getD j nv0).val) : Sep T m w S (.mk d ks) (d.val a ks.length c)
variable {T : TypeId} {m : Bool} {w w' : World} {S S' : Nat → Prop} {t : Tr} {v : Value}
theorem Sep.on (h : Sep T m w S t v) (hS : ∀ b, b < w.heap.size → S b → w'.heap[b]? = w.heap[b]?) : Sep T m w' S t v := by
  induction h with
  | mk S R d ks a c n xs ho hl hS2 hR hd hk ih =>
    exact .mk S R d ks a c n xs (ho.kept fun b hb => hS b (ho.lt hb).2 (hS2 b hb)) hl hS2 hR hd fun j hj => ih j hj fun b hb hr => hS b hb (hR j hj b hr).1
theorem Sep.kept (h : Sep T m w S t v) (hb : Below w.heap.size w w') : Sep T m w' S t v := h.on fun b hlt _ => hb.block b hlt
theorem Sep.mono (h : Sep T m w S t v) (hS : ∀ b, S b → S' b) : Sep T m w S' t v := by
  cases h with
  | mk _ R d ks a c n xs ho hl hS2 hR hd hk => exact .mk S' R d ks a c n xs ho hl (fun b hb => hS b (hS2 b hb)) (fun j hj b hb => ⟨hS b (hR j hj b hb).1, (hR j hj b hb).2⟩) hd hk
theorem rowOf_getD {xs : List Nv} {j : Nat} (hj : j < xs.length) : (rowOf m xs).getD j nv0 = xs.getD j nv0 := by
  unfold rowOf
  cases m with
  | false => rfl
  | true => simp only [if_true, List.getD_eq_getElem?_getD, List.getElem?_append_left hj]
theorem rowOf_length (xs : List Nv) : xs.length ≤ (rowOf m xs).length := by
  unfold rowOf; cases m <;> simp
/-- Marks stand where they should. -/
inductive MLies (m : Bool) (w : World) : Tr → Value → Prop
  | mk (d : Nd) (ks : List Tr) (a : Option Addr) (c : Nat) (ds : Nat → Nd) (xs : Nat → Option Addr) (ns cs : Nat → Nat)
      (hm : m = true → ∃ b o, a = some ⟨b, o, none⟩ ∧ ks.length + 1 ≤ c ∧ ∀ i, i < 8 → w.cell? ⟨b, o + ks.length * 8 + i, none⟩ = (markNd.row none 0 0)[i]?)
      (hat : ks = [] ∨ ∃ b o, a = some ⟨b, o, none⟩ ∧ b < w.heap.size ∧ ∀ j, j < ks.length → ∀ i, i < 8 → w.cell? ⟨b, o + j * 8 + i, none⟩ = ((ds j).row (xs j) (ns j) (cs j))[i]?)
      (hk : ∀ j, j < ks.length → MLies m w (ks.getD j tr0) ((ds j).val (xs j) (ns j) (cs j))) : MLies m w (.mk d ks) (d.val a ks.length c)
theorem MLies.ofLies (h : Lies w S t v) : MLies false w t v := by
  induction h with
  | mk d ks a c ds xs ns cs hcap hat hk ih =>
    exact .mk d ks a c ds xs ns cs (fun e => by cases e) (hat.imp id fun ⟨b, o, h1, h2, _, h4⟩ => ⟨b, o, h1, h2, h4⟩) ih
/-- The cells of a row. -/
theorem row_cells {B : Nat} {a : Option Addr} {n c : Nat} {zs : List Nv} (ho : Own nE T B (.slice a n c) zs w) (hz : zs ≠ []) : ∃ b, a = some ⟨b, 0, none⟩ ∧ n = zs.length ∧ zs.length ≤ c ∧ b < w.heap.size ∧ (Value.slice a n c).ownBlock = some b ∧ ∀ j, j < zs.length → ∀ i, i < 8 → w.cell? ⟨b, 0 + j * 8 + i, none⟩ = ((zs.getD j nv0).d.row (zs.getD j nv0).a (zs.getD j nv0).n (zs.getD j nv0).c)[i]? := by
  obtain ⟨g, cap, cur, e, h0, h1, h2, h3⟩ := ho.some hz
  simp only [Value.slice.injEq] at e
  obtain ⟨rfl, rfl, rfl⟩ := e
  refine ⟨g, rfl, rfl, h3, h2, rfl, fun j hj i hi => ?_⟩
  have := Own.cell ho j i hj hi
  have e : 0 + j * 8 + i = j * nE.z + i := by show 0 + j * 8 + i = j * 8 + i; omega
  rw [e]; exact this
theorem Sep.mlies (h : Sep T m w S t v) : MLies m w t v := by
  induction h with
  | mk S R d ks a c n xs ho hl hS2 hR hd hk ih =>
    refine .mk d ks a c (fun j => (xs.getD j nv0).d) (fun j => (xs.getD j nv0).a) (fun j => (xs.getD j nv0).n) (fun j => (xs.getD j nv0).c) ?_ ?_ ih
    · intro e
      subst e
      obtain ⟨b, h1, h2, h3, h4, _, h5⟩ := row_cells ho (by simp [rowOf])
      have hlen : (rowOf true xs).length = ks.length + 1 := by simp [rowOf, hl]
      refine ⟨b, 0, h1, by omega, fun i hi => ?_⟩
      have := h5 ks.length (by omega) i hi
      have e : (rowOf true xs).getD ks.length nv0 = markNv := by unfold rowOf; rw [← hl]; simp [List.getD_eq_getElem?_getD]
      rw [e] at this; exact this
    · by_cases hks : ks = []
      · exact .inl hks
      · right
        have hp := rowOf_length (m := m) xs
        have hpos : 0 < ks.length := List.length_pos_iff.2 hks
        obtain ⟨b, h1, h2, h3, h4, _, h5⟩ := row_cells ho (by intro e; rw [e] at hp; simp at hp; rw [hp] at hl; simp at hl; exact hks (List.length_eq_zero_iff.1 hl.symm))
        refine ⟨b, 0, h1, h4, fun j hj i hi => ?_⟩
        have := h5 j (by omega) i hi
        rw [rowOf_getD (by omega)] at this
        exact this
theorem Sep.lies (h : Sep T m w S t v) : Lies w S t v := by
  induction h with
  | mk S R d ks a c n xs ho hl hS2 hR hd hk ih =>
    refine .mk d ks a c (fun j => (xs.getD j nv0).d) (fun j => (xs.getD j nv0).a) (fun j => (xs.getD j nv0).n) (fun j => (xs.getD j nv0).c) (by
      have hp := rowOf_length (m := m) xs
      by_cases hz : rowOf m xs = []
      · rw [hz] at hp; simp at hp; rw [hp] at hl; simp at hl; omega
      · obtain ⟨_, _, _, h3, _⟩ := row_cells ho hz
        omega) ?_ fun j hj => (ih j hj).mono fun b _ hb => (hR j hj b hb).1
    by_cases hks : ks = []
    · exact .inl hks
    · right
      have hp := rowOf_length (m := m) xs
      obtain ⟨b, h1, h2, h3, h4, h6, h5⟩ := row_cells ho (by intro e; rw [e] at hp; simp at hp; rw [hp] at hl; simp at hl; exact hks (List.length_eq_zero_iff.1 hl.symm))
      refine ⟨b, 0, h1, h4, hS2 b h6, fun j hj i hi => ?_⟩
      have := h5 j (by omega) i hi
      rw [rowOf_getD (by omega)] at this
      exact this
/-- A list of kids that is being built. -/
structure Build (T : TypeId) (m : Bool) (B : Nat) (v : Value) (ks : List Tr) (xs : List Nv) (R : Nat → Nat → Prop) (w : World) : Prop where
  out : Own nE T B v xs w
  len : xs.length = ks.length
  far : ∀ j, j < ks.length → ∀ b, R j b → B ≤ b ∧ b < w.heap.size ∧ v.ownBlock ≠ some b
  apart : ∀ i j, i < ks.length → j < ks.length → i ≠ j → ∀ b, R i b → ¬ R j b
  each : ∀ j, j < ks.length → Sep T m w (R j) (ks.getD j tr0) (xs.getD j nv0).val
theorem Build.nil (T : TypeId) (m : Bool) (B : Nat) (w : World) : Build T m B (.slice none 0 0) [] [] (fun _ _ => False) w :=
  ⟨Own.nil _ _, rfl, fun j hj => absurd hj (by simp), fun i j hi => absurd hi (by simp), fun j hj => absurd hj (by simp)⟩
variable {B g cap n : Nat} {ks : List Tr} {xs : List Nv} {R : Nat → Nat → Prop} {x : Nv}
theorem Build.kept (h : Build T m B v ks xs R w) (hb : Below w.heap.size w w') : Build T m B v ks xs R w' :=
  ⟨h.out.below hb (Nat.le_refl _), h.len, fun j hj b hr => ⟨(h.far j hj b hr).1, Nat.lt_of_lt_of_le (h.far j hj b hr).2.1 hb.size, (h.far j hj b hr).2.2⟩, h.apart, fun j hj => (h.each j hj).kept hb⟩
/-- Where all blocks from B on stay, it stays. -/
theorem Build.far_kept (h : Build T m B v ks xs R w) (hb : ∀ b, B ≤ b → b < w.heap.size → w'.heap[b]? = w.heap[b]?) (hz : w.heap.size ≤ w'.heap.size) : Build T m B v ks xs R w' :=
  ⟨h.out.kept fun b e => hb b (h.out.lt e).1 (h.out.lt e).2, h.len, fun j hj b hr => ⟨(h.far j hj b hr).1, Nat.lt_of_lt_of_le (h.far j hj b hr).2.1 hz, (h.far j hj b hr).2.2⟩, h.apart, fun j hj => (h.each j hj).on fun b hlt hr => hb b (h.far j hj b hr).1 hlt⟩
theorem getD_snoc_lt {α : Type} {l : List α} {x d : α} {j : Nat} (h : j < l.length) : (l ++ [x]).getD j d = l.getD j d := by simp [List.getD_eq_getElem?_getD, List.getElem?_append_left h]
theorem getD_snoc_eq {α : Type} {l : List α} {x d : α} {j : Nat} (h : j = l.length) : (l ++ [x]).getD j d = x := by subst h; simp [List.getD_eq_getElem?_getD]
/-- One kid more: made since the world had z blocks, lying in w; then the append to w'. -/
theorem Build.push {z : Nat} (h : Build T m B v ks xs R w) (hz : ∀ j, j < ks.length → ∀ b, R j b → b < z) (hvz : ∀ b, v.ownBlock = some b → b < z) (hBz : B ≤ z) (hx : Sep T m w (fun b => z ≤ b ∧ b < w.heap.size) t x.val)
    (ho : Own nE T B (.slice (some ⟨g, 0, none⟩) n cap) (xs ++ [x]) w') (hfar : ∀ b, b < w.heap.size → v.ownBlock ≠ some b → w'.heap[b]? = w.heap[b]?) (hsz : w.heap.size ≤ w'.heap.size) (hat : v.ownBlock = some g ∨ w.heap.size ≤ g) :
    Build T m B (.slice (some ⟨g, 0, none⟩) n cap) (ks ++ [t]) (xs ++ [x]) (fun j b => if j < ks.length then R j b else z ≤ b ∧ b < w.heap.size) w' := by
  have far2 : ∀ j, j < ks.length + 1 → ∀ b, (if j < ks.length then R j b else z ≤ b ∧ b < w.heap.size) → B ≤ b ∧ b < w.heap.size ∧ v.ownBlock ≠ some b := by
    intro j hj b hb
    by_cases hjl : j < ks.length
    · rw [if_pos hjl] at hb; exact h.far j hjl b hb
    · rw [if_neg hjl] at hb; exact ⟨by omega, hb.2, fun e => by have := hvz b e; omega⟩
  have ne : ∀ b, b < w.heap.size → v.ownBlock ≠ some b → (Value.slice (some ⟨g, 0, none⟩) n cap).ownBlock ≠ some b := by
    intro b hb hv e
    have e2 : g = b := by simpa [Value.ownBlock] using e
    subst e2
    rcases hat with h3 | h3
    · exact hv h3
    · omega
  refine ⟨ho, by simp [h.len], ?_, ?_, ?_⟩
  · intro j hj b hb
    have := far2 j (by simpa using hj) b hb
    exact ⟨this.1, Nat.lt_of_lt_of_le this.2.1 hsz, ne b this.2.1 this.2.2⟩
  · intro i j hi hj hij b hbi hbj
    simp at hi hj
    by_cases hil : i < ks.length <;> by_cases hjl : j < ks.length
    · rw [if_pos hil] at hbi; rw [if_pos hjl] at hbj; exact h.apart i j hil hjl hij b hbi hbj
    · rw [if_pos hil] at hbi; rw [if_neg hjl] at hbj; have := hz i hil b hbi; omega
    · rw [if_neg hil] at hbi; rw [if_pos hjl] at hbj; have := hz j hjl b hbj; omega
    · omega
  · intro j hj
    simp at hj
    by_cases hjl : j < ks.length
    · rw [getD_snoc_lt hjl, getD_snoc_lt (by rw [h.len]; exact hjl)]
      simp only [if_pos hjl]
      exact (h.each j hjl).on fun b hb hr => hfar b hb (h.far j hjl b hr).2.2
    · rw [getD_snoc_eq (by omega), getD_snoc_eq (by rw [h.len]; omega)]
      simp only [if_neg hjl]
      exact hx.on fun b hb hr => hfar b hb fun e => by have := hvz b e; omega
/-- The list is whole. -/
theorem Build.close {a : Option Addr} {c : Nat} (h : Build T false B (.slice a n c) ks xs R w) (d : Nd) : Sep T false w (fun b => B ≤ b ∧ b < w.heap.size) (.mk d ks) (d.val a n c) := by
  obtain ⟨A, c', e⟩ := h.out.shape
  simp only [Value.slice.injEq] at e
  obtain ⟨rfl, rfl, rfl⟩ := e
  rw [h.len]
  refine .mk _ R d ks a c xs.length xs (h.out.base (Nat.zero_le _)) h.len ?_ ?_ h.apart h.each
  · intro b hb; exact h.out.lt hb
  · intro j hj b hb; have := h.far j hj b hb; exact ⟨⟨this.1, this.2.1⟩, this.2.2⟩
/-- The list is whole, and a mark has been put behind it. -/
theorem Build.mark (h : Build T true B v ks xs R w) (d : Nd) (ho : Own nE T B (.slice (some ⟨g, 0, none⟩) n cap) (xs ++ [markNv]) w') (hfar : ∀ b, b < w.heap.size → v.ownBlock ≠ some b → w'.heap[b]? = w.heap[b]?) (hsz : w.heap.size ≤ w'.heap.size) (hat : v.ownBlock = some g ∨ w.heap.size ≤ g) :
    Sep T true w' (fun b => B ≤ b ∧ b < w'.heap.size) (.mk d ks) (d.val (some ⟨g, 0, none⟩) ks.length cap) := by
  refine .mk _ R d ks (some ⟨g, 0, none⟩) cap n xs (ho.base (Nat.zero_le _)) h.len ?_ ?_ h.apart ?_
  · intro b hb; exact ho.lt hb
  · intro j hj b hb
    have := h.far j hj b hb
    refine ⟨⟨this.1, Nat.lt_of_lt_of_le this.2.1 hsz⟩, fun e => ?_⟩
    have e2 : g = b := by simpa [Value.ownBlock] using e
    subst e2
    rcases hat with h3 | h3
    · exact this.2.2 h3
    · omega
  · intro j hj
    exact (h.each j hj).on fun b hb hr => hfar b hb (h.far j hj b hr).2.2
end Go.Proofs.YtgodeffkboihlaaGreatDoor.Trg
