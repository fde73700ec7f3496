/- Rows of rows of ints: stores, appends; two alike. -/
import Derived.Test.YtclcbiiijoeplaaDoorRow
import Derived.Test.YtclcbiiijoeplaaDoorRwp
set_option linter.unusedVariables false
namespace Go.Proofs.YtclcbiiijoeplaaDoor.Rox
open Go.RowKit Rwo Rowz

variable {α : Type} {E : Enc α}
/-- Elements appended onto a row of the call's own; where the new row lies. -/
theorem wpList_appends {P : Program} {ops : Array Oper} {rest : List Oper} {o : Oper} {a : Act} {w : World} {Q : Exit → Act → World → Prop} (hgd : o.guard = none) (s x : Operand) (t : TypeId)
    (ho : o.op = .call { callee := .builtin .append, args := #[s, x], argTypes := #[t, t] })
    (T : TypeId) (z0 : Value) (bytes : Nat) (ht : P.underlying t = Option.some (.slice T)) (hinfo : (P.info? T).map (fun i => (i.zero, i.size, i.bytes)) = Option.some (Option.some z0, E.z, bytes)) (hz : z0.cells.size = E.z)
    (B : Nat) (v : Value) (l : List α) (w0 : World) (hown : Own E T B v l w0) (hs : a.eval s = v) (ys : List α) (cs : Array Value) (hcs : cs = (ys.flatMap E.f).toArray) (c : Nat)
    (H : Nat) (hw : w.heap = w0.heap.push (.cells cs T)) (hx : a.eval x = .slice (Option.some ⟨H, 0, none⟩) ys.length c) (hpos : 0 < ys.length) (hlen : (l.length + ys.length) * (bytes + 1) ≤ 140737488355328) (hB : B ≤ w0.heap.size ∧ w0.heap.size = H)
    (h : ∀ g cap w', Own E T B (.slice (Option.some ⟨g, 0, none⟩) (l.length + ys.length) cap) (l ++ ys) w' → Below B w w' → (∀ b, b < w0.heap.size → v.ownBlock ≠ Option.some b → w'.heap[b]? = w0.heap[b]?) → w0.heap.size < w'.heap.size → (v.ownBlock = Option.some g ∨ w0.heap.size ≤ g) → wpList P ops Q rest (a.put o.dst (.slice (Option.some ⟨g, 0, none⟩) (l.length + ys.length) cap)) w') :
    wpList P ops Q (o :: rest) a w := by
  subst hcs
  obtain ⟨hB, rfl⟩ := hB
  obtain ⟨i0, hi, hz0, hz1, hz2⟩ := info_parts hinfo
  have hlt : ∀ b, b < w0.heap.size → w.heap[b]? = w0.heap[b]? := fun b hb => by rw [hw, Array.getElem?_push_lt hb, Array.getElem?_eq_getElem hb]
  have hnew : w.heap[w0.heap.size]? = Option.some (.cells (ys.flatMap E.f).toArray T (0, 0)) := by rw [hw, Array.getElem?_push_size]
  have hsz : w.heap.size = w0.heap.size + 1 := by rw [hw, Array.size_push]
  have hown1 : Own E T B v l w := hown.kept fun b hb => hlt b (hown.lt hb).2
  have hone : (ys.flatMap E.f).length = ys.length * E.z := flat_length E ys
  have hb2 : (l.length + ys.length) * bytes ≤ 140737488355328 := Nat.le_trans (Nat.mul_le_mul_left _ (Nat.le_succ _)) hlen
  have hb3 : l.length + ys.length ≤ maxLen := by
    have h1 : (l.length + ys.length) * 1 ≤ (l.length + ys.length) * (bytes + 1) := Nat.mul_le_mul_left _ (by omega)
    unfold maxLen; omega
  refine wpList_append_lies w hgd s x t ho B T i0 z0 E.z bytes ht hi hz0 hz1 hz2 hz E.pos v l.length _ hs hown1 ⟨w0.heap.size, 0, none⟩ ys.length c (ys.flatMap E.f) hx hone ?_ (flat_one E _) hpos hb3 hb2 (by omega) _ rfl ?_
  · exact World.news_of_block (cs := (ys.flatMap E.f).toArray) hnew
  intro g cap w' hown' hg hat _
  refine h g cap w' ?_ ((Below.refl B w).grown hg (by omega) (fun k hk => (hown.lt hk).1)) ?_ ?_ (hat.imp id (fun e => by omega))
  · unfold Own
    rw [List.flatMap_append, List.length_append]
    exact hown'
  · intro b hb hne
    rw [hg.block b (by omega) (fun e => hne e.symm), hlt b hb]
  · have := hg.size; omega
variable {B : Nat} {v : Value} {L : List (List Int)} {vs : List SV} {w w6 : World}
theorem apart2 (h : RowsI B v L vs w) {i j : Nat} (hij : i ≠ j) (hi : i < vs.length) (hj : j < vs.length) : ∀ b, (vs.getD i sv0).val.ownBlock = some b → (vs.getD j sv0).val.ownBlock ≠ some b := by
  intro b hb e
  rcases Nat.lt_or_gt_of_ne hij with h1 | h1
  · exact h.apart i j h1 hj b hb e
  · exact h.apart j i h1 hi b e hb
theorem getD_set' {α : Type} {l : List α} {i j : Nat} {x d : α} (hi : i < l.length) : (l.set i x).getD j d = if j = i then x else l.getD j d := by
  simp only [List.getD_eq_getElem?_getD, List.getElem?_set]
  by_cases h : i = j
  · subst h; simp [hi]
  · rw [if_neg h, if_neg (Ne.symm h)]
/-- A number stored into row i. -/
theorem store (h : RowsI B v L vs w) {i k g n c : Nat} (hi : i < vs.length) (he : vs.getD i sv0 = ⟨some ⟨g, 0, none⟩, n, c⟩) (hk : k < (L.getD i []).length) (x : Int) :
    RowsI B v (L.set i ((L.getD i []).set k x)) vs (w.setCell ⟨g, k, none⟩ (.int .i64 x)) := by
  have hI := h.each i hi
  have hbg : (vs.getD i sv0).val.ownBlock = some g := by rw [he]; rfl
  have far : ∀ b, b ≠ g → (w.setCell ⟨g, k, none⟩ (.int .i64 x)).heap[b]? = w.heap[b]? := fun b hb => heap_setCell_other w ⟨g, k, none⟩ b _ hb
  refine ⟨h.out.kept fun b hb => far b (fun e => ?_), by rw [List.length_set]; exact h.len, fun j hj => ?_, h.apart⟩
  · subst e; exact h.out.apart hI (by decide) hb hbg
  · rw [getD_set' (by rw [← h.len]; exact hi)]
    by_cases hji : j = i
    · subst hji
      rw [if_pos rfl]
      rw [he] at hI ⊢
      have h1 := Own.store hI k 0 (.int .i64 x) x hk (by decide) rfl
      have e : k * i64E.z + 0 = k := by show k * 1 + 0 = k; omega
      rw [e] at h1
      exact h1
    · rw [if_neg hji]
      exact (h.each j hj).kept fun b hb => far b (fun e => by subst e; exact apart2 h hji hj hi b hb hbg)
/-- Row i has been appended to, and laid anew into its place. -/
theorem swap (h : RowsI B v L vs w) {i g n c : Nat} {s' : SV} {l' : List Int} (hi : i < vs.length) (hv : v = .slice (some ⟨g, 0, none⟩) n c)
    (hO : Ints B s'.val l' w6) (hfar : ∀ b, b < w.heap.size → (vs.getD i sv0).val.ownBlock ≠ some b → w6.heap[b]? = w.heap[b]?)
    (hat : ∀ b, s'.val.ownBlock = some b → (vs.getD i sv0).val.ownBlock = some b ∨ w.heap.size ≤ b) :
    RowsI B v (L.set i l') (vs.set i s') (w6.setCell ⟨g, i, none⟩ s'.val) := by
  have hgo : v.ownBlock = some g := by rw [hv]; rfl
  have hI := h.each i hi
  have hg6 : Own slE 45 B v vs w6 := h.out.kept fun b hb => hfar b (h.out.lt hb).2 (fun e => h.out.apart hI (by decide) hb e)
  have hst : Own slE 45 B v (vs.set i s') (w6.setCell ⟨g, i, none⟩ s'.val) := by
    rw [hv] at hg6 ⊢
    have h1 := Own.store hg6 i 0 s'.val s' hi (by decide) rfl
    have e : i * slE.z + 0 = i := by show i * 1 + 0 = i; omega
    rw [e] at h1
    exact h1
  have far : ∀ b, b ≠ g → (w6.setCell ⟨g, i, none⟩ s'.val).heap[b]? = w6.heap[b]? := fun b hb => heap_setCell_other w6 ⟨g, i, none⟩ b _ hb
  have new : ∀ j, j ≠ i → j < vs.length → ∀ b, (vs.getD j sv0).val.ownBlock = some b → s'.val.ownBlock ≠ some b := by
    intro j hji hj b hb e
    rcases hat b e with h1 | h1
    · exact apart2 h hji hj hi b hb h1
    · have := ((h.each j hj).lt hb).2; omega
  refine ⟨hst, by rw [List.length_set, List.length_set]; exact h.len, fun j hj => ?_, fun a b hab hb q hq => ?_⟩
  · rw [List.length_set] at hj
    rw [getD_set' hi, getD_set' (by rw [← h.len]; exact hi)]
    by_cases hji : j = i
    · rw [if_pos hji, if_pos hji]
      exact hO.kept fun b hb => far b (fun e => by subst e; exact hg6.apart hO (by decide) hgo hb)
    · rw [if_neg hji, if_neg hji]
      have h1 : Ints B (vs.getD j sv0).val (L.getD j []) w6 := (h.each j hj).kept fun b hb => hfar b ((h.each j hj).lt hb).2 (apart2 h hji hj hi b hb)
      exact h1.kept fun b hb => far b (fun e => by subst e; exact hg6.apart h1 (by decide) hgo hb)
  · rw [List.length_set] at hb
    rw [getD_set' hi] at hq ⊢
    by_cases ha : a = i
    · rw [if_pos ha] at hq
      rw [if_neg (by omega)]
      intro e
      exact new b (by omega) hb q e hq
    · rw [if_neg ha] at hq
      by_cases hb2 : b = i
      · rw [if_pos hb2]; exact new a ha (by omega) q hq
      · rw [if_neg hb2]; exact h.apart a b hab hb q hq
theorem swap_pre (h : RowsI B v L vs w) {i g n c : Nat} (hi : i < vs.length) (hv : v = .slice (some ⟨g, 0, none⟩) n c)
    (hfar : ∀ b, b < w.heap.size → (vs.getD i sv0).val.ownBlock ≠ some b → w6.heap[b]? = w.heap[b]?) : w6.cell? ⟨g, i, none⟩ = some (vs.getD i sv0).val ∧ w6.frozen? ⟨g, i, none⟩ = false := by
  have hI := h.each i hi
  have hg6 : Own slE 45 B v vs w6 := h.out.kept fun b hb => hfar b (h.out.lt hb).2 (fun e => h.out.apart hI (by decide) hb e)
  rw [hv] at hg6
  have := Own.cell hg6 i 0 hi (by decide)
  have e : i * slE.z + 0 = i := by show i * 1 + 0 = i; omega
  rw [e] at this
  exact ⟨this, Own.frozen hg6 i⟩
theorem shape (h : RowsI B v L vs w) : ∃ A c, v = .slice A vs.length c := h.out.shape
/-- What lies at row i. -/
theorem cell (h : RowsI B v L vs w) {i g n c : Nat} (hv : v = .slice (some ⟨g, 0, none⟩) n c) (hi : i < vs.length) : w.cell? ⟨g, i, none⟩ = some (vs.getD i sv0).val := by
  have ho := h.out
  rw [hv] at ho
  have := Own.cell ho i 0 hi (by decide)
  have e : i * slE.z + 0 = i := by show i * 1 + 0 = i; omega
  rw [e] at this; exact this
theorem some_of (h : RowsI B v L vs w) (hne : 0 < vs.length) : ∃ g c, v = .slice (some ⟨g, 0, none⟩) vs.length c := by
  obtain ⟨g, cap, cur, h1, _⟩ := h.out.some (fun e => by rw [e] at hne; simp at hne)
  exact ⟨g, cap, h1⟩
theorem row_shape (h : RowsI B v L vs w) {i : Nat} (hi : i < vs.length) : ∃ A c, vs.getD i sv0 = ⟨A, (L.getD i []).length, c⟩ := by
  obtain ⟨A, c, e⟩ := (h.each i hi).shape
  obtain ⟨s, hs⟩ : ∃ s, vs.getD i sv0 = s := ⟨_, rfl⟩
  obtain ⟨a, n, c'⟩ := s
  refine ⟨A, c, ?_⟩
  rw [hs] at e ⊢
  simp only [Value.slice.injEq] at e
  rw [e.1, e.2.1, e.2.2]
end Go.Proofs.YtclcbiiijoeplaaDoor.Rox
