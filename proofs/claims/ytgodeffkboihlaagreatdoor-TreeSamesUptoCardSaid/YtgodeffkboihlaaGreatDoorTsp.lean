/- Spoil of a tree of one's own: it comes back, and what is not the tree's stays (plain part). -/
import Derived.Test.YtgodeffkboihlaaGreatDoorTst
set_option linter.unusedVariables false
namespace Go.Proofs.YtgodeffkboihlaaGreatDoor.Tsp
open Go.RowKit Tra Trb Rwo Trc Trg Tcn Tst

/-- A whole node stored at an offset of a block. -/
abbrev putAt (w : World) (g q : Nat) (x : Nv) : World :=
  (((((((w.setCell ⟨g, q, none⟩ (.int .i64 x.d.k)).setCell ⟨g, q + 1, none⟩ (.string x.d.text)).setCell ⟨g, q + 2, none⟩ (.int .i64 x.d.n)).setCell ⟨g, q + 3, none⟩ (.string x.d.ty)).setCell ⟨g, q + 4, none⟩ (.int .i64 x.d.slot)).setCell ⟨g, q + 5, none⟩ (.int .i64 x.d.at_)).setCell ⟨g, q + 6, none⟩ (.int .i64 x.d.line)).setCell ⟨g, q + 7, none⟩ (.slice x.a x.n x.c)
theorem far_at (w : World) (g i b : Nat) (v : Value) (h : b ≠ g) : (w.setCell ⟨g, i, none⟩ v).heap[b]? = w.heap[b]? := heap_setCell_other w ⟨g, i, none⟩ b v h
theorem putAt_far (w : World) (g q b : Nat) (x : Nv) (h : b ≠ g) : (putAt w g q x).heap[b]? = w.heap[b]? := by
  unfold putAt
  rw [far_at _ _ _ _ _ h, far_at _ _ _ _ _ h, far_at _ _ _ _ _ h, far_at _ _ _ _ _ h, far_at _ _ _ _ _ h, far_at _ _ _ _ _ h, far_at _ _ _ _ _ h, far_at _ _ _ _ _ h]
theorem putAt_size (w : World) (g q : Nat) (x : Nv) : (putAt w g q x).heap.size = w.heap.size := by simp [putAt]
theorem putAt_below {B g : Nat} {w0 w : World} (h : Below B w0 w) (hg : B ≤ g) (q : Nat) (x : Nv) : Below B w0 (putAt w g q x) := by
  unfold putAt
  exact (((((((h.setCell (p := ⟨g, q, none⟩) hg _).setCell (p := ⟨g, q + 1, none⟩) hg _).setCell (p := ⟨g, q + 2, none⟩) hg _).setCell (p := ⟨g, q + 3, none⟩) hg _).setCell (p := ⟨g, q + 4, none⟩) hg _).setCell (p := ⟨g, q + 5, none⟩) hg _).setCell (p := ⟨g, q + 6, none⟩) hg _).setCell (p := ⟨g, q + 7, none⟩) hg _
theorem set_getD {l : List Nv} {j : Nat} (hj : j < l.length) (y : Nv) : (l.set j y).getD j nv0 = y := by simp [List.getD_eq_getElem?_getD, hj]
variable {T : TypeId} {B g n cap : Nat} {l : List Nv} {w w' : World}
theorem own_step (h : Own nE T B (.slice (some ⟨g, 0, none⟩) n cap) l w) {j : Nat} (hj : j < l.length) {y : Nv} (hy : l.getD j nv0 = y) (i : Nat) (hi : i < 8) (u : Value) (y' : Nv) (he : nE.f y' = (nE.f y).set i u) :
    Own nE T B (.slice (some ⟨g, 0, none⟩) n cap) (l.set j y') (w.setCell ⟨g, j * 8 + i, none⟩ u) := by
  have := Own.store h j i u y' hj hi (by rw [show nE.d = nv0 from rfl, hy]; exact he)
  exact this
theorem own_put (h : Own nE T B (.slice (some ⟨g, 0, none⟩) n cap) l w) {j : Nat} (hj : j < l.length) (x : Nv) : Own nE T B (.slice (some ⟨g, 0, none⟩) n cap) (l.set j x) (putAt w g (j * 8) x) := by
  obtain ⟨y, hy⟩ : ∃ y, l.getD j nv0 = y := ⟨_, rfl⟩
  have h0 := own_step h hj hy 0 (by omega) (.int .i64 x.d.k) ⟨⟨x.d.k, y.d.text, y.d.n, y.d.ty, y.d.slot, y.d.at_, y.d.line⟩, y.a, y.n, y.c⟩ rfl
  have h1 := own_step h0 (by simpa using hj) (set_getD hj _) 1 (by omega) (.string x.d.text) ⟨⟨x.d.k, x.d.text, y.d.n, y.d.ty, y.d.slot, y.d.at_, y.d.line⟩, y.a, y.n, y.c⟩ rfl
  rw [List.set_set] at h1
  have h2 := own_step h1 (by simpa using hj) (set_getD hj _) 2 (by omega) (.int .i64 x.d.n) ⟨⟨x.d.k, x.d.text, x.d.n, y.d.ty, y.d.slot, y.d.at_, y.d.line⟩, y.a, y.n, y.c⟩ rfl
  rw [List.set_set] at h2
  have h3 := own_step h2 (by simpa using hj) (set_getD hj _) 3 (by omega) (.string x.d.ty) ⟨⟨x.d.k, x.d.text, x.d.n, x.d.ty, y.d.slot, y.d.at_, y.d.line⟩, y.a, y.n, y.c⟩ rfl
  rw [List.set_set] at h3
  have h4 := own_step h3 (by simpa using hj) (set_getD hj _) 4 (by omega) (.int .i64 x.d.slot) ⟨⟨x.d.k, x.d.text, x.d.n, x.d.ty, x.d.slot, y.d.at_, y.d.line⟩, y.a, y.n, y.c⟩ rfl
  rw [List.set_set] at h4
  have h5 := own_step h4 (by simpa using hj) (set_getD hj _) 5 (by omega) (.int .i64 x.d.at_) ⟨⟨x.d.k, x.d.text, x.d.n, x.d.ty, x.d.slot, x.d.at_, y.d.line⟩, y.a, y.n, y.c⟩ rfl
  rw [List.set_set] at h5
  have h6 := own_step h5 (by simpa using hj) (set_getD hj _) 6 (by omega) (.int .i64 x.d.line) ⟨⟨x.d.k, x.d.text, x.d.n, x.d.ty, x.d.slot, x.d.at_, x.d.line⟩, y.a, y.n, y.c⟩ rfl
  rw [List.set_set] at h6
  have h7 := own_step h6 (by simpa using hj) (set_getD hj _) 7 (by omega) (.slice x.a x.n x.c) x rfl
  rw [List.set_set] at h7
  exact h7
/-- The node that Spoil lays. -/
def notNv : Nv := ⟨⟨0, ⟨#[110, 111, 116, 32, 121, 111, 117, 114, 115]⟩, 0, .empty, 0, 0, 0⟩, none, 0, 0⟩
/-- Spoil between two rounds. -/
structure Sp (T : TypeId) (w : World) (B : Nat) (S : Nat → Prop) (R : Nat → Nat → Prop) (g cap : Nat) (ks : List Tr) (xs : List Nv) (k : Nat) (ys : List Nv) (wr : World) : Prop where
  below : Below B w wr
  row : Own nE T 0 (.slice (some ⟨g, 0, none⟩) ks.length cap) ys wr
  len : ys.length = ks.length
  rest : ∀ j, k ≤ j → j < ks.length → ys.getD j nv0 = xs.getD j nv0 ∧ Sep T false wr (R j) (ks.getD j tr0) (xs.getD j nv0).val
  far : ∀ b, b < w.heap.size → ¬ S b → wr.heap[b]? = w.heap[b]?
/-- What a call leaves. -/
def SpPost (B : Nat) (S : Nat → Prop) (p o : Nat) (w : World) (e : Ending) (w' : World) : Prop :=
  e = .returned (.tuple #[]) ∧ Below B w w' ∧ (∀ b, b < w.heap.size → ¬ S b → b ≠ p → w'.heap[b]? = w.heap[b]?) ∧ ∃ x n c, w'.heap[p]? = (w.setCell ⟨p, o + 7, none⟩ (.slice x n c)).heap[p]?
variable {S : Nat → Prop} {R : Nat → Nat → Prop} {ks : List Tr} {xs ys : List Nv} {k : Nat} {wr w1 : World}
/-- A kid has been spoiled, then its node is overwritten. -/
theorem Sp.next (h : Sp T w B S R g cap ks xs k ys wr) (hk : k < ks.length) (hg : S g) (hgB : B ≤ g) (hR : ∀ j, j < ks.length → ∀ b, R j b → S b ∧ g ≠ b)
    (hd : ∀ i j, i < ks.length → j < ks.length → i ≠ j → ∀ b, R i b → ¬ R j b) (hsz : w.heap.size ≤ wr.heap.size)
    (hb : Below B wr w1) (hfar : ∀ b, b < wr.heap.size → ¬ R k b → b ≠ g → w1.heap[b]? = wr.heap[b]?) {x : Option Addr} {n' c' : Nat} (hrow : w1.heap[g]? = (wr.setCell ⟨g, k * 8 + 7, none⟩ (.slice x n' c')).heap[g]?) :
    Own nE T 0 (.slice (some ⟨g, 0, none⟩) ks.length cap) (ys.set k ⟨(ys.getD k nv0).d, x, n', c'⟩) w1 ∧ Sp T w B S R g cap ks xs (k + 1) (ys.set k notNv) (putAt w1 g (k * 8) notNv) := by
  have hky : k < ys.length := by rw [h.len]; exact hk
  have o1 := own_step h.row hky rfl 7 (by omega) (.slice x n' c') ⟨(ys.getD k nv0).d, x, n', c'⟩ rfl
  have o2 : Own nE T 0 (.slice (some ⟨g, 0, none⟩) ks.length cap) (ys.set k ⟨(ys.getD k nv0).d, x, n', c'⟩) w1 := o1.kept fun b e => by
    have : g = b := by simpa [Value.ownBlock] using e
    subst this; exact hrow
  refine ⟨o2, putAt_below (h.below.trans hb) hgB _ _, ?_, by simp [h.len], ?_, ?_⟩
  · have := own_put o2 (j := k) (by simpa using hky) notNv
    rwa [List.set_set] at this
  · intro j hkj hj
    have hne : k ≠ j := by omega
    obtain ⟨e1, e2⟩ := h.rest j (by omega) hj
    refine ⟨by rw [← e1]; simp [List.getD_eq_getElem?_getD, hne], ?_⟩
    refine e2.on fun b hlt hr => ?_
    have := hR j hj b hr
    rw [putAt_far _ _ _ _ _ (fun e => this.2 e.symm)]
    exact hfar b hlt (fun hk' => hd k j hk hj hne b hk' hr) (fun e => this.2 e.symm)
  · intro b hlt hnS
    have hbg : b ≠ g := fun e => hnS (e ▸ hg)
    rw [putAt_far _ _ _ _ _ hbg, hfar b (by omega) (fun hr => hnS (hR k hk b hr).1) hbg]
    exact h.far b hlt hnS
end Go.Proofs.YtgodeffkboihlaaGreatDoor.Tsp
