/- A function that makes a tree: between two rounds. Three blocks: the argument's box, the result's row, the new node's row; then the kids. No function of the program. -/
import Derived.Test.YtgodeffkboihlaaGreatDoorM1
import Derived.Test.YtgodeffkboihlaaGreatDoorTcn
set_option linter.unusedVariables false
namespace Go.Proofs.YtgodeffkboihlaaGreatDoor.Tst
open Go.RowKit Tra Trb Rwo Trc Trg Tcn

abbrev ndT : TypeId := 25
/-- d0, a0, n0, c0: the argument; d: the new node's data; its kids so far: the trees ks in the row .slice a n c. -/
structure St (W : World) (m : Bool) (d0 : Nd) (a0 : Option Addr) (n0 c0 : Nat) (d : Nd) (a : Option Addr) (n c : Nat) (ks : List Tr) (xs : List Nv) (R : Nat → Nat → Prop) (w : World) : Prop where
  below : Below W.heap.size W w
  size : W.heap.size + 3 ≤ w.heap.size
  box : w.heap[W.heap.size]? = some (.cells (d0.row a0 n0 c0).toArray ndT (0, 0))
  res : w.heap[W.heap.size + 1]? = some (.cells (nd0.row none 0 0).toArray ndT (0, 0))
  out : w.heap[W.heap.size + 1 + 1]? = some (.cells (d.row a n c).toArray ndT (0, 0))
  kids : Build ndT m (W.heap.size + 3) (.slice a n c) ks xs R w
variable {W w w' : World} {m : Bool} {d0 : Nd} {a0 : Option Addr} {n0 c0 : Nat} {d : Nd} {a : Option Addr} {n c : Nat} {ks : List Tr} {xs : List Nv} {R : Nat → Nat → Prop} {t : Tr} {x : Nv} {g n' cap z : Nat}
theorem St.kept (h : St W m d0 a0 n0 c0 d a n c ks xs R w) (hb : Below w.heap.size w w') : St W m d0 a0 n0 c0 d a n c ks xs R w' := by
  have hs := h.size
  exact ⟨h.below.trans (hb.mono h.below.size), Nat.le_trans hs hb.size, (hb.block _ (by omega)).trans h.box, (hb.block _ (by omega)).trans h.res, (hb.block _ (by omega)).trans h.out, h.kids.kept hb⟩
/-- The first world: three fresh blocks. -/
theorem St.start (W : World) (m : Bool) (d0 : Nd) (a0 : Option Addr) (n0 c0 : Nat) (d : Nd) :
    St W m d0 a0 n0 c0 d none 0 0 [] [] (fun _ _ => False) (((W.alloc (.cells (d0.row a0 n0 c0).toArray ndT)).alloc (.cells (nd0.row none 0 0).toArray ndT)).alloc (.cells (d.row none 0 0).toArray ndT)) := by
  have b1 := (Below.refl W.heap.size W).alloc (Nat.le_refl _) (.cells (d0.row a0 n0 c0).toArray ndT)
  have b2 := b1.alloc b1.size (.cells (nd0.row none 0 0).toArray ndT)
  have b3 := b2.alloc b2.size (.cells (d.row none 0 0).toArray ndT)
  refine ⟨b3, by simp, ?_, ?_, ?_, Build.nil _ _ _ _⟩
  · rw [heap_alloc_old _ _ (by simp; omega), heap_alloc_old _ _ (by simp)]; exact heap_alloc_new _ _
  · rw [heap_alloc_old _ _ (by simp)]
    have := heap_alloc_new (W.alloc (.cells (d0.row a0 n0 c0).toArray ndT)) (.cells (nd0.row none 0 0).toArray ndT)
    simpa using this
  · have := heap_alloc_new ((W.alloc (.cells (d0.row a0 n0 c0).toArray ndT)).alloc (.cells (nd0.row none 0 0).toArray ndT)) (.cells (d.row none 0 0).toArray ndT)
    simpa using this
theorem row_cells8 {w : World} {b : Nat} {d : Nd} {a : Option Addr} {n c : Nat} (h : w.heap[b]? = some (.cells (d.row a n c).toArray ndT (0, 0))) : (∀ i, i < 8 → w.cell? ⟨b, i, none⟩ = (d.row a n c)[i]?) ∧ (∀ i, w.frozen? ⟨b, i, none⟩ = false) := by
  refine ⟨fun i hi => ?_, fun i => Lib.frozen_of_heap h i⟩
  rw [Lib.cell_of_heap h]; simp
theorem heap_set_same {w : World} {b : Nat} {d : Nd} {a : Option Addr} {n c : Nat} (h : w.heap[b]? = some (.cells (d.row a n c).toArray ndT (0, 0))) (a' : Option Addr) (n' c' : Nat) :
    (w.setCell ⟨b, 7, none⟩ (.slice a' n' c')).heap[b]? = some (.cells (d.row a' n' c').toArray ndT (0, 0)) := by
  rw [heap_setCell_same _ _ 7 _ _ _ h]; rfl
theorem heap_set_far (w : World) (b k : Nat) (v : Value) (h : k ≠ b) : (w.setCell ⟨b, 7, none⟩ v).heap[k]? = w.heap[k]? := heap_setCell_other w ⟨b, 7, none⟩ k v h
/-- One kid more. wr: the round's first world; z: the world's size ahead of the kid's making; w: behind it; w': behind the append. -/
theorem St.push {wr : World} (h0 : St W m d0 a0 n0 c0 d a n c ks xs R wr) (h : St W m d0 a0 n0 c0 d a n c ks xs R w) (hz : wr.heap.size ≤ z) (hx : Sep ndT m w (fun b => z ≤ b ∧ b < w.heap.size) t x.val)
    (ho : Own nE ndT (W.heap.size + 3) (.slice (some ⟨g, 0, none⟩) n' cap) (xs ++ [x]) w') (hb : Below (W.heap.size + 3) w w') (hfar : ∀ b, b < w.heap.size → (Value.slice a n c).ownBlock ≠ some b → w'.heap[b]? = w.heap[b]?) (hsz : w.heap.size < w'.heap.size)
    (hat : (Value.slice a n c).ownBlock = some g ∨ w.heap.size ≤ g) :
    ∃ R', St W m d0 a0 n0 c0 d (some ⟨g, 0, none⟩) n' cap (ks ++ [t]) (xs ++ [x]) R' (w'.setCell ⟨W.heap.size + 1 + 1, 7, none⟩ (.slice (some ⟨g, 0, none⟩) n' cap)) := by
  have hs := h.size
  have hs0 := h0.size
  have K := Build.push h.kids (fun j hj b hr => Nat.lt_of_lt_of_le (h0.kids.far j hj b hr).2.1 hz) (fun b e => Nat.lt_of_lt_of_le (h0.kids.out.lt e).2 hz) (by omega) hx ho hfar (Nat.le_of_lt hsz) hat
  refine ⟨fun j b => if j < ks.length then R j b else z ≤ b ∧ b < w.heap.size, (h.below.trans (hb.mono (by omega))).setCell (p := ⟨W.heap.size + 1 + 1, 7, none⟩) (by show W.heap.size ≤ W.heap.size + 1 + 1; omega) _, by rw [show (w'.setCell ⟨W.heap.size + 1 + 1, 7, none⟩ (.slice (some ⟨g, 0, none⟩) n' cap)).heap.size = w'.heap.size by simp]; omega, ?_, ?_, ?_, ?_⟩
  · rw [heap_set_far _ _ _ _ (by omega), hb.block _ (by omega)]; exact h.box
  · rw [heap_set_far _ _ _ _ (by omega), hb.block _ (by omega)]; exact h.res
  · exact heap_set_same ((hb.block _ (by omega)).trans h.out) _ _ _
  · exact K.far_kept (fun b hB hlt => heap_set_far _ _ _ _ (by omega)) (by simp)
/-- The whole row is stored into the result's block. -/
abbrev put8 (w : World) (g : Nat) (d : Nd) (a : Option Addr) (n c : Nat) : World :=
  (((((((w.setCell ⟨g, 0, none⟩ (.int .i64 d.k)).setCell ⟨g, 1, none⟩ (.string d.text)).setCell ⟨g, 2, none⟩ (.int .i64 d.n)).setCell ⟨g, 3, none⟩ (.string d.ty)).setCell ⟨g, 4, none⟩ (.int .i64 d.slot)).setCell ⟨g, 5, none⟩ (.int .i64 d.at_)).setCell ⟨g, 6, none⟩ (.int .i64 d.line)).setCell ⟨g, 7, none⟩ (.slice a n c)
theorem put8_row {w : World} {g : Nat} {d' : Nd} {a' : Option Addr} {m k : Nat} (h : w.heap[g]? = some (.cells (d'.row a' m k).toArray ndT (0, 0))) (d : Nd) (a : Option Addr) (n c : Nat) : (put8 w g d a n c).heap[g]? = some (.cells (d.row a n c).toArray ndT (0, 0)) := by
  have h0 : (w.setCell ⟨g, 0, none⟩ (.int .i64 d.k)).heap[g]? = some (.cells ((Nd.mk d.k d'.text d'.n d'.ty d'.slot d'.at_ d'.line).row a' m k).toArray ndT (0, 0)) := by rw [heap_setCell_same _ _ 0 _ _ _ h]; rfl
  have h1 := heap_setCell_same _ g 1 _ _ (.string d.text) h0
  replace h1 : ((w.setCell ⟨g, 0, none⟩ (.int .i64 d.k)).setCell ⟨g, 1, none⟩ (.string d.text)).heap[g]? = some (.cells ((Nd.mk d.k d.text d'.n d'.ty d'.slot d'.at_ d'.line).row a' m k).toArray ndT (0, 0)) := by rw [h1]; rfl
  unfold put8
  generalize (w.setCell ⟨g, 0, none⟩ (.int .i64 d.k)).setCell ⟨g, 1, none⟩ (.string d.text) = w1 at h1 ⊢
  have h2 : (w1.setCell ⟨g, 2, none⟩ (.int .i64 d.n)).heap[g]? = some (.cells ((Nd.mk d.k d.text d.n d'.ty d'.slot d'.at_ d'.line).row a' m k).toArray ndT (0, 0)) := by rw [heap_setCell_same _ _ 2 _ _ _ h1]; rfl
  generalize w1.setCell ⟨g, 2, none⟩ (.int .i64 d.n) = w2 at h2 ⊢
  have h3 : (w2.setCell ⟨g, 3, none⟩ (.string d.ty)).heap[g]? = some (.cells ((Nd.mk d.k d.text d.n d.ty d'.slot d'.at_ d'.line).row a' m k).toArray ndT (0, 0)) := by rw [heap_setCell_same _ _ 3 _ _ _ h2]; rfl
  generalize w2.setCell ⟨g, 3, none⟩ (.string d.ty) = w3 at h3 ⊢
  have h4 : (w3.setCell ⟨g, 4, none⟩ (.int .i64 d.slot)).heap[g]? = some (.cells ((Nd.mk d.k d.text d.n d.ty d.slot d'.at_ d'.line).row a' m k).toArray ndT (0, 0)) := by rw [heap_setCell_same _ _ 4 _ _ _ h3]; rfl
  generalize w3.setCell ⟨g, 4, none⟩ (.int .i64 d.slot) = w4 at h4 ⊢
  have h5 : (w4.setCell ⟨g, 5, none⟩ (.int .i64 d.at_)).heap[g]? = some (.cells ((Nd.mk d.k d.text d.n d.ty d.slot d.at_ d'.line).row a' m k).toArray ndT (0, 0)) := by rw [heap_setCell_same _ _ 5 _ _ _ h4]; rfl
  generalize w4.setCell ⟨g, 5, none⟩ (.int .i64 d.at_) = w5 at h5 ⊢
  have h6 : (w5.setCell ⟨g, 6, none⟩ (.int .i64 d.line)).heap[g]? = some (.cells (d.row a' m k).toArray ndT (0, 0)) := by rw [heap_setCell_same _ _ 6 _ _ _ h5]; rfl
  generalize w5.setCell ⟨g, 6, none⟩ (.int .i64 d.line) = w6 at h6 ⊢
  rw [heap_setCell_same _ _ 7 _ _ _ h6]; rfl
theorem put8_far (w : World) (g b : Nat) (d : Nd) (a : Option Addr) (n c : Nat) (h : b ≠ g) : (put8 w g d a n c).heap[b]? = w.heap[b]? := by
  unfold put8
  rw [heap_setCell_other _ ⟨g, 7, none⟩ b _ h, heap_setCell_other _ ⟨g, 6, none⟩ b _ h, heap_setCell_other _ ⟨g, 5, none⟩ b _ h, heap_setCell_other _ ⟨g, 4, none⟩ b _ h, heap_setCell_other _ ⟨g, 3, none⟩ b _ h, heap_setCell_other _ ⟨g, 2, none⟩ b _ h, heap_setCell_other _ ⟨g, 1, none⟩ b _ h, heap_setCell_other _ ⟨g, 0, none⟩ b _ h]
theorem put8_size (w : World) (g : Nat) (d : Nd) (a : Option Addr) (n c : Nat) : (put8 w g d a n c).heap.size = w.heap.size := by simp [put8]
theorem put8_below {B g : Nat} {w0 w : World} (h : Below B w0 w) (hg : B ≤ g) (d : Nd) (a : Option Addr) (n c : Nat) : Below B w0 (put8 w g d a n c) := by
  unfold put8
  exact (((((((h.setCell (p := ⟨g, 0, none⟩) hg _).setCell (p := ⟨g, 1, none⟩) hg _).setCell (p := ⟨g, 2, none⟩) hg _).setCell (p := ⟨g, 3, none⟩) hg _).setCell (p := ⟨g, 4, none⟩) hg _).setCell (p := ⟨g, 5, none⟩) hg _).setCell (p := ⟨g, 6, none⟩) hg _).setCell (p := ⟨g, 7, none⟩) hg _
/-- The end: the tree is made, and stands in the result's block. -/
theorem St.finish (h : St W false d0 a0 n0 c0 d a n c ks xs R w) : (put8 w (W.heap.size + 1) d a n c).heap[W.heap.size + 1]? = some (.cells (d.row a n c).toArray ndT (0, 0)) ∧ Below W.heap.size W (put8 w (W.heap.size + 1) d a n c) ∧
    Sep ndT false (put8 w (W.heap.size + 1) d a n c) (fun b => W.heap.size ≤ b ∧ b < (put8 w (W.heap.size + 1) d a n c).heap.size) (.mk d ks) (d.val a n c) := by
  refine ⟨put8_row h.res d a n c, put8_below h.below (by omega) _ _ _ _, ?_⟩
  have h1 := (h.kids.far_kept (w' := put8 w (W.heap.size + 1) d a n c) (fun b hB _ => put8_far _ _ _ _ _ _ _ (by omega)) (by rw [put8_size]; exact Nat.le_refl _)).close d
  exact h1.mono fun b hb => ⟨by omega, hb.2⟩
/-- The same with a mark. -/
theorem St.finish_mark (h : St W true d0 a0 n0 c0 d a n c ks xs R w) (ho : Own nE ndT (W.heap.size + 3) (.slice (some ⟨g, 0, none⟩) n' cap) (xs ++ [markNv]) w') (hb : Below (W.heap.size + 3) w w')
    (hfar : ∀ b, b < w.heap.size → (Value.slice a n c).ownBlock ≠ some b → w'.heap[b]? = w.heap[b]?) (hsz : w.heap.size < w'.heap.size) (hat : (Value.slice a n c).ownBlock = some g ∨ w.heap.size ≤ g) (w2 : World) (hw2 : w2 = w'.setCell ⟨W.heap.size + 1 + 1, 7, none⟩ (.slice (some ⟨g, 0, none⟩) ks.length cap)) :
    w2.heap[W.heap.size + 1 + 1]? = some (.cells (d.row (some ⟨g, 0, none⟩) ks.length cap).toArray ndT (0, 0)) ∧ w2.heap[W.heap.size + 1]? = some (.cells (nd0.row none 0 0).toArray ndT (0, 0)) ∧ Below W.heap.size W w2 ∧ W.heap.size + 3 ≤ w2.heap.size ∧
    (put8 w2 (W.heap.size + 1) d (some ⟨g, 0, none⟩) ks.length cap).heap[W.heap.size + 1]? = some (.cells (d.row (some ⟨g, 0, none⟩) ks.length cap).toArray ndT (0, 0)) ∧ Below W.heap.size W (put8 w2 (W.heap.size + 1) d (some ⟨g, 0, none⟩) ks.length cap) ∧
    Sep ndT true (put8 w2 (W.heap.size + 1) d (some ⟨g, 0, none⟩) ks.length cap) (fun b => W.heap.size ≤ b ∧ b < (put8 w2 (W.heap.size + 1) d (some ⟨g, 0, none⟩) ks.length cap).heap.size) (.mk d ks) (d.val (some ⟨g, 0, none⟩) ks.length cap) := by
  have hs := h.size
  subst hw2
  have hz : (w'.setCell ⟨W.heap.size + 1 + 1, 7, none⟩ (.slice (some ⟨g, 0, none⟩) ks.length cap)).heap.size = w'.heap.size := by simp
  have r1 : (w'.setCell ⟨W.heap.size + 1 + 1, 7, none⟩ (.slice (some ⟨g, 0, none⟩) ks.length cap)).heap[W.heap.size + 1]? = some (.cells (nd0.row none 0 0).toArray ndT (0, 0)) := by rw [heap_set_far _ _ _ _ (by omega), hb.block _ (by omega)]; exact h.res
  have b1 : Below W.heap.size W (w'.setCell ⟨W.heap.size + 1 + 1, 7, none⟩ (.slice (some ⟨g, 0, none⟩) ks.length cap)) := (h.below.trans (hb.mono (by omega))).setCell (p := ⟨W.heap.size + 1 + 1, 7, none⟩) (by show W.heap.size ≤ W.heap.size + 1 + 1; omega) _
  refine ⟨heap_set_same ((hb.block _ (by omega)).trans h.out) _ _ _, r1, b1, by omega, put8_row r1 _ _ _ _, put8_below b1 (by omega) _ _ _ _, ?_⟩
  have K := h.kids.mark d ho hfar (Nat.le_of_lt hsz) hat
  have K2 := K.on (w' := put8 (w'.setCell ⟨W.heap.size + 1 + 1, 7, none⟩ (.slice (some ⟨g, 0, none⟩) ks.length cap)) (W.heap.size + 1) d (some ⟨g, 0, none⟩) ks.length cap) fun b hlt hb => by
    rw [put8_far _ _ _ _ _ _ _ (by omega), heap_set_far _ _ _ _ (by omega)]
  exact K2.mono fun b hb => ⟨by omega, by rw [put8_size, hz]; exact hb.2⟩
end Go.Proofs.YtgodeffkboihlaaGreatDoor.Tst
