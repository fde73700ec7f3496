/- SlotsSeen: what stands in memory. -/
import Derived.Test.YtijlnlcjlkanaaaVsa
import Derived.RangeFuncNested
import Derived.RangeFuncBox
set_option linter.unusedVariables false
namespace Go.Proofs.Ytijlnlcjlkanaaa.Vsb
open Sta (Hd hdE Step)
open Sud (Kept kept_t kept_b)
open Go.RowKit Go.Shelf Rwo Vta Vtb Vtc Vtd Vtg Vte Vtj Vtk Vtl Vtn Vud Vsa

theorem blk_ne {w : World} {a b : Nat} {x y : Array Value} {T U : TypeId} (h : w.heap[a]? = some (.cells x T (0, 0))) (k : w.heap[b]? = some (.cells y U (0, 0))) (hTU : T ≠ U) : a ≠ b := by
  intro e
  subst e
  rw [h] at k
  simp only [Option.some.injEq, Obj.cells.injEq] at k
  exact hTU k.2.1
theorem row_ne {α : Type} {E : Enc α} {T U : TypeId} {B b : Nat} {v : Value} {l : List α} {w : World} {y : Array Value} (h : Rwo.Own E T B v l w) (k : w.heap[b]? = some (.cells y U (0, 0))) (hTU : T ≠ U) : v.ownBlock ≠ some b := by
  intro e
  rcases h.2 with ⟨rfl, _⟩ | ⟨g, cap, cur, rfl, h0, h1, _⟩
  · cases e
  · have e1 : g = b := by simpa [Value.ownBlock] using e
    subst e1
    exact blk_ne h1 k hTU rfl
theorem below_new (w : World) (o : Obj) : Below w.heap.size w (w.alloc o) := (Below.refl w.heap.size w).alloc (Nat.le_refl _) o
theorem boxed_below {W W' : World} {b : Nat} {T : TypeId} {v : Value} (k : Boxed W b T v) (h : Below W.heap.size W W') : Boxed W' b T v := (h.block b k.lt).trans k
theorem boxed_set {W : World} {b : Nat} {T : TypeId} {v u : Value} (h : Boxed W b T v) : Boxed (W.setCell ⟨b, 0, none⟩ u) b T u := heap_setCell_same W b 0 #[v] T u h
theorem boxed_other {W : World} {b c : Nat} {T : TypeId} {v u : Value} (h : Boxed W b T v) (hbc : b ≠ c) : Boxed (W.setCell ⟨c, 0, none⟩ u) b T v := (sc_other hbc).trans h
theorem kept_set {B : Nat} {W : World} {b : Nat} {u : Value} (hb : b < B) : Kept B W (W.setCell ⟨b, 0, none⟩ u) :=
  ⟨by have := ((Below.refl 0 W).setCell (p := ⟨b, 0, none⟩) (Nat.zero_le _) u).size; exact this, fun c o hc ho _ => (sc_other (by omega)).trans ho⟩
/-- Blocks of cells stand. -/
def CK (w w' : World) : Prop := w.heap.size ≤ w'.heap.size ∧ ∀ (b : Nat) (c : Array Value) (T : TypeId) (r : Nat × Nat), w.heap[b]? = some (Obj.cells c T r) → w'.heap[b]? = some (Obj.cells c T r)
theorem CK.of_below {w w' : World} (h : Below w.heap.size w w') : CK w w' := ⟨h.size, fun b c T r e => (h.block b (Array.getElem?_eq_some_iff.1 e).1).trans e⟩
theorem CK.of_grown {w w' : World} {row : Option Nat} (hg : w.grownBy w' row) (hr : ∀ r, row = some r → ∃ o : Obj, w.heap[r]? = some o ∧ o.isCells = false) : CK w w' := by
  refine ⟨hg.size, fun b c T r e => (hg.block b (Array.getElem?_eq_some_iff.1 e).1 (fun h => ?_)).trans e⟩
  obtain ⟨o, ho, hc⟩ := hr b h.symm
  rw [e] at ho
  cases ho; cases hc
theorem CK.own {α : Type} {E : Enc α} {T : TypeId} {B : Nat} {v : Value} {l : List α} {w w' : World} (k : CK w w') (h : Rwo.Own E T B v l w) : Rwo.Own E T B v l w' := by
  refine ⟨h.1, h.2.imp id ?_⟩
  rintro ⟨g, cap, cur, hv, h0, h1, h2⟩
  exact ⟨g, cap, cur, hv, h0, k.2 g _ _ _ h1, h2⟩
theorem CK.tab {g : Nat} {vs vo : Value} {t : Tab} {w w' : World} (k : CK w w') (h : TabAt g vs vo t w) : TabAt g vs vo t w' :=
  ⟨k.2 _ _ _ _ h.blk, k.own h.sl, k.own h.ord, Nat.lt_of_lt_of_le h.lt k.1⟩
/-- What stands while SlotsSeen runs: the boxes of a, hs, l, out, in; the table; the handles told; the blocks of the things' lists. -/
structure Cur (w0 : World) (bq ba bh bl bo bi g : Nat) (vl vO vi : Value) (hs : List Hd) (xs : List Th) (vs vo vh : Value) (t : Tab) (w : World) : Prop where
  a : Boxed w ba 46 (.pointer (some ⟨g, 0, none⟩))
  q : Boxed w bq 46 (.pointer (some ⟨g, 0, none⟩))
  h : Boxed w bh 29 vh
  l : Boxed w bl 45 vl
  o : Boxed w bo 30 vO
  i : Boxed w bi 45 vi
  tab : TabAt g vs vo t w
  told : Rwo.Own hdE 33 w0.heap.size vh hs w
  d1 : ∀ b, vh.ownBlock = some b → vo.ownBlock ≠ some b
  xs : ∀ j, j < xs.length → ∀ b, (xs.getD j th0).p = some ⟨b, 0, none⟩ → Boxed w b 3 (.int .i64 j)
  lg : w0.heap.size ≤ g
  lh : w0.heap.size ≤ bh
  below : Below w0.heap.size w0 w
section
variable {w0 w w' : World} {bq ba bh bl bo bi g : Nat} {vl vO vi vs vo vh : Value} {hs : List Hd} {xs : List Th} {t : Tab}
theorem Cur.ck (c : Cur w0 bq ba bh bl bo bi g vl vO vi hs xs vs vo vh t w) (k : CK w w') (hb : Below w0.heap.size w0 w') : Cur w0 bq ba bh bl bo bi g vl vO vi hs xs vs vo vh t w' :=
  ⟨k.2 _ _ _ _ c.a, k.2 _ _ _ _ c.q, k.2 _ _ _ _ c.h, k.2 _ _ _ _ c.l, k.2 _ _ _ _ c.o, k.2 _ _ _ _ c.i, k.tab c.tab, k.own c.told, c.d1, fun j hj b hb => k.2 _ _ _ _ (c.xs j hj b hb), c.lg, c.lh, hb⟩
theorem Cur.quiet (c : Cur w0 bq ba bh bl bo bi g vl vO vi hs xs vs vo vh t w) (h : Below w.heap.size w w') : Cur w0 bq ba bh bl bo bi g vl vO vi hs xs vs vo vh t w' :=
  c.ck (CK.of_below h) (c.below.trans (h.mono c.below.size))
/-- A block of another type than a table's stands while the table is changed. -/
theorem step_keeps {g b : Nat} {vs vo vs' vo' : Value} {t : Tab} {w w' : World} {c : Array Value} {U : TypeId} (hT : TabAt g vs vo t w) (hS : Step g vs vo vs' vo' w w') (h : w.heap[b]? = some (.cells c U (0, 0)))
    (h1 : U ≠ 87 := by decide) (h2 : 90 ≠ U := by decide) (h3 : 33 ≠ U := by decide) : w'.heap[b]? = some (.cells c U (0, 0)) :=
  (hS.far b (Array.getElem?_eq_some_iff.1 h).1 (blk_ne h hT.blk h1) (row_ne hT.sl h h2) (row_ne hT.ord h h3)).trans h
/-- What is no block of cells stands. -/
theorem step_others {g : Nat} {vs vo vs' vo' : Value} {t : Tab} {w w' : World} (hT : TabAt g vs vo t w) (hS : Step g vs vo vs' vo' w w') {b : Nat} {o : Obj} (h : w.heap[b]? = some o) (ho : o.isCells = false) : w'.heap[b]? = some o := by
  have hrow : ∀ {α : Type} {E : Enc α} {T : TypeId} {B : Nat} {v : Value} {l : List α}, Rwo.Own E T B v l w → v.ownBlock ≠ some b := fun {α E T B v l} k e => by
    rcases k.2 with ⟨rfl, _⟩ | ⟨g', cap, cur, rfl, _, h1, _⟩
    · cases e
    · have e1 : g' = b := by simpa [Value.ownBlock] using e
      subst e1
      rw [h] at h1; cases h1; cases ho
  refine (hS.far b (Array.getElem?_eq_some_iff.1 h).1 (fun e => ?_) (hrow hT.sl) (hrow hT.ord)).trans h
  subst e
  have := hT.blk
  rw [h] at this; cases this; cases ho
theorem Cur.step (c : Cur w0 bq ba bh bl bo bi g vl vO vi hs xs vs vo vh t w) {vs' vo' : Value} {t' : Tab} (hT : TabAt g vs' vo' t' w') (hS : Step g vs vo vs' vo' w w') : Cur w0 bq ba bh bl bo bi g vl vO vi hs xs vs' vo' vh t' w' := by
  refine ⟨step_keeps c.tab hS c.a, step_keeps c.tab hS c.q, step_keeps c.tab hS c.h, step_keeps c.tab hS c.l, step_keeps c.tab hS c.o, step_keeps c.tab hS c.i, hT, ?_, ?_, fun j hj b hb => step_keeps c.tab hS (c.xs j hj b hb), c.lg, c.lh, ?_⟩
  · exact c.told.kept fun b hb => hS.far b (c.told.lt hb).2 (fun e => row_ne c.told c.tab.blk (by decide) (by rw [← e]; exact hb)) (Rwo.Own.apart c.told c.tab.sl (by decide) hb) (c.d1 b hb)
  · intro b hb e
    rcases hS.nvo b e with h1 | h1
    · exact c.d1 b hb h1
    · have := (c.told.lt hb).2; omega
  · exact c.below.trans (hS.below c.lg c.below.size (fun b e => by have := (c.tab.sl.lt e).1; have := c.lg; omega) (fun b e => by have := (c.tab.ord.lt e).1; have := c.lg; omega))
/-- A box of a number or a truth value is written. -/
theorem Cur.setBox (c : Cur w0 bq ba bh bl bo bi g vl vO vi hs xs vs vo vh t w) {b : Nat} {T : TypeId} {v u : Value} (hb : Boxed w b T v) (hw : w0.heap.size ≤ b) (hT : T = 3 ∨ T = 4) (hx : ∀ j, j < xs.length → (xs.getD j th0).p ≠ some ⟨b, 0, none⟩) :
    Cur w0 bq ba bh bl bo bi g vl vO vi hs xs vs vo vh t (w.setCell ⟨b, 0, none⟩ u) := by
  have hts : (T ≠ 46 ∧ T ≠ 29 ∧ T ≠ 45 ∧ T ≠ 30) ∧ T ≠ 87 ∧ 90 ≠ T ∧ 33 ≠ T := by
    rcases hT with rfl | rfl <;> decide
  obtain ⟨⟨t1, t2, t3, t4⟩, t5, t6, t7⟩ := hts
  have ns := row_ne c.tab.sl hb t6
  have no := row_ne c.tab.ord hb t7
  have nh := row_ne c.told hb t7
  have hsz := (Below.refl 0 w).setCell (p := ⟨b, 0, none⟩) (Nat.zero_le _) u
  refine ⟨(sc_other (blk_ne c.a hb t1.symm)).trans c.a, (sc_other (blk_ne c.q hb t1.symm)).trans c.q, (sc_other (blk_ne c.h hb t2.symm)).trans c.h, (sc_other (blk_ne c.l hb t3.symm)).trans c.l, (sc_other (blk_ne c.o hb t4.symm)).trans c.o, (sc_other (blk_ne c.i hb t3.symm)).trans c.i,
    ⟨(sc_other (blk_ne c.tab.blk hb t5.symm)).trans c.tab.blk, c.tab.sl.kept fun k hk => sc_other (fun e => ns (e ▸ hk)), c.tab.ord.kept fun k hk => sc_other (fun e => no (e ▸ hk)), Nat.lt_of_lt_of_le c.tab.lt hsz.size⟩,
    c.told.kept fun k hk => sc_other (fun e => nh (e ▸ hk)), c.d1, fun j hj k hk => ?_, c.lg, c.lh, c.below.setCell (p := ⟨b, 0, none⟩) hw u⟩
  exact (sc_other (fun e => hx j hj (by rw [hk, e]))).trans (c.xs j hj k hk)
/-- The handles told grow. -/
theorem Cur.put (c : Cur w0 bq ba bh bl bo bi g vl vO vi hs xs vs vo vh t w) {W : World} (hW : W.os = w.os ∧ W.tape = w.tape ∧ W.output = w.output) {B b3 cp3 : Nat} {y : Hd} (hB : w0.heap.size ≤ B) (hO : Rwo.Own hdE 33 w0.heap.size (.slice (some ⟨b3, 0, none⟩) (hs.length + 1) cp3) (hs ++ [y]) w') (hb : Below B W w')
    (hfar : ∀ b, b < w.heap.size → vh.ownBlock ≠ some b → w'.heap[b]? = w.heap[b]?) (hsz : w.heap.size < w'.heap.size) (hat : vh.ownBlock = some b3 ∨ w.heap.size ≤ b3) :
    Cur w0 bq ba bh bl bo bi g vl vO vi (hs ++ [y]) xs vs vo (.slice (some ⟨b3, 0, none⟩) (hs.length + 1) cp3) t (w'.setCell ⟨bh, 0, none⟩ (.slice (some ⟨b3, 0, none⟩) (hs.length + 1) cp3)) := by
  have ngv : vh.ownBlock ≠ some bh := row_ne c.told c.h (by decide)
  have far : ∀ {k : Nat}, k < w.heap.size → k ≠ bh → vh.ownBlock ≠ some k → (w'.setCell ⟨bh, 0, none⟩ (.slice (some ⟨b3, 0, none⟩) (hs.length + 1) cp3)).heap[k]? = w.heap[k]? := fun {k} h1 h2 h3 => (sc_other h2).trans (hfar k h1 h3)
  have kp : ∀ {k : Nat} {cs : Array Value} {U : TypeId}, w.heap[k]? = some (.cells cs U (0, 0)) → U ≠ 29 → 33 ≠ U → (w'.setCell ⟨bh, 0, none⟩ (.slice (some ⟨b3, 0, none⟩) (hs.length + 1) cp3)).heap[k]? = some (.cells cs U (0, 0)) := fun {k cs U} e h1 h2 =>
    (far (Array.getElem?_eq_some_iff.1 e).1 (blk_ne e c.h h1) (row_ne c.told e h2)).trans e
  have hb3 : b3 ≠ bh := fun e => by
    rcases hat with h | h
    · exact ngv (e ▸ h)
    · have := c.h.lt; omega
  have hs2 : (w'.setCell ⟨bh, 0, none⟩ (.slice (some ⟨b3, 0, none⟩) (hs.length + 1) cp3)).heap.size = w'.heap.size := by simp
  refine ⟨kp c.a (by decide) (by decide), kp c.q (by decide) (by decide), ?_, kp c.l (by decide) (by decide), kp c.o (by decide) (by decide), kp c.i (by decide) (by decide), ⟨kp c.tab.blk (by decide) (by decide), ?_, ?_, ?_⟩, ?_, ?_, fun j hj b hb => kp (c.xs j hj b hb) (by decide) (by decide), c.lg, c.lh, ?_⟩
  · exact Boxed.set (v := vh) _ ((hfar bh c.h.lt ngv).trans c.h)
  · exact c.tab.sl.kept fun k hk => far (c.tab.sl.lt hk).2 (fun e => row_ne c.tab.sl c.h (by decide) (e ▸ hk)) (Rwo.Own.apart c.tab.sl c.told (by decide) hk)
  · exact c.tab.ord.kept fun k hk => far (c.tab.ord.lt hk).2 (fun e => row_ne c.tab.ord c.h (by decide) (e ▸ hk)) (fun e => c.d1 k e hk)
  · rw [hs2]; exact Nat.lt_trans c.tab.lt hsz
  · refine hO.kept fun k hk => sc_other ?_
    have e0 : b3 = k := by simpa [Value.ownBlock] using hk
    rw [← e0]; exact hb3
  · intro k hk e
    have e0 : b3 = k := by simpa [Value.ownBlock] using hk
    rw [← e0] at e
    rcases hat with h | h
    · exact c.d1 b3 h e
    · have := (c.tab.ord.lt e).2; omega
  · have hz := (Below.refl 0 w').setCell (p := ⟨bh, 0, none⟩) (Nat.zero_le _) (.slice (some ⟨b3, 0, none⟩) (hs.length + 1) cp3)
    refine c.below.trans ⟨hz.os.trans (hb.os.trans hW.1), hz.tape.trans (hb.tape.trans hW.2.1), hz.output.trans (hb.output.trans hW.2.2), by rw [hs2]; omega, fun k hk => ?_⟩
    have := c.lh
    have := c.below.size
    exact far (by omega) (by omega) (fun e => by have := (c.told.lt e).1; omega)
end
end Go.Proofs.Ytijlnlcjlkanaaa.Vsb
