/- (*slots.Table[int]).Take. -/
import Derived.Test.YtijlnlcjlkanaaaStb
set_option linter.unusedVariables false
namespace Go.Proofs.Ytijlnlcjlkanaaa.Stc
open Go.RowKit Rwo Sta Stb

/-- A handle in memory and a number, as results. -/
theorem hd_results {fn : Func} {p u : Tmp} (h : fn.results = #[.cell p 33, .tmp u]) (tmps : Array Value) (w : World) (g : Nat) (cs : Array Value)
    (hp : tmps.getD p undef = .pointer (some ⟨g, 0, none⟩)) (hg : w.heap[g]? = some (.cells cs 33 (0, 0))) (hs : cs.size = 2) :
    (results fn tmps).run Try.prog w = .ok (.tuple #[.agg cs, tmps.getD u undef]) w := by
  have hp' : tmps[p]?.getD undef = .pointer (some ⟨g, 0, none⟩) := by simpa using hp
  have hi : (Try.prog.info? 33).map (·.size) = some cs.size := by rw [hs]; kernel_rfl
  simp [results, h, hp', asAddr, run_loadVar_row w g 33 33 cs (0, 0) _ hg Try.underlying33 rfl hi]
/-- The first slot that is empty. -/
def firstFree (l : List Sl) : Option Nat := l.findIdx? (fun s => s.ser == 0)
/-- A thing is laid into slot i. -/
def laidIn (t : Tab) (i : Nat) (x : Int) : Tab :=
  { t with sl := t.sl.set i ⟨(t.sl.getD i ⟨0, 0, 0⟩).gen + 1, t.born + 1, x⟩, count := t.count + 1, born := t.born + 1, ord := t.ord ++ [⟨i + 1, (t.sl.getD i ⟨0, 0, 0⟩).gen + 1⟩] }
theorem slot_stored {B b n c : Nat} {l : List Sl} {w : World} (h : Own slE 80 B (.slice (some ⟨b, 0, none⟩) n c) l w) (i : Nat) (hi : i < l.length) (x : Sl) :
    Own slE 80 B (.slice (some ⟨b, 0, none⟩) n c) (l.set i x) (((w.setCell ⟨b, i * 3, none⟩ (.int .u32 x.gen)).setCell ⟨b, i * 3 + 1, none⟩ (.int .i64 x.ser)).setCell ⟨b, i * 3 + 2, none⟩ (.int .i64 x.thing)) := by
  obtain ⟨s, hs⟩ : ∃ s, l.getD i ⟨0, 0, 0⟩ = s := ⟨_, rfl⟩
  have hg : ∀ (m : List Sl) (y : Sl), i < m.length → (m.set i y).getD i ⟨0, 0, 0⟩ = y := fun m y hm => by
    rw [List.getD_eq_getElem?_getD, List.getElem?_set_self hm]; rfl
  have h1 := h.store i 0 (.int .u32 x.gen) ⟨x.gen, s.ser, s.thing⟩ hi (by show 0 < 3; omega) (by show slE.f _ = (slE.f (l.getD i ⟨0, 0, 0⟩)).set 0 _; rw [hs]; rfl)
  have h2 := h1.store i 1 (.int .i64 x.ser) ⟨x.gen, x.ser, s.thing⟩ (by rw [List.length_set]; exact hi) (by show 1 < 3; omega) (by show slE.f _ = (slE.f ((l.set i _).getD i ⟨0, 0, 0⟩)).set 1 _; rw [hg _ _ hi]; rfl)
  have h3 := h2.store i 2 (.int .i64 x.thing) x (by rw [List.length_set, List.length_set]; exact hi) (by show 2 < 3; omega) (by show slE.f _ = (slE.f (((l.set i _).set i _).getD i ⟨0, 0, 0⟩)).set 2 _; rw [hg _ _ (by rw [List.length_set]; exact hi)]; rfl)
  rw [List.set_set, List.set_set] at h3
  exact h3
/-- A thing is laid into slot i, the order still as it was. -/
def halfIn (t : Tab) (i : Nat) (x : Int) : Tab :=
  { t with sl := t.sl.set i ⟨(t.sl.getD i ⟨0, 0, 0⟩).gen + 1, t.born + 1, x⟩, count := t.count + 1, born := t.born + 1 }
theorem sc_other {w : World} {g j b : Nat} {v : Value} (h : b ≠ g) : (w.setCell ⟨g, j, none⟩ v).heap[b]? = w.heap[b]? := heap_setCell_other w ⟨g, j, none⟩ b v h
theorem TabAt.drew {g : Nat} {vs vo : Value} {t : Tab} {w : World} (h : TabAt g vs vo t w) : TabAt g vs vo t w.drew := ⟨h.blk, h.sl, h.ord, h.lt⟩
theorem Step.drew {g : Nat} {vs vo vs' vo' : Value} {w w' : World} (h : Step g vs vo vs' vo' w w') : Step g vs vo vs' vo' w w'.drew := ⟨h.os, h.tape, h.output, h.size, h.far, h.nvs, h.nvo⟩
/-- What the stores into the table and into a slot come to. -/
theorem half_stored {g b1 cp1 i : Nat} {vo : Value} {t1 : Tab} {s : Sl} {x : Int} {w1 : World} (hT1 : TabAt g (.slice (some ⟨b1, 0, none⟩) t1.sl.length cp1) vo t1 w1) (hi : i < t1.sl.length) (hsl : t1.sl.getD i ⟨0, 0, 0⟩ = s) (hgb : g ≠ b1) :
    TabAt g (.slice (some ⟨b1, 0, none⟩) t1.sl.length cp1) vo (halfIn t1 i x) (((((w1.setCell ⟨g, 3, none⟩ (.int .i64 ((t1.born : Int) + 1))).setCell ⟨g, 2, none⟩ (.int .i64 ((t1.count : Int) + 1))).setCell ⟨b1, i * 3, none⟩ (.int .u32 ((s.gen : Int) + 1))).setCell ⟨b1, i * 3 + 1, none⟩ (.int .i64 ((t1.born : Int) + 1))).setCell ⟨b1, i * 3 + 2, none⟩ (.int .i64 x)).drew ∧
    Step g (.slice (some ⟨b1, 0, none⟩) t1.sl.length cp1) vo (.slice (some ⟨b1, 0, none⟩) t1.sl.length cp1) vo w1 (((((w1.setCell ⟨g, 3, none⟩ (.int .i64 ((t1.born : Int) + 1))).setCell ⟨g, 2, none⟩ (.int .i64 ((t1.count : Int) + 1))).setCell ⟨b1, i * 3, none⟩ (.int .u32 ((s.gen : Int) + 1))).setCell ⟨b1, i * 3 + 1, none⟩ (.int .i64 ((t1.born : Int) + 1))).setCell ⟨b1, i * 3 + 2, none⟩ (.int .i64 x)).drew := by
  rw [show ((t1.born : Int) + 1) = ((t1.born + 1 : Nat) : Int) from by omega, show ((t1.count : Int) + 1) = ((t1.count + 1 : Nat) : Int) from by omega, show ((s.gen : Int) + 1) = ((s.gen + 1 : Nat) : Int) from by omega]
  have hT2 : TabAt g (.slice (some ⟨b1, 0, none⟩) t1.sl.length cp1) vo (halfIn t1 i x) (((((w1.setCell ⟨g, 3, none⟩ (.int .i64 ((t1.born + 1 : Nat) : Int))).setCell ⟨g, 2, none⟩ (.int .i64 ((t1.count + 1 : Nat) : Int))).setCell ⟨b1, i * 3, none⟩ (.int .u32 ((s.gen + 1 : Nat) : Int))).setCell ⟨b1, i * 3 + 1, none⟩ (.int .i64 ((t1.born + 1 : Nat) : Int))).setCell ⟨b1, i * 3 + 2, none⟩ (.int .i64 x)) := by
    have hx : Own slE 80 (g + 1) (.slice (some ⟨b1, 0, none⟩) t1.sl.length cp1) t1.sl ((w1.setCell ⟨g, 3, none⟩ (.int .i64 ((t1.born + 1 : Nat) : Int))).setCell ⟨g, 2, none⟩ (.int .i64 ((t1.count + 1 : Nat) : Int))) :=
      hT1.sl.kept fun b hb => by
        have : b ≠ g := by have := (hT1.sl.lt hb).1; omega
        rw [sc_other this, sc_other this]
    have hy := slot_stored hx i hi ⟨s.gen + 1, t1.born + 1, x⟩
    refine ⟨?_, ?_, ?_, ?_⟩
    · rw [sc_other hgb, sc_other hgb, sc_other hgb]
      exact heap_setCell_same _ g 2 _ _ _ (heap_setCell_same _ g 3 _ _ _ hT1.blk)
    · show Own slE _ _ _ (t1.sl.set i ⟨(t1.sl.getD i ⟨0, 0, 0⟩).gen + 1, t1.born + 1, x⟩) _
      rw [hsl]; exact hy
    · refine hT1.ord.kept fun b hb => ?_
      have e1 : b ≠ g := by have := (hT1.ord.lt hb).1; omega
      have e2 : b ≠ b1 := fun e => Own.apart hT1.ord hT1.sl (by decide) hb (by rw [e]; rfl)
      rw [sc_other e2, sc_other e2, sc_other e2, sc_other e1, sc_other e1]
    · simp; exact hT1.lt
  have hS2 : Step g (.slice (some ⟨b1, 0, none⟩) t1.sl.length cp1) vo (.slice (some ⟨b1, 0, none⟩) t1.sl.length cp1) vo w1 (((((w1.setCell ⟨g, 3, none⟩ (.int .i64 ((t1.born + 1 : Nat) : Int))).setCell ⟨g, 2, none⟩ (.int .i64 ((t1.count + 1 : Nat) : Int))).setCell ⟨b1, i * 3, none⟩ (.int .u32 ((s.gen + 1 : Nat) : Int))).setCell ⟨b1, i * 3 + 1, none⟩ (.int .i64 ((t1.born + 1 : Nat) : Int))).setCell ⟨b1, i * 3 + 2, none⟩ (.int .i64 x)) := by
    have hb := (((((Below.refl 0 w1).setCell (p := ⟨g, 3, none⟩) (Nat.zero_le _) (.int .i64 ((t1.born + 1 : Nat) : Int))).setCell (p := ⟨g, 2, none⟩) (Nat.zero_le _) (.int .i64 ((t1.count + 1 : Nat) : Int))).setCell (p := ⟨b1, i * 3, none⟩) (Nat.zero_le _) (.int .u32 ((s.gen + 1 : Nat) : Int))).setCell (p := ⟨b1, i * 3 + 1, none⟩) (Nat.zero_le _) (.int .i64 ((t1.born + 1 : Nat) : Int))).setCell (p := ⟨b1, i * 3 + 2, none⟩) (Nat.zero_le _) (.int .i64 x)
    refine ⟨hb.os, hb.tape, hb.output, hb.size, ?_, fun _ h => .inl h, fun _ h => .inl h⟩
    · intro b hb e1 e2 _
      have e2 : b ≠ b1 := fun e => e2 (by rw [e]; rfl)
      rw [sc_other e2, sc_other e2, sc_other e2, sc_other e1, sc_other e1]
  refine ⟨?_, ?_⟩
  · exact TabAt.drew hT2
  · exact Step.drew hS2
theorem hd_cells {w : World} {b : Nat} {x y : Value} {T : TypeId} (h : w.heap[b]? = some (.cells #[x, y] T (0, 0))) :
    w.cell? ⟨b, 0, none⟩ = some x ∧ w.cell? ⟨b, 1, none⟩ = some y ∧ w.frozen? ⟨b, 0, none⟩ = false ∧ w.frozen? ⟨b, 1, none⟩ = false := by
  refine ⟨?_, ?_, ?_, ?_⟩
  all_goals first | (rw [cell_of_row w b _ _ _ _ h]; rfl) | exact frozen_of_row w b _ _ _ h
/-- What is known behind the append onto the order. -/
structure Behind (g r H b5 cp5 : Nat) (vs vo : Value) (t : Tab) (y : Hd) (w w3 : World) : Prop where
  blk : w3.heap[g]? = some (.cells #[vs, .int .i64 t.most, .int .i64 t.count, .int .i64 t.born, vo] 77 (0, 0))
  hblk : w3.heap[H]? = some (.cells #[.int .u32 (y.slot : Int), .int .u32 (y.gen : Int)] 33 (0, 0))
  rblk : w3.heap[r]? = some (.cells #[.int .u32 0, .int .u32 0] 33 (0, 0))
  sl : Own slE 80 (g + 1) vs t.sl w3
  ord : Own hdE 33 (g + 1) (.slice (some ⟨b5, 0, none⟩) (t.ord.length + 1) cp5) (t.ord ++ [y]) w3
  size : w.heap.size < w3.heap.size
  os : w3.os = w.os ∧ w3.tape = w.tape ∧ w3.output = w.output
  far : ∀ b, b < w.heap.size → vo.ownBlock ≠ some b → w3.heap[b]? = w.heap[b]?
  nvo : vo.ownBlock = some b5 ∨ w.heap.size ≤ b5
theorem take_facts {g r b5 cp5 i G : Nat} {vs vo : Value} {t : Tab} {w W w3 : World} (hT : TabAt g vs vo t w) (hr : w.heap[r]? = some (.cells #[.int .u32 0, .int .u32 0] 33 (0, 0))) (hrz : r < w.heap.size)
    (hfar : ∀ b, b < (w.alloc (.cells #[.int .u32 ((i : Int) + 1), .int .u32 ((G : Int) + 1)] 33)).heap.size → vo.ownBlock ≠ some b → w3.heap[b]? = (w.alloc (.cells #[.int .u32 ((i : Int) + 1), .int .u32 ((G : Int) + 1)] 33)).heap[b]?)
    (hO : Own hdE 33 (g + 1) (.slice (some ⟨b5, 0, none⟩) (t.ord.length + 1) cp5) (t.ord ++ [⟨i + 1, G + 1⟩]) w3)
    (hat : vo.ownBlock = some b5 ∨ (w.alloc (.cells #[.int .u32 ((i : Int) + 1), .int .u32 ((G : Int) + 1)] 33)).heap.size ≤ b5)
    (hb : Below (g + 1) W w3) (hrv : vo.ownBlock ≠ some r) (hW : W.os = w.os ∧ W.tape = w.tape ∧ W.output = w.output ∧ w.heap.size < W.heap.size) : Behind g r w.heap.size b5 cp5 vs vo t ⟨i + 1, G + 1⟩ w w3 := by
  have hz : (w.alloc (.cells #[.int .u32 ((i : Int) + 1), .int .u32 ((G : Int) + 1)] 33)).heap.size = w.heap.size + 1 := by simp
  have old : ∀ b, b < w.heap.size → vo.ownBlock ≠ some b → w3.heap[b]? = w.heap[b]? := fun b hb hv => by
    rw [hfar b (by rw [hz]; omega) hv, heap_alloc_old w _ hb]
  refine ⟨?_, ?_, ?_, ?_, hO, ?_, ⟨hb.os.trans hW.1, hb.tape.trans hW.2.1, hb.output.trans hW.2.2.1⟩, old, ?_⟩
  · rw [old g hT.lt (fun e => absurd (hT.ord.lt e).1 (by omega))]; exact hT.blk
  · rw [hfar w.heap.size (by rw [hz]; omega) (fun e => absurd (hT.ord.lt e).2 (by omega))]
    exact heap_alloc_new w _
  · rw [old r hrz hrv]; exact hr
  · exact hT.sl.kept fun b hb => old b (hT.sl.lt hb).2 (Own.apart hT.sl hT.ord (by decide) hb)
  · exact Nat.lt_of_lt_of_le hW.2.2.2 hb.size
  · rw [hz] at hat
    exact hat.imp id (fun h => by omega)
theorem alloc_size (w : World) (o : Obj) : (w.alloc o).heap.size = w.heap.size + 1 := by simp
/-- What the last stores come to. -/
theorem take_end {g b5 cp5 i G : Nat} {vs vo vs0 vo0 : Value} {t t2 : Tab} {w W2 w3 : World} {o : Obj} (hF : Behind g w.heap.size W2.heap.size b5 cp5 vs vo t2 ⟨i + 1, G + 1⟩ W2 w3) (h : TabAt g vs0 vo0 t w) (hS : Step g vs0 vo0 vs vo (w.alloc o) W2) :
    (((w3.setCell ⟨g, 4, none⟩ (.slice (some ⟨b5, 0, none⟩) (t2.ord.length + 1) cp5)).setCell ⟨w.heap.size, 0, none⟩ (.int .u32 ((i : Int) + 1))).setCell ⟨w.heap.size, 1, none⟩ (.int .u32 ((G : Int) + 1))).heap[w.heap.size]? = some (.cells #[.int .u32 ((i : Int) + 1), .int .u32 ((G : Int) + 1)] 33 (0, 0)) ∧
    TabAt g vs (.slice (some ⟨b5, 0, none⟩) (t2.ord.length + 1) cp5) { t2 with ord := t2.ord ++ [⟨i + 1, G + 1⟩] } (((w3.setCell ⟨g, 4, none⟩ (.slice (some ⟨b5, 0, none⟩) (t2.ord.length + 1) cp5)).setCell ⟨w.heap.size, 0, none⟩ (.int .u32 ((i : Int) + 1))).setCell ⟨w.heap.size, 1, none⟩ (.int .u32 ((G : Int) + 1))) ∧
    Step g vs0 vo0 vs (.slice (some ⟨b5, 0, none⟩) (t2.ord.length + 1) cp5) w (((w3.setCell ⟨g, 4, none⟩ (.slice (some ⟨b5, 0, none⟩) (t2.ord.length + 1) cp5)).setCell ⟨w.heap.size, 0, none⟩ (.int .u32 ((i : Int) + 1))).setCell ⟨w.heap.size, 1, none⟩ (.int .u32 ((G : Int) + 1))) := by
  have hlt := h.lt
  have hz := hS.size
  rw [alloc_size] at hz
  have hgr : g ≠ w.heap.size := by omega
  have hrg : w.heap.size ≠ g := by omega
  have nvs : ∀ b, vs.ownBlock = some b → vs0.ownBlock = some b ∨ w.heap.size + 1 ≤ b := fun b hb => by have := hS.nvs b hb; rw [alloc_size] at this; exact this
  have nvo : ∀ b, vo.ownBlock = some b → vo0.ownBlock = some b ∨ w.heap.size + 1 ≤ b := fun b hb => by have := hS.nvo b hb; rw [alloc_size] at this; exact this
  have nv5 : vo0.ownBlock = some b5 ∨ w.heap.size + 1 ≤ b5 := by
    rcases hF.nvo with hx | hx
    · exact nvo b5 hx
    · exact .inr (by omega)
  have hb := (((Below.refl 0 w3).setCell (p := ⟨g, 4, none⟩) (Nat.zero_le _) (.slice (some ⟨b5, 0, none⟩) (t2.ord.length + 1) cp5)).setCell (p := ⟨w.heap.size, 0, none⟩) (Nat.zero_le _) (.int .u32 ((i : Int) + 1))).setCell (p := ⟨w.heap.size, 1, none⟩) (Nat.zero_le _) (.int .u32 ((G : Int) + 1))
  refine ⟨?_, ⟨?_, ?_, ?_, ?_⟩, ⟨hb.os.trans (hF.os.1.trans hS.os), hb.tape.trans (hF.os.2.1.trans hS.tape), hb.output.trans (hF.os.2.2.trans hS.output), ?_, ?_, ?_, ?_⟩⟩
  · exact heap_setCell_same _ w.heap.size 1 #[.int .u32 ((i : Int) + 1), .int .u32 0] _ _ (heap_setCell_same _ w.heap.size 0 #[.int .u32 0, .int .u32 0] _ _ (by rw [sc_other hrg]; exact hF.rblk))
  · rw [sc_other hgr, sc_other hgr]
    exact heap_setCell_same _ g 4 _ _ _ hF.blk
  · refine hF.sl.kept fun b hb => ?_
    have e1 : b ≠ g := by have := (hF.sl.lt hb).1; omega
    have e2 : b ≠ w.heap.size := by
      rcases nvs b hb with hx | hx
      · have := (h.sl.lt hx).2; omega
      · omega
    rw [sc_other e2, sc_other e2, sc_other e1]
  · refine Own.kept (w := w3) hF.ord fun b hb => ?_
    have e1 : b ≠ g := by have := (hF.ord.lt hb).1; omega
    have e0 : b5 = b := by simpa [Value.ownBlock] using hb
    have e2 : b ≠ w.heap.size := by
      rw [← e0]
      rcases nv5 with hx | hx
      · have := (h.ord.lt hx).2; omega
      · omega
    rw [sc_other e2, sc_other e2, sc_other e1]
  · have := hb.size; have := hF.size; omega
  · have := hb.size; have := hF.size; omega
  · intro b hb1 e1 e2 e3
    have e4 : b ≠ w.heap.size := by omega
    rw [sc_other e4, sc_other e4, sc_other e1, hF.far b (by omega) (fun e => (nvo b e).elim e3 (fun hx => absurd hb1 (by omega))), hS.far b (by rw [alloc_size]; omega) e1 e2 e3, heap_alloc_old w _ hb1]
  · intro b hb1
    exact (nvs b hb1).imp id (fun hx => by omega)
  · intro b hb1
    have e0 : b5 = b := by simpa [Value.ownBlock] using hb1
    rw [← e0]
    exact nv5.imp id (fun hx => by omega)
theorem laid_is {t1 : Tab} {i : Nat} {x : Int} {s : Sl} (hs : t1.sl.getD i ⟨0, 0, 0⟩ = s) : laidIn t1 i x = { halfIn t1 i x with ord := (halfIn t1 i x).ord ++ [⟨i + 1, s.gen + 1⟩] } := by
  subst hs; rfl
set_option maxHeartbeats 8000000 in
set_option maxRecDepth 100000 in
theorem take_in (g : Nat) (vs vo : Value) (t t1 : Tab) (i : Nat) (x : Int) (w : World) (h : Hid (TabAt g vs vo t w)) (hs : Hid (Small t1)) (hi : i < t1.sl.length) (G : Nat) (hG : Hid ((t1.sl.getD i ⟨0, 0, 0⟩).gen = G))
    (HE : Hid (∀ W, TabAt g vs vo t W → Calls Try.prog 31 #[.pointer (some ⟨g, 0, none⟩)] W fun e w' => e = .returned (.int .i64 i) ∧ ∃ vs', TabAt g vs' vo t1 w' ∧ Step g vs vo vs' vo W w')) :
    Calls Try.prog 10 #[.pointer (some ⟨g, 0, none⟩), .int .i64 x] w fun e w' => e = .returned (.tuple #[.agg #[.int .u32 (i + 1 : Nat), .int .u32 (G + 1 : Nat)], .int .i64 0]) ∧ ∃ vs' vo', TabAt g vs' vo' (laidIn t1 i x) w' ∧ Step g vs vo vs' vo' w w' := by
  have hb0 := (Below.refl w.heap.size w).alloc (Nat.le_refl _) (.cells #[.int .u32 0, .int .u32 0] 33)
  have h1 := Lib.hid (h.out.below hb0)
  have hlt := h.out.lt
  go_enter Try.func10, Try.ntmps10
  go_wp2_with fail
  refine (HE.out _ h1.out).mono ?_
  rintro e w1 ⟨rfl, vs1, hT1, hS1⟩
  have hrw : w1.heap[w.heap.size]? = some (.cells #[.int .u32 0, .int .u32 0] 33 (0, 0)) :=
    (hS1.far w.heap.size (by simp) (by omega) (fun e => absurd (h.out.sl.lt e).2 (by omega)) (fun e => absurd (h.out.ord.lt e).2 (by omega))).trans (heap_alloc_new w _)
  have hrv : ∀ b, vs1.ownBlock = some b → b ≠ w.heap.size := fun b hb => by
    rcases hS1.nvs b hb with hx | hx
    · have := (h.out.sl.lt hx).2; omega
    · simp at hx; omega
  have hrs : w.heap.size < w1.heap.size := by have := hS1.size; simp at this; omega
  obtain ⟨⟨c0, c1, c2, c3, c4⟩, f0, f1, f2, f3, f4⟩ := hT1.cells
  obtain ⟨b1, cp1, cur, rfl, hbg, _, hb2, _⟩ := Own.some hT1.sl (by intro e; rw [e, List.length_nil] at hi; omega)
  have hrb : b1 ≠ w.heap.size := hrv b1 rfl
  obtain ⟨s, hsl⟩ : ∃ s, t1.sl.getD i ⟨0, 0, 0⟩ = s := ⟨_, rfl⟩
  obtain ⟨d0, d1, d2⟩ := slot_cells hT1.sl i hi hsl
  have k0 := hT1.sl.frozen (i * 3)
  have k1 := hT1.sl.frozen (i * 3 + 1)
  have k2 := hT1.sl.frozen (i * 3 + 2)
  have hsm : s.gen ≤ 1000000 ∧ s.ser ≤ 1000000 := hs.out.gen s (by
    rw [← hsl, List.getD_eq_getElem?_getD, List.getElem?_eq_getElem (by omega)]; exact List.getElem_mem _)
  obtain ⟨g1, g2⟩ := hsm
  have hbn := hs.out.born
  have hcn := hs.out.count
  have hlen := hs.out.len
  have hmost := hs.out.most
  have hord := hs.out.ord
  have hgb : g ≠ b1 := by omega
  have hgb' : b1 ≠ g := by omega
  have HT1 := Lib.hid hT1
  have HSL := Lib.hid hsl
  have HS1 := Lib.hid hS1
  have HRV := Lib.hid hrv
  have HRW0 := Lib.hid hrw
  have u1 : IntKind.u32.wrap ((s.gen : Int) + 1) = (s.gen : Int) + 1 := by rw [IntKind.wrap_u32]; omega
  have HRS := Lib.hid (And.intro hrs hrb)
  clear hT1 hsl hS1 hrw hrv hrs hrb hb0
  go_wp2_with fail
  go_region
  obtain ⟨hT2, hS2⟩ := half_stored (x := x) HT1.out hi HSL.out hgb
  have HRW := Lib.hid (hS2.far w.heap.size HRS.out.1 (by omega) (fun e => HRV.out _ e rfl) (fun e => absurd (h.out.ord.lt e).2 (by omega)))
  have HT2 := Lib.hid hT2
  have HS2 := Lib.hid (HS1.out.trans hS2)
  clear hT2 hS2
  obtain ⟨W2, hW2⟩ : ∃ W2, W2 = (((((w1.setCell ⟨g, 3, none⟩ (.int .i64 ((t1.born : Int) + 1))).setCell ⟨g, 2, none⟩ (.int .i64 ((t1.count : Int) + 1))).setCell ⟨b1, i * 3, none⟩ (.int .u32 ((s.gen : Int) + 1))).setCell ⟨b1, i * 3 + 1, none⟩ (.int .i64 ((t1.born : Int) + 1))).setCell ⟨b1, i * 3 + 2, none⟩ (.int .i64 x)).drew := ⟨_, rfl⟩
  rw [← hW2] at HT2 HS2 HRW
  rw [← hW2]
  clear hW2 c0 c1 c2 c3 c4 f0 f1 f2 f3 f4 d0 d1 d2 k0 k1 k2 u1
  have HR2 : Hid (W2.heap[w.heap.size]? = some (.cells #[.int .u32 0, .int .u32 0] 33 (0, 0))) := HRW.out.trans HRW0.out
  obtain ⟨⟨c0, c1, c2, c3, c4⟩, f0, f1, f2, f3, f4⟩ := HT2.out.cells
  have hli : i < (halfIn t1 i x).sl.length := by show i < (t1.sl.set i _).length; rw [List.length_set]; exact hi
  obtain ⟨d0, d1, d2⟩ := slot_cells HT2.out.sl i hli (s := ⟨s.gen + 1, t1.born + 1, x⟩) (by
    show (t1.sl.set i _).getD i _ = _
    rw [List.getD_eq_getElem?_getD, List.getElem?_set_self hi, HSL.out]; rfl)
  have hz2 : w.heap.size < W2.heap.size := by have := HS2.out.size; rw [show (w.alloc (.cells #[.int .u32 0, .int .u32 0] 33)).heap.size = w.heap.size + 1 from by simp] at this; omega
  have hg2 := HT2.out.lt
  have u2 : IntKind.u32.wrap ((i : Int) + 1) = (i : Int) + 1 := by rw [IntKind.wrap_u32]; omega
  have HG2 := Lib.hid (And.intro hg2 hz2)
  have HRO : Hid (vo.ownBlock = some w.heap.size → w.heap.size < w.heap.size) := fun e => (h.out.ord.lt e).2
  have hgr : g ≠ w.heap.size := by omega
  have hrg : w.heap.size ≠ g := by omega
  have hgh : g ≠ W2.heap.size := by omega
  have hhg : W2.heap.size ≠ g := by omega
  have hrh : w.heap.size ≠ W2.heap.size := by omega
  have hhr : W2.heap.size ≠ w.heap.size := by omega
  go_wp2_with fail
  go_region_law ((refine Rwo.step_append (E := hdE) (by rfl) _ _ _ (by rfl) 33 _ 8 Try.underlying29 infoHd (by rfl) (g + 1) _ (halfIn t1 i x).ord (W2.alloc (.cells #[.int .u32 ((i : Int) + 1), .int .u32 ((s.gen : Int) + 1)] 33)) (Own.alloc HT2.out.ord _) (by rfl) ⟨i + 1, s.gen + 1⟩ _ (by rfl) _ (W2.heap.size + 1) (by rfl) (by rfl) (by show (t1.ord.length + 1) * (8 + 1) ≤ _; omega) ⟨by first | (simp; omega) | omega, by simp⟩ ?_; intro g3 cp3 w3 hO3 hb3 hfar hsz3 hat; have hF := take_facts HT2.out HR2.out HG2.out.2 hfar hO3 hat hb3 (fun e => absurd (HRO.out e) (by omega)) ⟨rfl, rfl, rfl, by first | (simp; done) | (simp; omega) | (show W2.heap.size < (World.alloc (World.alloc W2 _) _).heap.size; simp; omega)⟩; obtain ⟨⟨e0, e1, e2, e3, e4⟩, j0, j1, j2, j3, j4⟩ := blk_cells hF.blk; obtain ⟨m0, m1, n0, n1⟩ := hd_cells hF.hblk; obtain ⟨o0, o1, q0, q1⟩ := hd_cells hF.rblk; have HF := Lib.hid hF; clear hF hO3 hb3 hfar hsz3 hat))
  all_goals
    have HFIN := Lib.hid (take_end HF.out h.out HS2.out)
    go_wp2
    refine bodyPost_ret (hd_results rfl _ _ w.heap.size #[.int .u32 ((i : Int) + 1), .int .u32 ((s.gen : Int) + 1)] rfl HFIN.out.1 rfl) rfl ?_
    exact ⟨by have e : s.gen = G := by { have := hG.out; rw [HSL.out] at this; exact this }
              rw [e]; rfl, _, _, by rw [laid_is HSL.out]; exact HFIN.out.2.1, HFIN.out.2.2⟩
end Go.Proofs.Ytijlnlcjlkanaaa.Stc
