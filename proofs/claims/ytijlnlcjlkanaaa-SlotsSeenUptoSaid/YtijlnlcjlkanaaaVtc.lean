/- (*slots.Table[int]).Take. -/
import Derived.Test.YtijlnlcjlkanaaaVtb
set_option linter.unusedVariables false
namespace Go.Proofs.Ytijlnlcjlkanaaa.Vtc
open Sta (Hd hdE Step below_drewN below_drewN_up blk_cells)
open Go.RowKit Rwo Vta Vtb

/-- A handle in memory and a number, as results. -/
theorem hd_results {fn : Func} {p u : Tmp} (h : fn.results = #[.cell p 33, .tmp u]) (tmps : Array Value) (w : World) (g : Nat) (cs : Array Value)
    (hp : tmps.getD p undef = .pointer (some ⟨g, 0, none⟩)) (hg : w.heap[g]? = some (.cells cs 33 (0, 0))) (hs : cs.size = 2) :
    (results fn tmps).run Try.prog w = .ok (.tuple #[.agg cs, tmps.getD u undef]) w := by
  have hp' : tmps[p]?.getD undef = .pointer (some ⟨g, 0, none⟩) := by simpa using hp
  have hi : (Try.prog.info? 33).map (·.size) = some cs.size := by rw [hs]; kernel_rfl
  simp [results, h, hp', asAddr, run_loadVar_row w g 33 33 cs (0, 0) _ hg Try.underlying33 rfl hi]
/-- The first slot that is empty. -/
def firstFree (l : List Sl) : Option Nat := l.findIdx? (fun s => s.ser == 0)
/-- A thing is laid into slot i. -/
def laidIn (t : Tab) (i : Nat) (x : Th) : Tab :=
  { t with sl := t.sl.set i ⟨(t.sl.getD i ⟨0, 0, th0⟩).gen + 1, t.born + 1, x⟩, count := t.count + 1, born := t.born + 1, ord := t.ord ++ [⟨i + 1, (t.sl.getD i ⟨0, 0, th0⟩).gen + 1⟩] }
theorem slot_stored {B b n c : Nat} {l : List Sl} {w : World} (h : Own slE 90 B (.slice (some ⟨b, 0, none⟩) n c) l w) (i : Nat) (hi : i < l.length) (x : Sl) :
    Own slE 90 B (.slice (some ⟨b, 0, none⟩) n c) (l.set i x) ((((w.setCell ⟨b, i * 4, none⟩ (.int .u32 x.gen)).setCell ⟨b, i * 4 + 1, none⟩ (.int .i64 x.ser)).setCell ⟨b, i * 4 + 2, none⟩ x.thing.av).setCell ⟨b, i * 4 + 3, none⟩ x.thing.bv) := by
  obtain ⟨s, hs⟩ : ∃ s, l.getD i ⟨0, 0, th0⟩ = s := ⟨_, rfl⟩
  have hg : ∀ (m : List Sl) (y : Sl), i < m.length → (m.set i y).getD i ⟨0, 0, th0⟩ = y := fun m y hm => by
    rw [List.getD_eq_getElem?_getD, List.getElem?_set_self hm]; rfl
  have h1 := h.store i 0 (.int .u32 x.gen) ⟨x.gen, s.ser, s.thing⟩ hi (by show 0 < 4; omega) (by show slE.f _ = (slE.f (l.getD i ⟨0, 0, th0⟩)).set 0 _; rw [hs]; rfl)
  have h2 := h1.store i 1 (.int .i64 x.ser) ⟨x.gen, x.ser, s.thing⟩ (by rw [List.length_set]; exact hi) (by show 1 < 4; omega) (by show slE.f _ = (slE.f ((l.set i _).getD i ⟨0, 0, th0⟩)).set 1 _; rw [hg _ _ hi]; rfl)
  have h3 := h2.store i 2 x.thing.av ⟨x.gen, x.ser, ⟨x.thing.a, s.thing.p, s.thing.n, s.thing.c⟩⟩ (by rw [List.length_set, List.length_set]; exact hi) (by show 2 < 4; omega) (by show slE.f _ = (slE.f (((l.set i _).set i _).getD i ⟨0, 0, th0⟩)).set 2 _; rw [hg _ _ (by rw [List.length_set]; exact hi)]; rfl)
  have h4 := h3.store i 3 x.thing.bv x (by rw [List.length_set, List.length_set, List.length_set]; exact hi) (by show 3 < 4; omega) (by show slE.f _ = (slE.f ((((l.set i _).set i _).set i _).getD i ⟨0, 0, th0⟩)).set 3 _; rw [hg _ _ (by rw [List.length_set, List.length_set]; exact hi)]; rfl)
  rw [List.set_set, List.set_set, List.set_set] at h4
  exact h4
/-- A thing is laid into slot i, the order still as it was. -/
def halfIn (t : Tab) (i : Nat) (x : Th) : Tab :=
  { t with sl := t.sl.set i ⟨(t.sl.getD i ⟨0, 0, th0⟩).gen + 1, t.born + 1, x⟩, count := t.count + 1, born := t.born + 1 }
theorem sc_other {w : World} {g j b : Nat} {v : Value} (h : b ≠ g) : (w.setCell ⟨g, j, none⟩ v).heap[b]? = w.heap[b]? := heap_setCell_other w ⟨g, j, none⟩ b v h
theorem TabAt.drew {g : Nat} {vs vo : Value} {t : Tab} {w : World} (h : TabAt g vs vo t w) : TabAt g vs vo t w.drew := ⟨h.blk, h.sl, h.ord, h.lt⟩
theorem Step.drew {g : Nat} {vs vo vs' vo' : Value} {w w' : World} (h : Step g vs vo vs' vo' w w') : Step g vs vo vs' vo' w w'.drew := ⟨h.os, h.tape, h.output, h.size, h.far, h.nvs, h.nvo⟩
/-- What the stores into the table and into a slot come to. -/
theorem half_stored {g b1 cp1 i : Nat} {vo : Value} {t1 : Tab} {s : Sl} {x : Th} {w1 : World} (hT1 : TabAt g (.slice (some ⟨b1, 0, none⟩) t1.sl.length cp1) vo t1 w1) (hi : i < t1.sl.length) (hsl : t1.sl.getD i ⟨0, 0, th0⟩ = s) (hgb : g ≠ b1) :
    TabAt g (.slice (some ⟨b1, 0, none⟩) t1.sl.length cp1) vo (halfIn t1 i x) ((((((w1.setCell ⟨g, 3, none⟩ (.int .i64 ((t1.born : Int) + 1))).setCell ⟨g, 2, none⟩ (.int .i64 ((t1.count : Int) + 1))).setCell ⟨b1, i * 4, none⟩ (.int .u32 ((s.gen : Int) + 1))).setCell ⟨b1, i * 4 + 1, none⟩ (.int .i64 ((t1.born : Int) + 1))).setCell ⟨b1, i * 4 + 2, none⟩ x.av).setCell ⟨b1, i * 4 + 3, none⟩ x.bv).drew ∧
    Step g (.slice (some ⟨b1, 0, none⟩) t1.sl.length cp1) vo (.slice (some ⟨b1, 0, none⟩) t1.sl.length cp1) vo w1 ((((((w1.setCell ⟨g, 3, none⟩ (.int .i64 ((t1.born : Int) + 1))).setCell ⟨g, 2, none⟩ (.int .i64 ((t1.count : Int) + 1))).setCell ⟨b1, i * 4, none⟩ (.int .u32 ((s.gen : Int) + 1))).setCell ⟨b1, i * 4 + 1, none⟩ (.int .i64 ((t1.born : Int) + 1))).setCell ⟨b1, i * 4 + 2, none⟩ x.av).setCell ⟨b1, i * 4 + 3, none⟩ x.bv).drew := by
  rw [show ((t1.born : Int) + 1) = ((t1.born + 1 : Nat) : Int) from by omega, show ((t1.count : Int) + 1) = ((t1.count + 1 : Nat) : Int) from by omega, show ((s.gen : Int) + 1) = ((s.gen + 1 : Nat) : Int) from by omega]
  have hT2 : TabAt g (.slice (some ⟨b1, 0, none⟩) t1.sl.length cp1) vo (halfIn t1 i x) ((((((w1.setCell ⟨g, 3, none⟩ (.int .i64 ((t1.born + 1 : Nat) : Int))).setCell ⟨g, 2, none⟩ (.int .i64 ((t1.count + 1 : Nat) : Int))).setCell ⟨b1, i * 4, none⟩ (.int .u32 ((s.gen + 1 : Nat) : Int))).setCell ⟨b1, i * 4 + 1, none⟩ (.int .i64 ((t1.born + 1 : Nat) : Int))).setCell ⟨b1, i * 4 + 2, none⟩ x.av).setCell ⟨b1, i * 4 + 3, none⟩ x.bv) := by
    have hx : Own slE 90 (g + 1) (.slice (some ⟨b1, 0, none⟩) t1.sl.length cp1) t1.sl ((w1.setCell ⟨g, 3, none⟩ (.int .i64 ((t1.born + 1 : Nat) : Int))).setCell ⟨g, 2, none⟩ (.int .i64 ((t1.count + 1 : Nat) : Int))) :=
      hT1.sl.kept fun b hb => by
        have : b ≠ g := by have := (hT1.sl.lt hb).1; omega
        rw [sc_other this, sc_other this]
    have hy := slot_stored hx i hi ⟨s.gen + 1, t1.born + 1, x⟩
    refine ⟨?_, ?_, ?_, ?_⟩
    · rw [sc_other hgb, sc_other hgb, sc_other hgb, sc_other hgb]
      exact heap_setCell_same _ g 2 _ _ _ (heap_setCell_same _ g 3 _ _ _ hT1.blk)
    · show Own slE _ _ _ (t1.sl.set i ⟨(t1.sl.getD i ⟨0, 0, th0⟩).gen + 1, t1.born + 1, x⟩) _
      rw [hsl]; exact hy
    · refine hT1.ord.kept fun b hb => ?_
      have e1 : b ≠ g := by have := (hT1.ord.lt hb).1; omega
      have e2 : b ≠ b1 := fun e => Own.apart hT1.ord hT1.sl (by decide) hb (by rw [e]; rfl)
      rw [sc_other e2, sc_other e2, sc_other e2, sc_other e2, sc_other e1, sc_other e1]
    · simp; exact hT1.lt
  have hS2 : Step g (.slice (some ⟨b1, 0, none⟩) t1.sl.length cp1) vo (.slice (some ⟨b1, 0, none⟩) t1.sl.length cp1) vo w1 ((((((w1.setCell ⟨g, 3, none⟩ (.int .i64 ((t1.born + 1 : Nat) : Int))).setCell ⟨g, 2, none⟩ (.int .i64 ((t1.count + 1 : Nat) : Int))).setCell ⟨b1, i * 4, none⟩ (.int .u32 ((s.gen + 1 : Nat) : Int))).setCell ⟨b1, i * 4 + 1, none⟩ (.int .i64 ((t1.born + 1 : Nat) : Int))).setCell ⟨b1, i * 4 + 2, none⟩ x.av).setCell ⟨b1, i * 4 + 3, none⟩ x.bv) := by
    have hb := ((((((Below.refl 0 w1).setCell (p := ⟨g, 3, none⟩) (Nat.zero_le _) (.int .i64 ((t1.born + 1 : Nat) : Int))).setCell (p := ⟨g, 2, none⟩) (Nat.zero_le _) (.int .i64 ((t1.count + 1 : Nat) : Int))).setCell (p := ⟨b1, i * 4, none⟩) (Nat.zero_le _) (.int .u32 ((s.gen + 1 : Nat) : Int))).setCell (p := ⟨b1, i * 4 + 1, none⟩) (Nat.zero_le _) (.int .i64 ((t1.born + 1 : Nat) : Int))).setCell (p := ⟨b1, i * 4 + 2, none⟩) (Nat.zero_le _) x.av).setCell (p := ⟨b1, i * 4 + 3, none⟩) (Nat.zero_le _) x.bv
    refine ⟨hb.os, hb.tape, hb.output, hb.size, ?_, fun _ h => .inl h, fun _ h => .inl h⟩
    · intro b hb e1 e2 _
      have e2 : b ≠ b1 := fun e => e2 (by rw [e]; rfl)
      rw [sc_other e2, sc_other e2, sc_other e2, sc_other e2, sc_other e1, sc_other e1]
  refine ⟨?_, ?_⟩
  · exact TabAt.drew hT2
  · exact Step.drew hS2
theorem hd_cells {w : World} {b : Nat} {x y : Value} {T : TypeId} (h : w.heap[b]? = some (.cells #[x, y] T (0, 0))) :
    w.cell? ⟨b, 0, none⟩ = some x ∧ w.cell? ⟨b, 1, none⟩ = some y ∧ w.frozen? ⟨b, 0, none⟩ = false ∧ w.frozen? ⟨b, 1, none⟩ = false := by
  refine ⟨?_, ?_, ?_, ?_⟩
  all_goals first | (rw [cell_of_row w b _ _ _ _ h]; rfl) | exact frozen_of_row w b _ _ _ h
/-- What is known behind the append onto the order. -/
structure Behind (g r H b5 cp5 : Nat) (vs vo : Value) (t : Tab) (y : Hd) (w w3 : World) : Prop where
  blk : w3.heap[g]? = some (.cells #[vs, .int .i64 t.most, .int .i64 t.count, .int .i64 t.born, vo] 87 (0, 0))
  hblk : w3.heap[H]? = some (.cells #[.int .u32 (y.slot : Int), .int .u32 (y.gen : Int)] 33 (0, 0))
  rblk : w3.heap[r]? = some (.cells #[.int .u32 0, .int .u32 0] 33 (0, 0))
  sl : Own slE 90 (g + 1) vs t.sl w3
  ord : Own hdE 33 (g + 1) (.slice (some ⟨b5, 0, none⟩) (t.ord.length + 1) cp5) (t.ord ++ [y]) w3
  size : w.heap.size < w3.heap.size
  os : w3.os = w.os ∧ w3.tape = w.tape ∧ w3.output = w.output
  far : ∀ b, b < w.heap.size → vo.ownBlock ≠ some b → w3.heap[b]? = w.heap[b]?
  nvo : vo.ownBlock = some b5 ∨ w.heap.size ≤ b5
theorem take_facts {g r b5 cp5 i G : Nat} {vs vo : Value} {t : Tab} {w W w3 : World} (hT : TabAt g vs vo t w) (hr : w.heap[r]? = some (.cells #[.int .u32 0, .int .u32 0] 33 (0, 0))) (hrz : r < w.heap.size)
    (hfar : ∀ b, b < (w.alloc (.cells #[.int .u32 ((i : Int) + 1), .int .u32 ((G : Int) + 1)] 33)).heap.size → vo.ownBlock ≠ some b → w3.heap[b]? = (w.alloc (.cells #[.int .u32 ((i : Int) + 1), .int .u32 ((G : Int) + 1)] 33)).heap[b]?)
    (hO : Own hdE 33 (g + 1) (.slice (some ⟨b5, 0, none⟩) (t.ord.length + 1) cp5) (t.ord ++ [⟨i + 1, G + 1⟩]) w3)
    (hat : vo.ownBlock = some b5 ∨ (w.alloc (.cells #[.int .u32 ((i : Int) + 1), .int .u32 ((G : Int) + 1)] 33)).heap.size ≤ b5)
    (hb : Below (g + 1) W w3) (hrv : vo.ownBlock ≠ some r) (hW : W.os = w.os ∧ W.tape = w.tape ∧ W.output = w.output ∧ w.heap.size < W.heap.size) : Behind g r w.heap.size b5 cp5 vs vo t ⟨i + 1, G + 1⟩ w w3 := by
  have hz : (w.alloc (.cells #[.int .u32 ((i : Int) + 1), .int .u32 ((G : Int) + 1)] 33)).heap.size = w.heap.size + 1 := by simp
  have old : ∀ b, b < w.heap.size → vo.ownBlock ≠ some b → w3.heap[b]? = w.heap[b]? := fun b hb hv => by
    rw [hfar b (by rw [hz]; omega) hv, heap_alloc_old w _ hb]
  refine ⟨?_, ?_, ?_, ?_, hO, ?_, ⟨hb.os.trans hW.1, hb.tape.trans hW.2.1, hb.output.trans hW.2.2.1⟩, old, ?_⟩
  · rw [old g hT.lt (fun e => absurd (hT.ord.lt e).1 (by omega))]; exact hT.blk
  · rw [hfar w.heap.size (by rw [hz]; omega) (fun e => absurd (hT.ord.lt e).2 (by omega))]
    exact heap_alloc_new w _
  · rw [old r hrz hrv]; exact hr
  · exact hT.sl.kept fun b hb => old b (hT.sl.lt hb).2 (Own.apart hT.sl hT.ord (by decide) hb)
  · exact Nat.lt_of_lt_of_le hW.2.2.2 hb.size
  · rw [hz] at hat
    exact hat.imp id (fun h => by omega)
theorem alloc_size (w : World) (o : Obj) : (w.alloc o).heap.size = w.heap.size + 1 := by simp
/-- What the last stores come to. -/
theorem take_end {g b5 cp5 i G : Nat} {vs vo vs0 vo0 : Value} {t t2 : Tab} {w W2 w3 : World} {o : Obj} (hF : Behind g w.heap.size W2.heap.size b5 cp5 vs vo t2 ⟨i + 1, G + 1⟩ W2 w3) (h : TabAt g vs0 vo0 t w) (hS : Step g vs0 vo0 vs vo (w.alloc o) W2) :
    (((w3.setCell ⟨g, 4, none⟩ (.slice (some ⟨b5, 0, none⟩) (t2.ord.length + 1) cp5)).setCell ⟨w.heap.size, 0, none⟩ (.int .u32 ((i : Int) + 1))).setCell ⟨w.heap.size, 1, none⟩ (.int .u32 ((G : Int) + 1))).heap[w.heap.size]? = some (.cells #[.int .u32 ((i : Int) + 1), .int .u32 ((G : Int) + 1)] 33 (0, 0)) ∧
    TabAt g vs (.slice (some ⟨b5, 0, none⟩) (t2.ord.length + 1) cp5) { t2 with ord := t2.ord ++ [⟨i + 1, G + 1⟩] } (((w3.setCell ⟨g, 4, none⟩ (.slice (some ⟨b5, 0, none⟩) (t2.ord.length + 1) cp5)).setCell ⟨w.heap.size, 0, none⟩ (.int .u32 ((i : Int) + 1))).setCell ⟨w.heap.size, 1, none⟩ (.int .u32 ((G : Int) + 1))) ∧
    Step g vs0 vo0 vs (.slice (some ⟨b5, 0, none⟩) (t2.ord.length + 1) cp5) w (((w3.setCell ⟨g, 4, none⟩ (.slice (some ⟨b5, 0, none⟩) (t2.ord.length + 1) cp5)).setCell ⟨w.heap.size, 0, none⟩ (.int .u32 ((i : Int) + 1))).setCell ⟨w.heap.size, 1, none⟩ (.int .u32 ((G : Int) + 1))) := by
  have hlt := h.lt
  have hz := hS.size
  rw [alloc_size] at hz
  have hgr : g ≠ w.heap.size := by omega
  have hrg : w.heap.size ≠ g := by omega
  have nvs : ∀ b, vs.ownBlock = some b → vs0.ownBlock = some b ∨ w.heap.size + 1 ≤ b := fun b hb => by have := hS.nvs b hb; rw [alloc_size] at this; exact this
  have nvo : ∀ b, vo.ownBlock = some b → vo0.ownBlock = some b ∨ w.heap.size + 1 ≤ b := fun b hb => by have := hS.nvo b hb; rw [alloc_size] at this; exact this
  have nv5 : vo0.ownBlock = some b5 ∨ w.heap.size + 1 ≤ b5 := by
    rcases hF.nvo with hx | hx
    · exact nvo b5 hx
    · exact .inr (by omega)
  have hb := (((Below.refl 0 w3).setCell (p := ⟨g, 4, none⟩) (Nat.zero_le _) (.slice (some ⟨b5, 0, none⟩) (t2.ord.length + 1) cp5)).setCell (p := ⟨w.heap.size, 0, none⟩) (Nat.zero_le _) (.int .u32 ((i : Int) + 1))).setCell (p := ⟨w.heap.size, 1, none⟩) (Nat.zero_le _) (.int .u32 ((G : Int) + 1))
  refine ⟨?_, ⟨?_, ?_, ?_, ?_⟩, ⟨hb.os.trans (hF.os.1.trans hS.os), hb.tape.trans (hF.os.2.1.trans hS.tape), hb.output.trans (hF.os.2.2.trans hS.output), ?_, ?_, ?_, ?_⟩⟩
  · exact heap_setCell_same _ w.heap.size 1 #[.int .u32 ((i : Int) + 1), .int .u32 0] _ _ (heap_setCell_same _ w.heap.size 0 #[.int .u32 0, .int .u32 0] _ _ (by rw [sc_other hrg]; exact hF.rblk))
  · rw [sc_other hgr, sc_other hgr]
    exact heap_setCell_same _ g 4 _ _ _ hF.blk
  · refine hF.sl.kept fun b hb => ?_
    have e1 : b ≠ g := by have := (hF.sl.lt hb).1; omega
    have e2 : b ≠ w.heap.size := by
      rcases nvs b hb with hx | hx
      · have := (h.sl.lt hx).2; omega
      · omega
    rw [sc_other e2, sc_other e2, sc_other e1]
  · refine Own.kept (w := w3) hF.ord fun b hb => ?_
    have e1 : b ≠ g := by have := (hF.ord.lt hb).1; omega
    have e0 : b5 = b := by simpa [Value.ownBlock] using hb
    have e2 : b ≠ w.heap.size := by
      rw [← e0]
      rcases nv5 with hx | hx
      · have := (h.ord.lt hx).2; omega
      · omega
    rw [sc_other e2, sc_other e2, sc_other e1]
  · have := hb.size; have := hF.size; omega
  · have := hb.size; have := hF.size; omega
  · intro b hb1 e1 e2 e3
    have e4 : b ≠ w.heap.size := by omega
    rw [sc_other e4, sc_other e4, sc_other e1, hF.far b (by omega) (fun e => (nvo b e).elim e3 (fun hx => absurd hb1 (by omega))), hS.far b (by rw [alloc_size]; omega) e1 e2 e3, heap_alloc_old w _ hb1]
  · intro b hb1
    exact (nvs b hb1).imp id (fun hx => by omega)
  · intro b hb1
    have e0 : b5 = b := by simpa [Value.ownBlock] using hb1
    rw [← e0]
    exact nv5.imp id (fun hx => by omega)
theorem laid_is {t1 : Tab} {i : Nat} {x : Th} {s : Sl} (hs : t1.sl.getD i ⟨0, 0, th0⟩ = s) : laidIn t1 i x = { halfIn t1 i x with ord := (halfIn t1 i x).ord ++ [⟨i + 1, s.gen + 1⟩] } := by
  subst hs; rfl
end Go.Proofs.Ytijlnlcjlkanaaa.Vtc
