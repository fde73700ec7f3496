/- (*slots.Table[int]).Free. -/
import Derived.Test.YtijlnlcjlkanaaaSti
import Derived.Test.YtijlnlcjlkanaaaVte
set_option linter.unusedVariables false
namespace Go.Proofs.Ytijlnlcjlkanaaa.Vtj
open Sta (Hd hdE Step below_drewN below_drewN_up blk_cells)
open Go.RowKit Rwo Vta Vtb Vtc Vtd Vtg Vte Rwp Sti

/-- Slot j is emptied, the order still as it was. -/
def halfOut (t : Tab) (j : Nat) : Tab := { t with sl := t.sl.set j ⟨(t.sl.getD j ⟨0, 0, th0⟩).gen, 0, th0⟩, count := t.count - 1 }
/-- Slot j is emptied; its handle stood at place i of the order. -/
def out (t : Tab) (j i : Nat) : Tab := { t with sl := t.sl.set j ⟨(t.sl.getD j ⟨0, 0, th0⟩).gen, 0, th0⟩, count := t.count - 1, ord := t.ord.eraseIdx i }
theorem half_out {g b1 cp1 j : Nat} {vo : Value} {t : Tab} {s : Sl} {w1 : World} (hT1 : TabAt g (.slice (some ⟨b1, 0, none⟩) t.sl.length cp1) vo t w1) (hj : j < t.sl.length) (hsl : t.sl.getD j ⟨0, 0, th0⟩ = s) (hc : 1 ≤ t.count) :
    TabAt g (.slice (some ⟨b1, 0, none⟩) t.sl.length cp1) vo (halfOut t j) (((((w1.setCell ⟨b1, j * 4, none⟩ (.int .u32 s.gen)).setCell ⟨b1, j * 4 + 1, none⟩ (.int .i64 0)).setCell ⟨b1, j * 4 + 2, none⟩ (.string ⟨#[]⟩)).setCell ⟨b1, j * 4 + 3, none⟩ (.slice none 0 0)).setCell ⟨g, 2, none⟩ (.int .i64 ((t.count : Int) - 1))) ∧
    Step g (.slice (some ⟨b1, 0, none⟩) t.sl.length cp1) vo (.slice (some ⟨b1, 0, none⟩) t.sl.length cp1) vo w1 (((((w1.setCell ⟨b1, j * 4, none⟩ (.int .u32 s.gen)).setCell ⟨b1, j * 4 + 1, none⟩ (.int .i64 0)).setCell ⟨b1, j * 4 + 2, none⟩ (.string ⟨#[]⟩)).setCell ⟨b1, j * 4 + 3, none⟩ (.slice none 0 0)).setCell ⟨g, 2, none⟩ (.int .i64 ((t.count : Int) - 1))) := by
  have hgb : g ≠ b1 := by have := (hT1.sl.lt (k := b1) rfl).1; omega
  rw [show ((t.count : Int) - 1) = ((t.count - 1 : Nat) : Int) from by omega]
  have hy := slot_stored hT1.sl j hj ⟨s.gen, 0, th0⟩
  refine ⟨⟨?_, ?_, ?_, ?_⟩, ?_⟩
  · have hq := hT1.blk
    rw [← sc_other (j := j * 4) (v := .int .u32 s.gen) hgb, ← sc_other (j := j * 4 + 1) (v := .int .i64 0) hgb, ← sc_other (j := j * 4 + 2) (v := .string ⟨#[]⟩) hgb, ← sc_other (j := j * 4 + 3) (v := .slice none 0 0) hgb] at hq
    exact heap_setCell_same _ g 2 _ _ _ hq
  · show Own slE _ _ _ (t.sl.set j ⟨(t.sl.getD j ⟨0, 0, th0⟩).gen, 0, th0⟩) _
    rw [hsl]
    refine hy.kept fun b hb => ?_
    have : b ≠ g := by have := (hT1.sl.lt hb).1; omega
    rw [sc_other this]
    rfl
  · refine hT1.ord.kept fun b hb => ?_
    have e1 : b ≠ g := by have := (hT1.ord.lt hb).1; omega
    have e2 : b ≠ b1 := fun e => Own.apart hT1.ord hT1.sl (by decide) hb (by rw [e]; rfl)
    rw [sc_other e1, sc_other e2, sc_other e2, sc_other e2, sc_other e2]
  · simp; exact hT1.lt
  · have hb := (((((Below.refl 0 w1).setCell (p := ⟨b1, j * 4, none⟩) (Nat.zero_le _) (.int .u32 s.gen)).setCell (p := ⟨b1, j * 4 + 1, none⟩) (Nat.zero_le _) (.int .i64 0)).setCell (p := ⟨b1, j * 4 + 2, none⟩) (Nat.zero_le _) (.string ⟨#[]⟩)).setCell (p := ⟨b1, j * 4 + 3, none⟩) (Nat.zero_le _) (.slice none 0 0)).setCell (p := ⟨g, 2, none⟩) (Nat.zero_le _) (.int .i64 ((t.count - 1 : Nat) : Int))
    refine ⟨hb.os, hb.tape, hb.output, hb.size, ?_, fun _ h => .inl h, fun _ h => .inl h⟩
    intro b hb e1 e2 _
    have e2 : b ≠ b1 := fun e => e2 (by rw [e]; rfl)
    rw [sc_other e1, sc_other e2, sc_other e2, sc_other e2, sc_other e2]
/-- The order loses the handle. -/
theorem out_stored {g b2 cp2 n i j : Nat} {vs : Value} {t : Tab} {w w3 : World} (h : TabAt g vs (.slice (some ⟨b2, 0, none⟩) n cp2) (halfOut t j) w) (hO : Own hdE 33 (g + 1) (.slice (some ⟨b2, 0, none⟩) (t.ord.length - 1) cp2) (t.ord.eraseIdx i) w3) (hb : Only b2 w w3) :
    TabAt g vs (.slice (some ⟨b2, 0, none⟩) (t.ord.length - 1) cp2) (out t j i) (w3.setCell ⟨g, 4, none⟩ (.slice (some ⟨b2, 0, none⟩) (t.ord.length - 1) cp2)) ∧
    Step g vs (.slice (some ⟨b2, 0, none⟩) n cp2) vs (.slice (some ⟨b2, 0, none⟩) (t.ord.length - 1) cp2) w (w3.setCell ⟨g, 4, none⟩ (.slice (some ⟨b2, 0, none⟩) (t.ord.length - 1) cp2)) := by
  have hb2 := h.ord.lt (k := b2) rfl
  have hlt := h.lt
  have hsz := hb.size
  have hb' := hb
  have hB := (Below.refl 0 w3).setCell (p := ⟨g, 4, none⟩) (Nat.zero_le _) (.slice (some ⟨b2, 0, none⟩) (t.ord.length - 1) cp2)
  refine ⟨⟨?_, ?_, ?_, ?_⟩, ⟨hB.os.trans hb.os, hB.tape.trans hb.tape, hB.output.trans hb.output, by have := hB.size; omega, ?_, fun _ h => .inl h, fun _ h => .inl h⟩⟩
  · exact heap_setCell_same _ g 4 _ _ _ ((hb.far g (by omega)).trans h.blk)
  · refine h.sl.kept fun b hb => ?_
    have e1 : b ≠ g := by have := (h.sl.lt hb).1; omega
    have e2 : b ≠ b2 := fun e => Own.apart h.sl h.ord (by decide) hb (by rw [e]; rfl)
    rw [sc_other e1]
    exact hb'.far b e2
  · refine hO.kept fun b hb => ?_
    have e1 : b ≠ g := by have := (hO.lt hb).1; omega
    rw [sc_other e1]
  · simp; omega
  · intro b hb e1 _ e2
    have e2 : b ≠ b2 := fun e => e2 (by rw [e]; rfl)
    rw [sc_other e1]
    exact hb'.far b e2
end Go.Proofs.Ytijlnlcjlkanaaa.Vtj
