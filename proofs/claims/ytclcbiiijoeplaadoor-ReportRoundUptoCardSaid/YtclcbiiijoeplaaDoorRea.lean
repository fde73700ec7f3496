/- report.Read. -/
import Derived.Test.YtclcbiiijoeplaaDoorRal
import Derived.Test.YtclcbiiijoeplaaDoorRas
import Derived.Deep.QuietTactic
import Derived.BigQuiet
set_option linter.unusedVariables false
namespace Go.Proofs.YtclcbiiijoeplaaDoor.Rea
open Go.RowKit Go.Sort Rpl Rwd Rmy Rln Rpp Rpq Rwo Rbk Rpt Rrd

/-- How report.Read answers. -/
def Read (s : List UInt8) (w : World) (e : Ending) (w' : World) : Prop := ∃ v, Below w.heap.size w w' ∧ match redOf s with
  | .rows l => e = .returned (.tuple #[v, .int .i64 0, .int .i64 0]) ∧ Own bkE 33 w.heap.size v l w'
  | .line k => e = .returned (.tuple #[v, .int .i64 211, .int .i64 k]) ∧ v = .slice none 0 0
set_option maxHeartbeats 4000000 in
set_option maxRecDepth 100000 in
theorem read_any (s : ByteArray) (w : World) (hs : s.size ≤ 33554432) (hE : Hid (Rev.Env w)) : Calls Tryd.prog 13 #[.string s] w (Read s.data.toList w) := by
  go_enter Tryd.func13, Tryd.ntmps13
  go_wp2_with fail
  refine (Ral.all_any s w hs hE).mono ?_
  rintro e w1 ⟨hb1, hm⟩
  have hs1 := hb1.size
  have HB1 := Lib.hid hb1
  have HE1 := Lib.hid (hE.out.below hb1)
  have HB2 := Lib.hid (hb1.alloc hs1 (.cells #[.pointer none] 71))
  clear hb1
  obtain ⟨o, ho⟩ : ∃ o, redOf s.data.toList = o := ⟨_, rfl⟩
  rw [ho] at hm
  have HO := Lib.hid ho
  clear ho
  cases o with
  | rows l =>
    obtain ⟨v, rfl, hI⟩ := hm
    have HI := Lib.hid hI
    clear hI
    go_wp2_with fail
    refine (Ras.as_nil _ _).mono ?_
    rintro e w2 ⟨rfl, rfl⟩
    go_wp2
    go_ret3
    refine ⟨v, HB2.out, ?_⟩
    rw [HO.out]
    exact ⟨rfl, HI.out.alloc _⟩
  | line k =>
    obtain ⟨g, rfl, hg⟩ := hm
    have hlt : g < w1.heap.size := (Array.getElem?_eq_some_iff.1 hg).1
    have HG := Lib.hid hg
    have HX := Lib.hid (heap_alloc_new w1 (.cells #[.pointer none] 71))
    have HR : Hid _ := Lib.hid ((HE1.out.below ((Below.refl _ w1).alloc (Nat.le_refl _) (.cells #[.pointer none] 71))).err)
    clear hg
    go_wp2_with fail
    refine (Ras.as_lacks g w1.heap.size _ HX.out HR.out).mono ?_
    rintro e w2 ⟨rfl, w5, hb5, rfl⟩
    have hx5 := (hb5.block w1.heap.size (by simp)).trans HX.out
    have c1 : (w5.setCell ⟨w1.heap.size, 0, none⟩ (.pointer (some ⟨g, 0, none⟩))).cell? ⟨w1.heap.size, 0, none⟩ = some (.pointer (some ⟨g, 0, none⟩)) := by
      rw [Lib.cell_of_heap (heap_setCell_same _ _ 0 _ _ _ hx5)]; rfl
    have c2 : (w5.setCell ⟨w1.heap.size, 0, none⟩ (.pointer (some ⟨g, 0, none⟩))).cell? ⟨g, 0, none⟩ = some (.int .i64 k) := by
      have h1 := heap_setCell_other w5 ⟨w1.heap.size, 0, none⟩ g (.pointer (some ⟨g, 0, none⟩)) (by show g ≠ w1.heap.size; omega)
      rw [hb5.block g (by simp; omega), heap_alloc_old _ _ hlt, HG.out] at h1
      rw [Lib.cell_of_heap h1]; rfl
    have HB5 : Hid (Below w.heap.size w (w5.setCell ⟨w1.heap.size, 0, none⟩ (.pointer (some ⟨g, 0, none⟩)))) := (HB2.out.trans (hb5.mono (by simp; omega))).setCell (p := ⟨w1.heap.size, 0, none⟩) hs1 _
    clear hb5 hx5
    obtain ⟨W, hW⟩ : ∃ W, W = w5.setCell ⟨w1.heap.size, 0, none⟩ (.pointer (some ⟨g, 0, none⟩)) := ⟨_, rfl⟩
    rw [← hW] at c1 c2 HB5
    rw [← hW]
    clear hW
    go_wp2
    go_quiet (fail)
    go_wp2
    go_ret3
    refine ⟨.slice none 0 0, Rln.below_drewN_up HB5.out _, ?_⟩
    rw [HO.out]
    exact ⟨rfl, rfl⟩
end Go.Proofs.YtclcbiiijoeplaaDoor.Rea
