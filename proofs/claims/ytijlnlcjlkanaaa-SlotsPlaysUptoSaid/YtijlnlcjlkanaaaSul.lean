/- (*drowselaw10.pair).all: what it keeps. -/
import Derived.Test.YtijlnlcjlkanaaaSuk
import Derived.Test.YtijlnlcjlkanaaaRnd
import Derived.RangeFuncBox
set_option linter.unusedVariables false
namespace Go.Proofs.Ytijlnlcjlkanaaa.Sul
open Go.RowKit Go.Shelf Sta Stb Stc Stg Ste Stl Stn Sue Suf Sug Suj Suk Sud

/-- What stands fast while all runs: the boxes of p, early, l; what All captured; the pair; the table; l. -/
structure Fx (gp g : Nat) (b2 b3 b5 b6 : Nat) (gb : Nat) (vs vo vt vl : Value) (t : Tab) (L : List Th) (early : Int) (w W : World) : Prop where
  p2 : Boxed W b2 63 (.pointer (some ⟨gp, 0, none⟩))
  e3 : Boxed W b3 3 (.int .i64 early)
  l5 : Boxed W b5 67 vl
  c6 : Boxed W b6 25 (.pointer (some ⟨g, 0, none⟩))
  pr : W.heap[gp]? = some (.cells #[.pointer (some ⟨g, 0, none⟩), .pointer (some ⟨gb, 0, none⟩), vt] 65 (0, 0))
  tab : TabAt g vs vo t W
  l : Rwo.Own thE 102 w.heap.size vl L W
  below : Below w.heap.size w W
section
variable {gp g b2 b3 b5 b6 gb : Nat} {vs vo vt vl : Value} {t : Tab} {L : List Th} {early : Int} {w W W' : World}
theorem Fx.grow (f : Fx gp g b2 b3 b5 b6 gb vs vo vt vl t L early w W) (h : Below W.heap.size W W') : Fx gp g b2 b3 b5 b6 gb vs vo vt vl t L early w W' :=
  ⟨(h.block b2 f.p2.lt).trans f.p2, (h.block b3 f.e3.lt).trans f.e3, (h.block b5 f.l5.lt).trans f.l5, (h.block b6 f.c6.lt).trans f.c6, (h.block gp (Array.getElem?_eq_some_iff.1 f.pr).1).trans f.pr, f.tab.below h, f.l.below h (Nat.le_refl _), f.below.trans (h.mono f.below.size)⟩
end
theorem boxed_below {W W' : World} {b : Nat} {T : TypeId} {v : Value} (k : Boxed W b T v) (h : Below W.heap.size W W') : Boxed W' b T v := (h.block b k.lt).trans k
theorem fx_start {gp g gb : Nat} {vs vo vr vt vl : Value} {t : Tab} {R L : List Th} {most : Nat} {early : Int} {w w4 : World}
    (hp : w.heap[gp]? = some (.cells #[.pointer (some ⟨g, 0, none⟩), .pointer (some ⟨gb, 0, none⟩), vt] 65 (0, 0))) (hT : TabAt g vs vo t w)
    (hb : Below ((w.alloc (.cells #[.pointer (some ⟨gp, 0, none⟩)] 63)).alloc (.cells #[.int .i64 early] 3)).heap.size ((w.alloc (.cells #[.pointer (some ⟨gp, 0, none⟩)] 63)).alloc (.cells #[.int .i64 early] 3)) w4)
    (hO : Rwo.Own thE 102 ((w.alloc (.cells #[.pointer (some ⟨gp, 0, none⟩)] 63)).alloc (.cells #[.int .i64 early] 3)).heap.size vl L w4) :
    Fx gp g w.heap.size (w.heap.size + 1) w4.heap.size (w4.heap.size + 1) gb vs vo vt vl t L early w ((w4.alloc (.cells #[vl] 67)).alloc (.cells #[.pointer (some ⟨g, 0, none⟩)] 25)) := by
  have k1 := Sug.below_new w (.cells #[.pointer (some ⟨gp, 0, none⟩)] 63)
  have k2 := Sug.below_new (w.alloc (.cells #[.pointer (some ⟨gp, 0, none⟩)] 63)) (.cells #[.int .i64 early] 3)
  have k3 := Sug.below_new w4 (.cells #[vl] 67)
  have k4 := Sug.below_new (w4.alloc (.cells #[vl] 67)) (.cells #[.pointer (some ⟨g, 0, none⟩)] 25)
  have x2 := Boxed.new w 63 (.pointer (some ⟨gp, 0, none⟩))
  have x3 := Boxed.new (w.alloc (.cells #[.pointer (some ⟨gp, 0, none⟩)] 63)) 3 (.int .i64 early)
  have x5 := Boxed.new w4 67 vl
  have x6 := Boxed.new (w4.alloc (.cells #[vl] 67)) 25 (.pointer (some ⟨g, 0, none⟩))
  rw [alloc_size] at x3 x6
  have hw : Below w.heap.size w w4 := (k1.trans (k2.mono k1.size)).trans (hb.mono (by have := k2.size; have := k1.size; omega))
  have h34 := k3.trans (k4.mono k3.size)
  refine ⟨boxed_below (boxed_below (boxed_below (boxed_below x2 k2) hb) k3) k4, boxed_below (boxed_below (boxed_below x3 hb) k3) k4, boxed_below x5 k4, x6, ?_, ?_, ?_, hw.trans (h34.mono hw.size)⟩
  · exact (h34.block gp (by have := (Array.getElem?_eq_some_iff.1 hp).1; have := hw.size; omega)).trans ((hw.block gp (Array.getElem?_eq_some_iff.1 hp).1).trans hp)
  · exact (hT.below hw).below h34
  · exact (hO.below h34 (Nat.le_refl _)).base (by have := k2.size; have := k1.size; omega)
end Go.Proofs.Ytijlnlcjlkanaaa.Sul
