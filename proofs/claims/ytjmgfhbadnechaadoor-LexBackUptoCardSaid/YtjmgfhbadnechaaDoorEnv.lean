/- What the listed package-level variables give the walks, and that it stays: the powers of ten, the error of a number out of range. -/
import Derived.Test.YtjmgfhbadnechaaDoorRows
import Derived.Lib.LaidTab
import Derived.Lib.LaidU8
import Derived.Lib.ItoaNum
import Derived.LaidLaws
import Derived.WalkSmall
import Derived.WalkKit
import Derived.KernelRfl
set_option linter.unusedVariables false
namespace Go.Proofs.YtjmgfhbadnechaaDoor.Env
open Go.RowKit

theorem gPow : Tryd.prog.globalNamed "internal/strconv.uint64pow10" = some 1 := by kernel_rfl
theorem gRng : Tryd.prog.globalNamed "strconv.ErrRange" = some 3 := by kernel_rfl

structure Env (w : World) : Prop where
  pow : Lib.TabIs Tryd.prog w "internal/strconv.uint64pow10" .u64 Lib.pow10Tab
  rng : ∃ tp p, w.var? Tryd.prog "strconv.ErrRange" = some #[.iface tp p]
  size : 1 < w.heap.size ∧ 3 < w.heap.size

theorem Env.below {w w' : World} (h : Env w) (b : Below w.heap.size w w') : Env w' := by
  obtain ⟨tp, p, hr⟩ := h.rng
  have hs := h.size
  exact ⟨var?_below b gPow hs.1 h.pow, ⟨tp, p, var?_below b gRng hs.2 hr⟩, ⟨Nat.lt_of_lt_of_le hs.1 b.size, Nat.lt_of_lt_of_le hs.2 b.size⟩⟩

/-- The powers of ten alone. -/
structure Pow (w : World) : Prop where
  pow : Lib.TabIs Tryd.prog w "internal/strconv.uint64pow10" .u64 Lib.pow10Tab
  size : 1 < w.heap.size
theorem Env.toPow {w : World} (h : Env w) : Pow w := ⟨h.pow, h.size.1⟩
theorem Pow.below {w w' : World} (h : Pow w) (b : Below w.heap.size w w') : Pow w' := ⟨var?_below b gPow h.size h.pow, Nat.lt_of_lt_of_le h.size b.size⟩

theorem pow_of {w : World} (h : Lib.VarReads Tryd.prog w "internal/strconv.uint64pow10" Rows.laid_internal_strconv_uint64pow10) : Lib.TabIs Tryd.prog w "internal/strconv.uint64pow10" .u64 Lib.pow10Tab := by
  obtain ⟨g', t', cs, fuel, p, hg', ht', hvar, hd⟩ := h
  obtain rfl := Option.some.inj (gPow.symm.trans hg')
  obtain rfl := Option.some.inj ((show (Tryd.prog.globals[1]?).map (·.type) = some 122 by kernel_rfl).symm.trans ht')
  unfold Lib.TabIs
  rw [hvar]
  have hd2 : DataW.trod (fun _ => ()) Tryd.prog w 0 (fun _ => true) false fuel 122 cs.toList = some (Lib.tabData .u64 Lib.pow10Tab, p) := hd
  rw [← Lib.cells_of_tab (n := 20) (e := 108) (by kernel_rfl) (by kernel_rfl) (by kernel_rfl) (by kernel_rfl) hd2]
theorem rng_of {w : World} (h : Lib.VarReads Tryd.prog w "strconv.ErrRange" Rows.laid_strconv_ErrRange) : ∃ tp p, w.var? Tryd.prog "strconv.ErrRange" = some #[.iface tp p] := by
  obtain ⟨g', t', cs, fuel, p, hg', ht', hvar, hd⟩ := h
  obtain rfl := Option.some.inj (gRng.symm.trans hg')
  obtain rfl := Option.some.inj ((show (Tryd.prog.globals[3]?).map (·.type) = some 33 by kernel_rfl).symm.trans ht')
  obtain ⟨f, u, v, hc, _, _⟩ := iface_of_trod Tryd.underlying33 hd
  exact ⟨u, v, by rw [hvar, ← hc]⟩
theorem lt_of_var {w : World} {n : String} {g : Nat} {cs : Array Value} (hg : Tryd.prog.globalNamed n = some g) (h : w.var? Tryd.prog n = some cs) : g < w.heap.size := by
  unfold World.var? at h
  rw [hg, Option.bind_some] at h
  rcases Nat.lt_or_ge g w.heap.size with h1 | h1
  · exact h1
  · rw [Array.getElem?_eq_none h1] at h
    simp at h
theorem Env.of {w : World} {l : List (String × DataW Unit)} (h : laidMet Tryd.prog l w) (h1 : ("internal/strconv.uint64pow10", Rows.laid_internal_strconv_uint64pow10) ∈ l) (h2 : ("strconv.ErrRange", Rows.laid_strconv_ErrRange) ∈ l) : Env w := by
  have hp := pow_of (Lib.laidMet.reads h h1)
  obtain ⟨tp, p, hr⟩ := rng_of (Lib.laidMet.reads h h2)
  exact ⟨hp, ⟨tp, p, hr⟩, lt_of_var gPow hp, lt_of_var gRng hr⟩
theorem Pow.of {w : World} {l : List (String × DataW Unit)} (h : laidMet Tryd.prog l w) (h1 : ("internal/strconv.uint64pow10", Rows.laid_internal_strconv_uint64pow10) ∈ l) : Pow w := by
  have hp := pow_of (Lib.laidMet.reads h h1)
  exact ⟨hp, lt_of_var gPow hp⟩
end Go.Proofs.YtjmgfhbadnechaaDoor.Env
