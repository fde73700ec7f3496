/- A part of the proof; several texts in one file. -/
import Derived.Test.YtgodeffkboihlaaGreatDoorM6
import Derived.Test.YtgodeffkboihlaaGreatDoorTpz
/- The powers of ten out of what the row lays. -/
set_option linter.unusedVariables false
namespace Go.Proofs.YtgodeffkboihlaaGreatDoor.Tew
open Go.RowKit Twq

theorem pow_of {w : World} (h : Lib.VarReads Tryz.prog w "internal/strconv.uint64pow10" Rows.laid_internal_strconv_uint64pow10) : Lib.TabIs Tryz.prog w "internal/strconv.uint64pow10" .u64 Lib.pow10Tab := by
  obtain ⟨g', t', cs, fuel, p, hg', ht', hvar, hd⟩ := h
  obtain rfl := Option.some.inj (gPow.symm.trans hg')
  obtain rfl := Option.some.inj ((show (Tryz.prog.globals[3]?).map (·.type) = some 134 by kernel_rfl).symm.trans ht')
  unfold Lib.TabIs
  rw [hvar]
  have hd2 : DataW.trod (fun _ => ()) Tryz.prog w 0 (fun _ => true) false fuel 134 cs.toList = some (Lib.tabData .u64 Lib.pow10Tab, p) := hd
  rw [← Lib.cells_of_tab (n := 20) (e := 105) (by kernel_rfl) (by kernel_rfl) (by kernel_rfl) (by kernel_rfl) hd2]
theorem lt_of_var {w : World} {n : String} {g : Nat} {cs : Array Value} (hg : Tryz.prog.globalNamed n = some g) (h : w.var? Tryz.prog n = some cs) : g < w.heap.size := by
  unfold World.var? at h
  rw [hg, Option.bind_some] at h
  rcases Nat.lt_or_ge g w.heap.size with h1 | h1
  · exact h1
  · rw [Array.getElem?_eq_none h1] at h
    simp at h
theorem pow_met {w : World} {l : List (String × DataW Unit)} (h : laidMet Tryz.prog l w) (h1 : ("internal/strconv.uint64pow10", Rows.laid_internal_strconv_uint64pow10) ∈ l) : Twq.Pow w := by
  have hp := pow_of (Lib.laidMet.reads h h1)
  exact ⟨hp, lt_of_var gPow hp⟩
end Go.Proofs.YtgodeffkboihlaaGreatDoor.Tew

/- The walk of TreeParts, as the row's writer wants it. -/
set_option linter.unusedVariables false
namespace Go.Proofs.YtgodeffkboihlaaGreatDoor.Tpw
open Go.RowKit Tra Trb

theorem walk (v0 : Value) (t0 : Tr) (v1 : Value) (t1 : Tr) (W : World) (fit0 : Fit t0) (lie0 : Lies W (fun _ => True) t0 v0) (fit1 : Fit t1) (lie1 : Lies W (fun _ => True) t1 v1) (hE : Twq.Pow W) :
    Calls Tryz.prog 4 #[v0, v1] W fun e w' => e = .returned (.bool true) ∧ Below W.heap.size W w' :=
  Tpz.walk v0 t0 v1 t1 W fit0 lie0 fit1 lie1 hE
end Go.Proofs.YtgodeffkboihlaaGreatDoor.Tpw
