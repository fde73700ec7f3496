/- What the listed package-level variables give the walks of Report, and that it stays: the powers of ten, the length of a machine's search, the type of an error. -/
import Derived.Test.YtclcbiiijoeplaaDoorRows
import Derived.Lib.LaidTab
import Derived.Lib.LaidU8
import Derived.Lib.ItoaNum
import Derived.LaidLaws
import Derived.WalkSmall
import Derived.WalkKit
import Derived.KernelRfl
import Derived.HandedShaped
import Derived.Shelf.Vars
import Derived.LaidHandle
set_option linter.unusedVariables false
namespace Go.Proofs.YtclcbiiijoeplaaDoor.Rev
open Go.RowKit

theorem gPow : Tryd.prog.globalNamed "internal/strconv.uint64pow10" = some 2 := by kernel_rfl
abbrev hdl (t : Nat) : Value := .pointer (some ⟨7, t, none⟩)
structure Env (w : World) : Prop where
  pow : Lib.TabIs Tryd.prog w "internal/strconv.uint64pow10" .u64 Lib.pow10Tab
  len : ∃ m, w.cell? ⟨1, 0, none⟩ = some (.int .i64 m)
  err : w.cell? ⟨0, 0, none⟩ = some (.iface 109 (.agg #[hdl 60]))
  size : 2 < w.heap.size ∧ 1 < w.heap.size ∧ 0 < w.heap.size
theorem Env.below {w w' : World} (h : Env w) (b : Below w.heap.size w w') : Env w' := by
  obtain ⟨m, hm⟩ := h.len
  have hs := h.size
  exact ⟨var?_below b gPow hs.1 h.pow, ⟨m, (b.cell (p := ⟨_, 0, none⟩) hs.2.1).trans hm⟩, (b.cell (p := ⟨_, 0, none⟩) hs.2.2).trans h.err, by have := b.size; omega⟩
theorem gErr : Tryd.prog.globalNamed "errors.errorType" = some 0 := by kernel_rfl
theorem pow_of {w : World} (h : Lib.VarReads Tryd.prog w "internal/strconv.uint64pow10" Rows.laid_internal_strconv_uint64pow10) : Lib.TabIs Tryd.prog w "internal/strconv.uint64pow10" .u64 Lib.pow10Tab := by
  obtain ⟨g', t', cs, fuel, p, hg', ht', hvar, hd⟩ := h
  obtain rfl := Option.some.inj (gPow.symm.trans hg')
  obtain rfl := Option.some.inj ((show (Tryd.prog.globals[2]?).map (·.type) = some 135 by kernel_rfl).symm.trans ht')
  unfold Lib.TabIs
  rw [hvar]
  have hd2 : DataW.trod (fun _ => ()) Tryd.prog w 0 (fun _ => true) false fuel 135 cs.toList = some (Lib.tabData .u64 Lib.pow10Tab, p) := hd
  rw [← Lib.cells_of_tab (n := 20) (e := 126) (by kernel_rfl) (by kernel_rfl) (by kernel_rfl) (by kernel_rfl) hd2]
theorem lt_of_var {w : World} {n : String} {g : Nat} {cs : Array Value} (hg : Tryd.prog.globalNamed n = some g) (h : w.var? Tryd.prog n = some cs) : g < w.heap.size := by
  unfold World.var? at h
  rw [hg, Option.bind_some] at h
  rcases Nat.lt_or_ge g w.heap.size with h1 | h1
  · exact h1
  · rw [Array.getElem?_eq_none h1] at h
    simp at h
theorem cell_of_var {w : World} {n : String} {g : Nat} {cs : Array Value} (hg : Tryd.prog.globalNamed n = some g) (h : w.var? Tryd.prog n = some cs) : w.cell? ⟨g, 0, none⟩ = cs[0]? := by
  unfold World.var? at h
  rw [hg, Option.bind_some] at h
  cases hw : w.heap[g]? with
  | none => rw [hw] at h; cases h
  | some o =>
    rw [hw] at h
    cases o with
    | cells c e f =>
      simp only [Option.some.injEq] at h
      subst h
      simp [World.cell?, hw]
    | _ => cases h
theorem one_row : (List.range Tryd.prog.types.size).all (fun t => !Tryd.prog.rowNamed t [101, 114, 114, 111, 114] || t == 60) = true := by kernel_rfl
theorem row_rtype : (Tryd.prog.cutTypes.find? (·.1 == "internal/reflectlite.rtype")).map (·.2) = some 109 := by kernel_rfl
theorem err_of {w : World} (h : handlesMet Tryd.prog [("errors.errorType", Rows.laid_errors_errorType)] w) : w.var? Tryd.prog "errors.errorType" = some #[.iface 109 (.agg #[hdl 60])] := by
  have h1 := h ("errors.errorType", Rows.laid_errors_errorType) (by simp)
  have h2 : (Rows.laid_errors_errorType : DataW Unit).funcsIn? = none := by kernel_rfl
  rw [h2] at h1
  obtain ⟨name, u, ty, e1, e2, e3, e4, e5⟩ := h1
  have e6 : (Rows.laid_errors_errorType : DataW Unit).handleName? = some [101, 114, 114, 111, 114] := by kernel_rfl
  rw [e6] at e1
  cases e1
  rw [row_rtype] at e2
  cases e2
  have h3 := List.all_eq_true.1 one_row ty (List.mem_range.2 e3)
  rw [e4] at h3
  simp only [Bool.not_true, Bool.false_or, beq_iff_eq] at h3
  subst h3
  rw [e5]
  rfl
theorem int_of_shaped {w : World} (h : w.ShapedOpen Tryd.prog) : ∃ m, w.cell? ⟨1, 0, none⟩ = some (.int .i64 m) :=
  cell_of_shapedOpen_int (t := 3) h (of_decide_eq_true (by kernel_rfl)) (zero := #[.int .i64 0]) (by kernel_rfl) rfl (by kernel_rfl) (by kernel_rfl) Tryd.underlying3
theorem Env.of {w : World} {l : List (String × DataW Unit)} (h : laidMetH Tryd.prog l w) (hsh : w.ShapedOpen Tryd.prog) (h1 : ("internal/strconv.uint64pow10", Rows.laid_internal_strconv_uint64pow10) ∈ l.filter fun x => x.2.handleName?.isNone)
    (h2 : (l.filter fun x => x.2.handleName?.isSome) = [("errors.errorType", Rows.laid_errors_errorType)]) : Env w := by
  unfold laidMetH at h
  rw [h2] at h
  have hp := pow_of (Lib.laidMet.reads h.1 h1)
  have he := err_of h.2
  obtain ⟨m, hm⟩ := int_of_shaped hsh
  have hml : 1 < w.heap.size := by
    rcases Nat.lt_or_ge 1 w.heap.size with h' | h'
    · exact h'
    · unfold World.cell? at hm
      rw [Array.getElem?_eq_none h'] at hm
      simp at hm
  refine ⟨hp, ⟨m, hm⟩, ?_, ⟨lt_of_var gPow hp, hml, lt_of_var gErr he⟩⟩
  rw [cell_of_var gErr he]; rfl
end Go.Proofs.YtclcbiiijoeplaaDoor.Rev
