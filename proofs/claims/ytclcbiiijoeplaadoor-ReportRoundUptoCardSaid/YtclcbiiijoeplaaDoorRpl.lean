/- Who is blocked: the plain side: a row, its line, the text of many. -/
import Derived.Test.YtclcbiiijoeplaaDoorChecked
import Derived.RowKit
import Derived.Lib.ItoaNum
import Derived.Lib.ItoaLen
set_option linter.unusedVariables false
namespace Go.Proofs.YtclcbiiijoeplaaDoor.Rpl

structure Bk where
  ser : Int
  lin : Int
  fn : ByteArray
  on : Int
abbrev Bk.row (b : Bk) : Array Value := #[.int .i64 b.ser, .int .i64 b.lin, .string b.fn, .int .i64 b.on]
abbrev Bk.val (b : Bk) : Value := .agg b.row
/-- No end of a line in it. -/
def flat (l : List UInt8) : Bool := l.all (· != 10)
/-- All but the name is in place. -/
def inb (b : Bk) : Bool := decide (1 ≤ b.ser) && (decide (b.ser ≤ 2147483647) && (decide (0 ≤ b.lin) && (decide (b.lin ≤ 2147483647) && (decide (1 ≤ b.on) && decide (b.on ≤ 8)))))
def may (b : Bk) : Bool := flat b.fn.data.toList && inb b
theorem inb_iff (b : Bk) : inb b = true ↔ (1 ≤ b.ser ∧ b.ser ≤ 2147483647 ∧ 0 ≤ b.lin ∧ b.lin ≤ 2147483647 ∧ 1 ≤ b.on ∧ b.on ≤ 8) := by simp [inb]
theorem flat_get {l : List UInt8} (h : flat l = true) (i : Nat) (hi : i < l.length) : l[i] ≠ 10 := by
  have := List.all_eq_true.1 h _ (List.getElem_mem hi)
  simpa using this
theorem flat_take {l : List UInt8} {i : Nat} (hi : i < l.length) (h : flat (l.take i) = true) (h2 : l[i] ≠ 10) : flat (l.take (i + 1)) = true := by
  rw [List.take_add_one, List.getElem?_eq_getElem hi]
  simp only [flat, List.all_append] at h ⊢
  rw [h]; simp [h2]
theorem flat_not {l : List UInt8} {i : Nat} (hi : i < l.length) (h2 : l[i] = 10) : flat l = false := by
  cases h : flat l with
  | false => rfl
  | true => exact absurd h2 (flat_get h i hi)
end Go.Proofs.YtclcbiiijoeplaaDoor.Rpl
