/- A world in which every variable that this seat's rows list holds what its initialiser lays: for the rows' witnesses. -/
import Derived.Test.YtgodeffkboihlaaGreatDoorRows
import Derived.ProofKit
import Derived.LaidLaws
set_option linter.unusedVariables false
namespace Go.Proofs.YtgodeffkboihlaaGreatDoor.Lai
open Go
mutual
def flat : DataW Unit → List Value
  | .lit (.int k n) => [.int k n]
  | .lit (.bool b) => [.bool b]
  | .lit (.string l) => [.string ⟨l.toArray⟩]
  | .agg ps => flatAll ps
  | _ => []
def flatAll : List (DataW Unit) → List Value
  | [] => []
  | d :: r => flat d ++ flatAll r
end
def put (h : Array Obj) (g : Nat) (cs : Array Value) : Array Obj := h.modify g fun
  | .cells _ t frozen => .cells cs t frozen
  | o => o
noncomputable def laidWorld (os : Os) : World :=
  let N := (World.settled Tryz.prog os).heap.size
  let w0 := World.holding Tryz.prog os ⟨#[], #[], []⟩
  let h := w0.heap
  let h := put h 4 (flat Rows.laid_math_bits_deBruijn32tab).toArray
  let h := put h 5 (flat Rows.laid_math_bits_deBruijn64tab).toArray
  let h := put h 3 (flat Rows.laid_internal_strconv_uint64pow10).toArray
  let h := put h 2 (flat Rows.laid_unicode_utf8_acceptRanges).toArray
  let h := put h 1 (flat Rows.laid_unicode_utf8_first).toArray
  { w0 with heap := h }
end Go.Proofs.YtgodeffkboihlaaGreatDoor.Lai
