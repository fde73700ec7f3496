/- A world in which every variable that this seat's rows list holds what its initialiser lays: for the rows' witnesses. -/
import Derived.Test.YtjmgfhbadnechaaDoorRows
import Derived.ProofKit
import Derived.LaidLaws
namespace Go.Proofs.YtjmgfhbadnechaaDoor.Lai
open Go
mutual
def flat : DataW Unit → List Value
  | .lit (.int k n) => [.int k n]
  | .lit (.bool b) => [.bool b]
  | .lit (.string l) => [.string ⟨l.toArray⟩]
  | .agg ps => flatAll ps
  | _ => []
def flatAll : List (DataW Unit) → List Value
  | [] => []
  | d :: r => flat d ++ flatAll r
end
def put (h : Array Obj) (g : Nat) (cs : Array Value) : Array Obj := h.modify g fun
  | .cells _ t frozen => .cells cs t frozen
  | o => o
noncomputable def laidWorld (os : Os) : World :=
  let N := (World.settled Tryd.prog os).heap.size
  let w0 := World.holding Tryd.prog os ⟨#[.cells #[.string ⟨#[118, 97, 108, 117, 101, 32, 111, 117, 116, 32, 111, 102, 32, 114, 97, 110, 103, 101]⟩] 140, .cells #[.string ⟨#[105, 110, 118, 97, 108, 105, 100, 32, 115, 121, 110, 116, 97, 120]⟩] 140], #[], []⟩
  let h := w0.heap
  let h := put h 6 (flat Rows.laid_math_bits_deBruijn32tab).toArray
  let h := put h 7 (flat Rows.laid_math_bits_deBruijn64tab).toArray
  let h := put h 1 (flat Rows.laid_internal_strconv_uint64pow10).toArray
  let h := put h 5 (flat Rows.laid_unicode_utf8_acceptRanges).toArray
  let h := put h 4 (flat Rows.laid_unicode_utf8_first).toArray
  let h := put h 3 #[.iface 138 (.pointer (some ⟨N + 0, 0, none⟩))]
  let h := put h 2 #[.iface 138 (.pointer (some ⟨N + 1, 0, none⟩))]
  { w0 with heap := h }
end Go.Proofs.YtjmgfhbadnechaaDoor.Lai
