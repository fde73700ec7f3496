/-
  No cell of these rows narrows 'for every input' (looked for: loops, veiled, ifaces, maps, wideKeys, modest, calm, conditions, laid).
  DERIVED. THE GIVEN ROWS OF THIS SEAT. 4 by the template 'for every input the law returns true; each argument reads behind the call as it read before'; 0 by the template 'total and deterministic' (their statements: YtijlnlcjlkanaaaTotals.lean).
  GIVEN WITH THE SEED: the statements are not yours to turn. If you find one false, say at which input.
  Laid BY PROGRAM, IN A SANDBOX (cutbox-rows.mjs): the forced cells as the released guide's own fill.sh prints them over the translation 38ce97af68481873… (all of the seat's roots in one cut). By AI agents, Wed Nov 11 2026. No macro, syntax, notation, axiom, sorry.
-/
import Derived.Test.YtijlnlcjlkanaaaChecked
import GoSem.Claim
import GoSem.ClaimJoined
import GoSem.ClaimMapViews
import Derived.JoinedTies
import Derived.KernelRfl
namespace Go.Proofs.Ytijlnlcjlkanaaa
/- THE CELL 'sum', in the pinned program and in every row, IS THE sha256 OF THE DUMP (.gsa) THAT YtijlnlcjlkanaaaProg.lean LOADS. Nothing in Lean hashes anything: it is a label: what it is worth is what the hold of that sum in a sandbox is worth. -/
noncomputable def Try.pinned : Pinned := { name := "ytijlnlcjlkanaaa", sum := "38ce97af684818736c8b71958673fcb555d32425eeb22a5c22a71cda59fa1121", checked := Try.checked }
namespace Rows
def none {H : Type} : Left H := { results := [], args := [] }

/-- 'drowselaw10.SlotsNever': WHATEVER THE INPUT: true; the input reads as it did. -/
def slotsNeverSpec : ChangeSpec := { name := "slotsNever", fn := fun _ => fun
  | [d1, d2] => { results := [.lit (.bool true)], args := [d1, d2] }
  | _ => none }
def slotsNeverRow : OpenClaim := { program := "ytijlnlcjlkanaaa", sum := "38ce97af684818736c8b71958673fcb555d32425eeb22a5c22a71cda59fa1121", func := "drowse/drowselaw10.SlotsNever", spec := "slotsNever", apart := false }
def SlotsNeverSaid : Prop := slotsNeverRow.holds Try.pinned (OpenSpec.ofChange slotsNeverSpec)

/-- ITS FALSE NEIGHBOUR: 'it returns false'. Refute it at one input. -/
def slotsNeverWrong : ChangeSpec := { name := "slotsNever", fn := fun _ => fun
  | [d1, d2] => { results := [.lit (.bool false)], args := [d1, d2] }
  | _ => none }
def SlotsNeverWrongFalsely : Prop := slotsNeverRow.holds Try.pinned (OpenSpec.ofChange slotsNeverWrong)

/-- 'drowselaw10.SlotsSeen': WHATEVER THE INPUT: true; the input reads as it did. -/
def slotsSeenSpec : ChangeSpec := { name := "slotsSeen", fn := fun _ => fun
  | [d1, d2, d3] => { results := [.lit (.bool true)], args := [d1, d2, d3] }
  | _ => none }
def slotsSeenRow : OpenClaim := { program := "ytijlnlcjlkanaaa", sum := "38ce97af684818736c8b71958673fcb555d32425eeb22a5c22a71cda59fa1121", func := "drowse/drowselaw10.SlotsSeen", spec := "slotsSeen", unfollowed := true, recurses := true, apart := false }
def SlotsSeenSaid : Prop := slotsSeenRow.holds Try.pinned (OpenSpec.ofChange slotsSeenSpec)

/-- ITS FALSE NEIGHBOUR: 'it returns false'. Refute it at one input. -/
def slotsSeenWrong : ChangeSpec := { name := "slotsSeen", fn := fun _ => fun
  | [d1, d2, d3] => { results := [.lit (.bool false)], args := [d1, d2, d3] }
  | _ => none }
def SlotsSeenWrongFalsely : Prop := slotsSeenRow.holds Try.pinned (OpenSpec.ofChange slotsSeenWrong)

/-- 'drowselaw10.SlotsPlays': WHATEVER THE INPUT: true; the input reads as it did. -/
def slotsPlaysSpec : ChangeSpec := { name := "slotsPlays", fn := fun _ => fun
  | [d1, d2] => { results := [.lit (.bool true)], args := [d1, d2] }
  | _ => none }
def slotsPlaysRow : OpenClaim := { program := "ytijlnlcjlkanaaa", sum := "38ce97af684818736c8b71958673fcb555d32425eeb22a5c22a71cda59fa1121", func := "drowse/drowselaw10.SlotsPlays", spec := "slotsPlays", unfollowed := true, recurses := true, apart := false }
def SlotsPlaysSaid : Prop := slotsPlaysRow.holds Try.pinned (OpenSpec.ofChange slotsPlaysSpec)

/-- ITS FALSE NEIGHBOUR: 'it returns false'. Refute it at one input. -/
def slotsPlaysWrong : ChangeSpec := { name := "slotsPlays", fn := fun _ => fun
  | [d1, d2] => { results := [.lit (.bool false)], args := [d1, d2] }
  | _ => none }
def SlotsPlaysWrongFalsely : Prop := slotsPlaysRow.holds Try.pinned (OpenSpec.ofChange slotsPlaysWrong)

/-- 'drowselaw10.SlotsNil': WHATEVER THE INPUT: true; the input reads as it did. -/
def slotsNilSpec : ChangeSpec := { name := "slotsNil", fn := fun _ => fun
  | [d1, d2] => { results := [.lit (.bool true)], args := [d1, d2] }
  | _ => none }
def slotsNilRow : OpenClaim := { program := "ytijlnlcjlkanaaa", sum := "38ce97af684818736c8b71958673fcb555d32425eeb22a5c22a71cda59fa1121", func := "drowse/drowselaw10.SlotsNil", spec := "slotsNil", unfollowed := true, recurses := true, apart := false }
def SlotsNilSaid : Prop := slotsNilRow.holds Try.pinned (OpenSpec.ofChange slotsNilSpec)

/-- ITS FALSE NEIGHBOUR: 'it returns false'. Refute it at one input. -/
def slotsNilWrong : ChangeSpec := { name := "slotsNil", fn := fun _ => fun
  | [d1, d2] => { results := [.lit (.bool false)], args := [d1, d2] }
  | _ => none }
def SlotsNilWrongFalsely : Prop := slotsNilRow.holds Try.pinned (OpenSpec.ofChange slotsNilWrong)

/- THE SECOND FORM. 'bulk': how many values and letters a reading holds, each counted each time it is reached (what is shared counts as often as it is met; a slice's spare places count too). A statement '..UptoSaid' is the law's where the arguments, and the package variables that the reading takes, are together of bulk at most 1048576: NARROWER than '..Said'. Prove '..Said' where nothing that the law and all that it calls make is longer than what came in: it says more and counts as full. Else prove '..UptoSaid'. A law counts once. -/
mutual
def uptoBulk {H : Type} : DataW H → Nat
  | .lit (.string bytes) => bytes.length + 1
  | .lit _ => 1
  | .nil => 1
  | .ptr d => uptoBulk d + 1
  | .slice elems spare => uptoBulkAll elems + uptoBulkAll spare + 1
  | .agg parts => uptoBulkAll parts + 1
  | .iface _ d => uptoBulk d + 1
  | .map entries => uptoBulkEntries entries + 1
  | .held _ => 1
def uptoBulkAll {H : Type} : List (DataW H) → Nat
  | [] => 0
  | d :: r => uptoBulk d + uptoBulkAll r
def uptoBulkEntries {H : Type} : List (Lit × DataW H) → Nat
  | [] => 0
  | x :: r => uptoBulkEntry x + uptoBulkEntries r
def uptoBulkEntry {H : Type} : Lit × DataW H → Nat
  | (.string bytes, d) => bytes.length + uptoBulk d + 1
  | (_, d) => uptoBulk d + 1
 end
def uptoSmall : (H : Type) → List (DataW H) → Bool := fun _ ds => decide (uptoBulkAll ds ≤ 1048576)
def OpenSpec.upto (s : _root_.Go.ChangeSpec) : _root_.Go.OpenSpec := { _root_.Go.OpenSpec.ofChange s with cond := some uptoSmall }

/-- 'drowselaw10.SlotsNever', WHERE WHAT IT READS IS OF BULK AT MOST 1048576: true; the input reads as it did. -/
def slotsNeverUptoRow : OpenClaim := { program := "ytijlnlcjlkanaaa", sum := "38ce97af684818736c8b71958673fcb555d32425eeb22a5c22a71cda59fa1121", func := "drowse/drowselaw10.SlotsNever", spec := "slotsNever", apart := false, narrowed := true }
def SlotsNeverUptoSaid : Prop := slotsNeverUptoRow.holds Try.pinned (OpenSpec.upto slotsNeverSpec)

/-- 'drowselaw10.SlotsSeen', WHERE WHAT IT READS IS OF BULK AT MOST 1048576: true; the input reads as it did. -/
def slotsSeenUptoRow : OpenClaim := { program := "ytijlnlcjlkanaaa", sum := "38ce97af684818736c8b71958673fcb555d32425eeb22a5c22a71cda59fa1121", func := "drowse/drowselaw10.SlotsSeen", spec := "slotsSeen", unfollowed := true, recurses := true, apart := false, narrowed := true }
def SlotsSeenUptoSaid : Prop := slotsSeenUptoRow.holds Try.pinned (OpenSpec.upto slotsSeenSpec)

/-- 'drowselaw10.SlotsPlays', WHERE WHAT IT READS IS OF BULK AT MOST 1048576: true; the input reads as it did. -/
def slotsPlaysUptoRow : OpenClaim := { program := "ytijlnlcjlkanaaa", sum := "38ce97af684818736c8b71958673fcb555d32425eeb22a5c22a71cda59fa1121", func := "drowse/drowselaw10.SlotsPlays", spec := "slotsPlays", unfollowed := true, recurses := true, apart := false, narrowed := true }
def SlotsPlaysUptoSaid : Prop := slotsPlaysUptoRow.holds Try.pinned (OpenSpec.upto slotsPlaysSpec)

/-- 'drowselaw10.SlotsNil', WHERE WHAT IT READS IS OF BULK AT MOST 1048576: true; the input reads as it did. -/
def slotsNilUptoRow : OpenClaim := { program := "ytijlnlcjlkanaaa", sum := "38ce97af684818736c8b71958673fcb555d32425eeb22a5c22a71cda59fa1121", func := "drowse/drowselaw10.SlotsNil", spec := "slotsNil", unfollowed := true, recurses := true, apart := false, narrowed := true }
def SlotsNilUptoSaid : Prop := slotsNilUptoRow.holds Try.pinned (OpenSpec.upto slotsNilSpec)

end Rows
end Go.Proofs.Ytijlnlcjlkanaaa
