/- An argument of type []int, opened. -/
import Derived.Test.YtclcbiiijoeplaaDoorSlo
import Derived.Test.YtclcbiiijoeplaaDoorRow
set_option linter.unusedVariables false
namespace Go.Proofs.YtclcbiiijoeplaaDoor.Rii
open Go.RowKit Go.ChangeShapes Go.WideShapes Go.Deep Rwo Slo Rowz
section
variable {H : Type} {enc : TypeId × Value → H} {w : World}
def In64 (n : Int) : Prop := -9223372036854775808 ≤ n ∧ n ≤ 9223372036854775807
structure IntsFit (l : List Int) : Prop where
  len : l.length ≤ 1048576
  each : ∀ j, j < l.length → In64 (l.getD j 0)
set_option maxRecDepth 100000 in
theorem open_ints {b0 : Nat} {v : Value} {d : DataW H} {ps : List MemPlace} (hval : Value.okWide Tryd.prog w .any b0 45 v) (hd : DataW.Trod enc Tryd.prog w 0 (fun _ => true) true 45 v d ps) (hk : Rows.uptoBulk d ≤ 1048576) :
    ∃ l, Arg i64E w v l ∧ IntsFit l := by
  obtain ⟨l, h1, h2, h3⟩ := open_rows i64E (fun n _ => In64 n) Tryd.underlying45 (by kernel_rfl) (fun n cs x h => by obtain ⟨q, rfl, _, w0⟩ := DataW.trod_int Tryd.underlying3 h; exact ⟨q, rfl, i64_bounds w0⟩) hval hd hk
  exact ⟨l, h1, h2, fun j hj => by obtain ⟨_, q, _⟩ := h3 j hj; exact q⟩
end
end Go.Proofs.YtclcbiiijoeplaaDoor.Rii
