/- api.Node's type in this seat. -/
import Derived.Test.YtgodeffkboihlaaGreatDoorCards
import Derived.Test.YtgodeffkboihlaaGreatDoorTrb
set_option linter.unusedVariables false
namespace Go.Proofs.YtgodeffkboihlaaGreatDoor.Tre
open Trb

abbrev ndT : TypeId := 25
abbrev kidsT : TypeId := 23
noncomputable def fldT : Nat → TypeId := fun i => ((Tryz.prog.fieldsOf ndT)[i]?.map (·.type)).getD 0
set_option maxRecDepth 100000 in
theorem nodeTy : NodeTy Tryz.prog ndT kidsT fldT where
  st := by kernel_rfl
  sl := by kernel_rfl
  cells := by kernel_rfl
  size := by kernel_rfl
  fs i hi := by
    match i, hi with
    | 0, _ => exact ⟨by kernel_rfl, by kernel_rfl⟩
    | 1, _ => exact ⟨by kernel_rfl, by kernel_rfl⟩
    | 2, _ => exact ⟨by kernel_rfl, by kernel_rfl⟩
    | 3, _ => exact ⟨by kernel_rfl, by kernel_rfl⟩
    | 4, _ => exact ⟨by kernel_rfl, by kernel_rfl⟩
    | 5, _ => exact ⟨by kernel_rfl, by kernel_rfl⟩
    | 6, _ => exact ⟨by kernel_rfl, by kernel_rfl⟩
    | 7, _ => exact ⟨by kernel_rfl, by kernel_rfl⟩
  u0 := by kernel_rfl
  u1 := by kernel_rfl
  u2 := by kernel_rfl
  u3 := by kernel_rfl
  u4 := by kernel_rfl
  u5 := by kernel_rfl
  u6 := by kernel_rfl
  u7 := by kernel_rfl
end Go.Proofs.YtgodeffkboihlaaGreatDoor.Tre
