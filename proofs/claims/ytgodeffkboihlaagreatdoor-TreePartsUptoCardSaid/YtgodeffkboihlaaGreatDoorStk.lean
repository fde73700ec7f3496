/- A call of a function by its name as one step of a region that draws its order. No function of the program. -/
import Derived.Shelf.Abstract
import Derived.Deep.RegionLaw
set_option linter.unusedVariables false
namespace Go.Proofs.YtgodeffkboihlaaGreatDoor.Stk

theorem step_call {P : Program} {ops : Array Oper} {o : Oper} {a : Act} {w : World} {K : Act → World → Prop} {Q : Exit → Act → World → Prop} {X : Prop} (hgd : o.guard = none) (f : FuncId) (he : Go.Proofs.Enters P f)
    (xs : Array Operand) (ts : Array TypeId) (ho : o.op = .call { callee := .value (.func f), args := xs, argTypes := ts }) (vs : List Value) (hv : xs.toList.map a.eval = vs)
    (h : Calls P f (Array.mk vs) w fun e w' => ∃ v, e = .returned v ∧ K (a.put o.dst v) w') :
    if Region.wanted o (yielded ops a.tmps) = true then Oper.wp P o a w K Q else X := by
  have hw : Region.wanted o (yielded ops a.tmps) = true := by simp [Region.wanted, hgd]
  rw [if_pos hw]
  have hrun : (execOp a.eval o).run P w = .ok (.enter f (Array.mk vs)) w := by
    have h1 := he (Array.mk vs) w
    have e : xs.map a.eval = Array.mk vs := by apply Array.ext'; rw [Array.toList_map]; exact hv
    simp [execOp, ho, resolve, invoke, Deferred.ofValue, Act.eval, e, h1]
  unfold Oper.wp
  rw [hrun, Oper.upon_enter]
  refine h.mono ?_
  rintro e w' ⟨v, rfl, hk⟩
  exact hk
end Go.Proofs.YtgodeffkboihlaaGreatDoor.Stk
