/- report.Word, drowseref21.Word. -/
import Derived.Test.YtclcbiiijoeplaaDoorChecked
import Derived.WalkKit
import Derived.Lib.Hide
import Derived.Outline
import Derived.Below
import Derived.Laws.Rows
set_option linter.unusedVariables false
namespace Go.Proofs.YtclcbiiijoeplaaDoor.Rwd
open Go.RowKit

/-- A wait's word. -/
def wd (on : Int) : ByteArray :=
  if on = 1 then ⟨#[115, 101, 110, 100]⟩ else if on = 2 then ⟨#[114, 101, 99, 101, 105, 118, 101]⟩ else if on = 3 then ⟨#[110, 105, 108, 45, 115, 101, 110, 100]⟩ else if on = 4 then ⟨#[110, 105, 108, 45, 114, 101, 99, 101, 105, 118, 101]⟩
  else if on = 5 then ⟨#[115, 101, 108, 101, 99, 116]⟩ else if on = 6 then ⟨#[110, 111, 45, 99, 97, 115, 101, 115]⟩ else if on = 7 then ⟨#[108, 111, 99, 107]⟩ else if on = 8 then ⟨#[103, 114, 111, 117, 112]⟩ else ⟨#[]⟩
theorem wd_out {on : Int} (h : on < 1 ∨ 8 < on) : wd on = ⟨#[]⟩ := by
  unfold wd
  iterate 8 rw [if_neg (by omega)]
abbrev tab : Array Value := #[.string ⟨#[]⟩, .string ⟨#[115, 101, 110, 100]⟩, .string ⟨#[114, 101, 99, 101, 105, 118, 101]⟩, .string ⟨#[110, 105, 108, 45, 115, 101, 110, 100]⟩, .string ⟨#[110, 105, 108, 45, 114, 101, 99, 101, 105, 118, 101]⟩, .string ⟨#[115, 101, 108, 101, 99, 116]⟩, .string ⟨#[110, 111, 45, 99, 97, 115, 101, 115]⟩, .string ⟨#[108, 111, 99, 107]⟩, .string ⟨#[103, 114, 111, 117, 112]⟩]
set_option maxHeartbeats 2000000 in
set_option maxRecDepth 100000 in
theorem rword_any (on : Int) (w : World) : Calls Tryd.prog 12 #[.int .i64 on] w fun e w' => e = .returned (.string (wd on)) ∧ w = w' := by
  have hc : on = 1 ∨ on = 2 ∨ on = 3 ∨ on = 4 ∨ on = 5 ∨ on = 6 ∨ on = 7 ∨ on = 8 ∨ (on < 1 ∨ 8 < on) := by omega
  rcases hc with rfl | rfl | rfl | rfl | rfl | rfl | rfl | rfl | h
  iterate 8
    · go_enter Tryd.func12, Tryd.ntmps12
      go_wp2
      go_ret
      exact ⟨rfl, rfl⟩
  · have e1 : (on == 1) = false := by rw [beq_eq_false_iff_ne]; omega
    have e2 : (on == 2) = false := by rw [beq_eq_false_iff_ne]; omega
    have e3 : (on == 3) = false := by rw [beq_eq_false_iff_ne]; omega
    have e4 : (on == 4) = false := by rw [beq_eq_false_iff_ne]; omega
    have e5 : (on == 5) = false := by rw [beq_eq_false_iff_ne]; omega
    have e6 : (on == 6) = false := by rw [beq_eq_false_iff_ne]; omega
    have e7 : (on == 7) = false := by rw [beq_eq_false_iff_ne]; omega
    have e8 : (on == 8) = false := by rw [beq_eq_false_iff_ne]; omega
    have HW := Lib.hid (wd_out h)
    clear h
    go_enter Tryd.func12, Tryd.ntmps12
    go_wp2
    go_ret
    exact ⟨by rw [HW.out]; rfl, rfl⟩
set_option maxHeartbeats 2000000 in
set_option maxRecDepth 100000 in
theorem words_any (w : World) : Calls Tryd.prog 25 #[] w fun e w' => e = .returned (.agg tab) ∧ Below w.heap.size w w' := by
  go_enter Tryd.func25, Tryd.ntmps25
  go_wp2
  refine bodyPost_ret (results_cell_row rfl _ _ w.heap.size _ tab _ _ rfl (heap_alloc_new w _) Tryd.underlying67 rfl (by kernel_rfl)) rfl ?_
  exact ⟨rfl, (Below.refl _ w).alloc (Nat.le_refl _) _⟩
set_option maxHeartbeats 4000000 in
set_option maxRecDepth 100000 in
theorem word_any (on : Int) (w : World) : Calls Tryd.prog 11 #[.int .i64 on] w fun e w' => e = .returned (.string (wd on)) ∧ Below w.heap.size w w' := by
  have CW := Lib.hid (words_any w)
  by_cases h : on < 0 ∨ 8 < on
  · have HW := Lib.hid (wd_out (on := on) (by omega))
    rcases h with h | h
    · go_enter Tryd.func11, Tryd.ntmps11
      go_wp2
      go_ret
      exact ⟨by rw [HW.out]; rfl, Below.refl _ _⟩
    · have h1 : decide (on < 0) = false := decide_eq_false (by omega)
      go_enter Tryd.func11, Tryd.ntmps11
      go_wp2
      go_ret
      exact ⟨by rw [HW.out]; rfl, Below.refl _ _⟩
  · have hc : on = 0 ∨ on = 1 ∨ on = 2 ∨ on = 3 ∨ on = 4 ∨ on = 5 ∨ on = 6 ∨ on = 7 ∨ on = 8 := by omega
    clear h
    have i0 : ∀ w, (Instr.index 67 (.agg tab) (.int .i64 0)).run Tryd.prog w = .ok (.string (wd 0)) w := fun _ => by kernel_rfl
    have i1 : ∀ w, (Instr.index 67 (.agg tab) (.int .i64 1)).run Tryd.prog w = .ok (.string (wd 1)) w := fun _ => by kernel_rfl
    have i2 : ∀ w, (Instr.index 67 (.agg tab) (.int .i64 2)).run Tryd.prog w = .ok (.string (wd 2)) w := fun _ => by kernel_rfl
    have i3 : ∀ w, (Instr.index 67 (.agg tab) (.int .i64 3)).run Tryd.prog w = .ok (.string (wd 3)) w := fun _ => by kernel_rfl
    have i4 : ∀ w, (Instr.index 67 (.agg tab) (.int .i64 4)).run Tryd.prog w = .ok (.string (wd 4)) w := fun _ => by kernel_rfl
    have i5 : ∀ w, (Instr.index 67 (.agg tab) (.int .i64 5)).run Tryd.prog w = .ok (.string (wd 5)) w := fun _ => by kernel_rfl
    have i6 : ∀ w, (Instr.index 67 (.agg tab) (.int .i64 6)).run Tryd.prog w = .ok (.string (wd 6)) w := fun _ => by kernel_rfl
    have i7 : ∀ w, (Instr.index 67 (.agg tab) (.int .i64 7)).run Tryd.prog w = .ok (.string (wd 7)) w := fun _ => by kernel_rfl
    have i8 : ∀ w, (Instr.index 67 (.agg tab) (.int .i64 8)).run Tryd.prog w = .ok (.string (wd 8)) w := fun _ => by kernel_rfl
    rcases hc with rfl | rfl | rfl | rfl | rfl | rfl | rfl | rfl | rfl
    all_goals
      go_enter Tryd.func11, Tryd.ntmps11
      go_wp2_with fail
      refine CW.out.mono ?_
      rintro e w1 ⟨rfl, hb⟩
      have HB := Lib.hid hb
      clear hb
      go_wp2
      go_ret
      exact ⟨rfl, HB.out⟩
end Go.Proofs.YtclcbiiijoeplaaDoor.Rwd
