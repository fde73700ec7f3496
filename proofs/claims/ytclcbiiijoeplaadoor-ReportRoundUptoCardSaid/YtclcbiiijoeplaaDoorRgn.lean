/- report.Rings of any list. -/
import Derived.Test.YtclcbiiijoeplaaDoorRgw
set_option linter.unusedVariables false
namespace Go.Proofs.YtclcbiiijoeplaaDoor.Rgn
open Go.RowKit Go.Sort Rwo Rcy Rsl Rowz Rmp Rrg Rgp Rgs Rgm

set_option maxHeartbeats 2000000 in
set_option maxRecDepth 100000 in
theorem rings_none (x : Option Addr) (c : Nat) (w : World) : Calls Tryd.prog 17 #[.slice x 0 c] w (Post [] w) := by
  have hmk : ∀ w : World, (Instr.makeSlice 45 (.int .i64 0) (.int .i64 0)).run Tryd.prog w = .ok (.slice (some ⟨w.heap.size, 0, none⟩) 0 0) (w.alloc (.cells (madeCells #[.int .i64 0] 0) 3)) := fun w => by simpa using run_mk 0 (by omega) w
  have hmm := @run_makeMap Tryd.prog
  go_enter Tryd.func17, Tryd.ntmps17
  go_wp2
  go_step3
  go_wp2
  go_loopw [25] (fun iv wr => iv = .int .i64 ((0 : Nat) : Int) ∧ Below w.heap.size w wr) (fun iv _ => 0)
  case atStart => exact ⟨rfl, (Below.refl _ _).alloc (Nat.le_refl _) _⟩
  case round =>
    obtain ⟨rfl, hb⟩ := hrel
    obtain ⟨Wa, rfl⟩ : ∃ W : World, W = wr := ⟨_, rfl⟩
    go_wp2
    go_loopw [49] (fun iv wq => iv = .int .i64 ((0 : Nat) : Int) ∧ Below w.heap.size w wq) (fun iv _ => 0)
    case atStart => exact ⟨rfl, hb.alloc hb.size _⟩
    case round =>
      obtain ⟨rfl, hb2⟩ := hrel
      obtain ⟨Wb, rfl⟩ : ∃ W : World, W = wr := ⟨_, rfl⟩
      go_wp2
      go_step3
      go_wp2
      go_loopw [93] (fun iv wq => iv = .int .i64 ((0 : Nat) : Int) ∧ Below w.heap.size w wq) (fun iv _ => 0)
      case atStart =>
        have h1 := hb2.alloc hb2.size (.map #[] 0)
        exact ⟨rfl, h1.alloc h1.size _⟩
      case round =>
        obtain ⟨rfl, hb3⟩ := hrel
        obtain ⟨Wc, rfl⟩ : ∃ W : World, W = wr := ⟨_, rfl⟩
        go_wp2
        go_loopw [20, 175] (fun v iv wq => v = .slice none 0 0 ∧ iv = .int .i64 ((0 : Nat) : Int) ∧ Below w.heap.size w wq) (fun v iv _ => 0)
        case atStart => exact ⟨rfl, rfl, hb3⟩
        case round =>
          obtain ⟨rfl, rfl, hb4⟩ := hrel
          go_wp2
          try rw [Exit.noGoto_ret]
          go_ret
          exact ⟨_, [], rfl, RowsI.nil _ _, hb4⟩
theorem rings_any (v : Value) (l : List As) (w : World) (hl : l.length ≤ 1048576) (hv : Lies w v l) : Calls Tryd.prog 17 #[v] w (Post l w) := by
  rcases hv with ⟨rfl, x, c, rfl⟩ | ⟨b, o, c, rfl, h1, h2⟩
  · exact rings_none x c w
  · by_cases h0 : 0 < l.length
    · exact Rgw.rings_some b o c l w hl h0 h2 h1
    · have : l = [] := List.length_eq_zero_iff.1 (by omega)
      subst this
      exact rings_none _ c w
end Go.Proofs.YtclcbiiijoeplaaDoor.Rgn
