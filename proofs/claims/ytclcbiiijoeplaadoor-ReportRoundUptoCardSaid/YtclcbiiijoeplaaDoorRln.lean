/- drowseref21.Line. -/
import Derived.Test.YtclcbiiijoeplaaDoorRmy
import Derived.WalkKit
import Derived.Lib.Hide
import Derived.Outline
import Derived.Below
import Derived.Deep.QuietTactic
import Derived.BigQuiet
set_option linter.unusedVariables false
namespace Go.Proofs.YtclcbiiijoeplaaDoor.Rln
open Go.RowKit Rpl Rwd Rmy

theorem below_drewN_up {B : Nat} {a w : World} (h : Below B a w) (n : Nat) : Below B a (w.drewN n) := ⟨h.os, h.tape, h.output, h.size, h.block⟩
theorem add_run (A B : ByteArray) (w : World) (h : A.size + B.size ≤ 9223372036854775807) : (binOp .add 9 (.string A) (.string B)).run Tryd.prog w = .ok (.string (A ++ B)) w := by
  simp [binOp, go_sem, h]
theorem rdec (n : Int) (h1 : 0 ≤ n) (h2 : n ≤ 2147483647) (w : World) : Calls Tryd.prog 33 #[.int .i64 n] w fun e w' => e = .returned (.string (dec n)) ∧ w = w' := by
  obtain ⟨m, rfl⟩ := Int.eq_ofNat_of_zero_le h1
  exact Rdg.digits_any m (by omega) w
set_option maxHeartbeats 4000000 in
set_option maxRecDepth 100000 in
theorem line_at (b : Bk) (w : World) (hs : b.fn.size ≤ 9223372036854775000) (hm : may b = true) : Calls Tryd.prog 24 #[b.val] w fun e w' => e = .returned (.string (lineL b)) ∧ ∃ n, w' = (w.alloc (.cells b.row 33)).drewN n := by
  obtain ⟨ser, lin, fn, on⟩ := b
  change fn.size ≤ _ at hs
  obtain ⟨h1, h2, h3, h4, h5, h6⟩ := (inb_iff _).1 ((Bool.and_eq_true_iff.1 hm).2)
  dsimp only at h1 h2 h3 h4 h5 h6
  have s1 := dec_le (n := ser) (by omega) h2
  have s2 := dec_le (n := lin) h3 h4
  have s3 := wd_size on
  obtain ⟨D1, e1⟩ : ∃ D, D = dec ser := ⟨_, rfl⟩
  obtain ⟨D2, e2⟩ : ∃ D, D = dec lin := ⟨_, rfl⟩
  obtain ⟨D3, e3⟩ : ∃ D, D = wd on := ⟨_, rfl⟩
  rw [← e1] at s1
  rw [← e2] at s2
  rw [← e3] at s3
  have C1 : Hid (∀ w, Calls Tryd.prog 33 #[.int .i64 ser] w fun e w' => e = .returned (.string D1) ∧ w' = w) := fun w => (rdec ser (by omega) h2 w).mono fun _ _ h => ⟨e1 ▸ h.1, h.2.symm⟩
  have C2 : Hid (∀ w, Calls Tryd.prog 33 #[.int .i64 lin] w fun e w' => e = .returned (.string D2) ∧ w' = w) := fun w => (rdec lin h3 h4 w).mono fun _ _ h => ⟨e2 ▸ h.1, h.2.symm⟩
  have C3 : Hid (∀ w, Calls Tryd.prog 12 #[.int .i64 on] w fun e w' => e = .returned (.string D3) ∧ w' = w) := fun w => (rword_any on w).mono fun _ _ h => ⟨e3 ▸ h.1, h.2.symm⟩
  obtain ⟨A1, a1⟩ : ∃ A, A = (⟨#[103, 111, 114, 111, 117, 116, 105, 110, 101, 32]⟩ : ByteArray) ++ D1 := ⟨_, rfl⟩
  obtain ⟨A2, a2⟩ : ∃ A, A = A1 ++ (⟨#[32, 108, 105, 110, 101, 32]⟩ : ByteArray) := ⟨_, rfl⟩
  obtain ⟨A3, a3⟩ : ∃ A, A = A2 ++ D2 := ⟨_, rfl⟩
  obtain ⟨A4, a4⟩ : ∃ A, A = A3 ++ (⟨#[32]⟩ : ByteArray) := ⟨_, rfl⟩
  obtain ⟨A5, a5⟩ : ∃ A, A = A4 ++ D3 := ⟨_, rfl⟩
  obtain ⟨A6, a6⟩ : ∃ A, A = A5 ++ (⟨#[32]⟩ : ByteArray) := ⟨_, rfl⟩
  obtain ⟨A7, a7⟩ : ∃ A, A = A6 ++ fn := ⟨_, rfl⟩
  have z1 : A1.size = 10 + D1.size := by rw [a1, ByteArray.size_append]; try rfl
  have z2 : A2.size = A1.size + 6 := by rw [a2, ByteArray.size_append]; try rfl
  have z3 : A3.size = A2.size + D2.size := by rw [a3, ByteArray.size_append]; try rfl
  have z4 : A4.size = A3.size + 1 := by rw [a4, ByteArray.size_append]; try rfl
  have z5 : A5.size = A4.size + D3.size := by rw [a5, ByteArray.size_append]; try rfl
  have z6 : A6.size = A5.size + 1 := by rw [a6, ByteArray.size_append]; try rfl
  have z7 : A7.size = A6.size + fn.size := by rw [a7, ByteArray.size_append]; try rfl
  have b1 : A1.size ≤ 31 := by omega
  have b2 : A2.size ≤ 37 := by omega
  have b3 : A3.size ≤ 58 := by omega
  have b4 : A4.size ≤ 59 := by omega
  have b5 : A5.size ≤ 70 := by omega
  have b6 : A6.size ≤ 71 := by omega
  have HL : Hid (lineL ⟨ser, lin, fn, on⟩ = A7) := by
    show _ = _
    rw [a7, a6, a5, a4, a3, a2, a1, e1, e2, e3]; rfl
  have HB : Hid (Below w.heap.size w (w.alloc (.cells #[.int .i64 ser, .int .i64 lin, .string fn, .int .i64 on] 33))) := (Below.refl _ w).alloc (Nat.le_refl _) _
  have g1 := Lib.hid a1
  have g2 := Lib.hid a2
  have g3 := Lib.hid a3
  have g4 := Lib.hid a4
  have g5 := Lib.hid a5
  have g6 := Lib.hid a6
  have g7 := Lib.hid a7
  clear e1 e2 e3 hm h1 h2 h3 h4 h5 h6 a1 a2 a3 a4 a5 a6 a7 z1 z2 z3 z4 z5 z6 z7
  go_enter Tryd.func24, Tryd.ntmps24
  go_wp2
  refine wp_region_quiet_lit (by kernel_rfl) (by kernel_rfl) ?_
  go_big_quiet_step (fail)
  go_big_quiet_step (fail)
  go_big_quiet_step ((go_at_call 33; exact Calls.quiet_of_same (C1.out _)))
  go_big_quiet_step (fail)
  rw [← g1.out]
  go_big_quiet_step (fail)
  rw [← g2.out]
  go_big_quiet_step (fail)
  go_big_quiet_step (fail)
  go_big_quiet_step ((go_at_call 33; exact Calls.quiet_of_same (C2.out _)))
  go_big_quiet_step (fail)
  rw [← g3.out]
  go_big_quiet_step (fail)
  rw [← g4.out]
  go_big_quiet_step (fail)
  go_big_quiet_step (fail)
  go_big_quiet_step ((go_at_call 12; exact Calls.quiet_of_same (C3.out _)))
  go_big_quiet_step (fail)
  rw [← g5.out]
  go_big_quiet_step (fail)
  rw [← g6.out]
  go_big_quiet_step (fail)
  go_big_quiet_step (fail)
  go_big_quiet_step (fail)
  rw [← g7.out]
  go_big_quiet_step (fail)
  refine wpQuiet_nil ?_
  intro _ hw'
  obtain ⟨nq, hw''⟩ := hw'
  subst hw''
  go_wp2
  go_ret
  exact ⟨by rw [HL.out]; rfl, ⟨_, rfl⟩⟩
theorem line_any (b : Bk) (w : World) (hs : b.fn.size ≤ 9223372036854775000) (hm : may b = true) : Calls Tryd.prog 24 #[b.val] w fun e w' => e = .returned (.string (lineL b)) ∧ Below w.heap.size w w' :=
  (line_at b w hs hm).mono fun _ _ h => ⟨h.1, by obtain ⟨n, e⟩ := h.2; rw [e]; exact below_drewN_up ((Below.refl _ w).alloc (Nat.le_refl _) _) n⟩
end Go.Proofs.YtclcbiiijoeplaaDoor.Rln
