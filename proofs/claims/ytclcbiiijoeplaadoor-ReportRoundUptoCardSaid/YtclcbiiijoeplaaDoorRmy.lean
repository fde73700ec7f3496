/- drowseref21.May, drowseref21.Line. -/
import Derived.Test.YtclcbiiijoeplaaDoorRpl
import Derived.Test.YtclcbiiijoeplaaDoorRdg
import Derived.Test.YtclcbiiijoeplaaDoorRwd
import Derived.WalkKit
import Derived.Lib.Hide
import Derived.Outline
import Derived.Below
import Derived.Deep.QuietTactic
import Derived.BigQuiet
set_option linter.unusedVariables false
namespace Go.Proofs.YtclcbiiijoeplaaDoor.Rmy
open Go.RowKit Rpl Rwd

set_option maxHeartbeats 4000000 in
set_option maxRecDepth 100000 in
theorem may_at (b : Bk) (w : World) (hs : b.fn.size ≤ 9223372036854775807) : Calls Tryd.prog 23 #[b.val] w fun e w' => e = .returned (.bool (may b)) ∧ w' = w.alloc (.cells b.row 33) := by
  obtain ⟨ser, lin, fn, on⟩ := b
  change fn.size ≤ _ at hs
  have hlen : fn.data.toList.length = fn.size := by rw [Array.length_toList]; rfl
  go_enter Tryd.func23, Tryd.ntmps23
  go_wp2
  go_loopw [3] (fun iv wr => ∃ i : Nat, iv = .int .i64 i ∧ i ≤ fn.size ∧ Hid (flat (fn.data.toList.take i) = true) ∧ wr = w.alloc (.cells #[.int .i64 ser, .int .i64 lin, .string fn, .int .i64 on] 33)) (fun iv _ => (fn.size - (intOf iv).toNat))
  case atStart => exact ⟨0, rfl, Nat.zero_le _, rfl, rfl⟩
  case round =>
    obtain ⟨i, rfl, hi, HF, rfl⟩ := hrel
    have HB : Below w.heap.size w (w.alloc (.cells #[.int .i64 ser, .int .i64 lin, .string fn, .int .i64 on] 33)) := (Below.refl _ w).alloc (Nat.le_refl _) _
    by_cases hlt : i < fn.size
    · have hl : i < fn.data.toList.length := by rw [hlen]; exact hlt
      have hget : fn[i] = fn.data.toList[i] := rfl
      by_cases h10 : fn[i] = 10
      · have HN : Hid (may ⟨ser, lin, fn, on⟩ = false) := by
          have := flat_not hl (hget ▸ h10)
          unfold may; rw [this]; rfl
        clear hget
        have HB := Lib.hid HB
        go_wp2
        go_ret
        exact ⟨by rw [HN.out]; rfl, rfl⟩
      · have HN : Hid (flat (fn.data.toList.take (i + 1)) = true) := flat_take hl HF.out (hget ▸ h10)
        have hb : (((fn[i]).toNat : Int) == 10) = false := by
          rw [beq_eq_false_iff_ne]
          intro h
          exact h10 (UInt8.toNat_inj.1 (show (fn[i]).toNat = 10 by omega))
        clear hget h10
        have HB := Lib.hid HB
        go_wp2
        refine ⟨⟨i + 1, by go_num, by omega, HN, trivial⟩, ?_⟩
        simp [intOf]; omega
    · have hie : i = fn.size := by omega
      have HX : Hid (may ⟨ser, lin, fn, on⟩ = inb ⟨ser, lin, fn, on⟩) := by
        have := HF.out
        rw [hie, ← hlen, List.take_length] at this
        unfold may; rw [this]; rfl
      clear hie
      have HB := Lib.hid HB
      by_cases hin : inb ⟨ser, lin, fn, on⟩ = true
      · have HI := Lib.hid hin
        obtain ⟨h1, h2, h3, h4, h5, h6⟩ := (inb_iff _).1 hin
        clear hin
        dsimp only at h1 h2 h3 h4 h5 h6
        go_wp2
        go_ret
        exact ⟨by rw [HX.out, HI.out]; rfl, rfl⟩
      · have HI : Hid (inb ⟨ser, lin, fn, on⟩ = false) := by
          cases h : inb ⟨ser, lin, fn, on⟩ with
          | false => exact rfl
          | true => exact absurd h hin
        have hc := mt (inb_iff ⟨ser, lin, fn, on⟩).2 hin
        clear hin
        dsimp only at hc
        by_cases h1 : 1 ≤ ser
        · by_cases h2 : ser ≤ 2147483647
          · by_cases h3 : 0 ≤ lin
            · by_cases h4 : lin ≤ 2147483647
              · by_cases h5 : 1 ≤ on
                · have h6 : ¬ on ≤ 8 := fun h => hc ⟨h1, h2, h3, h4, h5, h⟩
                  clear hc
                  go_wp2
                  go_ret
                  exact ⟨by rw [HX.out, HI.out]; rfl, rfl⟩
                · clear hc
                  go_wp2
                  go_ret
                  exact ⟨by rw [HX.out, HI.out]; rfl, rfl⟩
              · clear hc
                go_wp2
                go_ret
                exact ⟨by rw [HX.out, HI.out]; rfl, rfl⟩
            · clear hc
              go_wp2
              go_ret
              exact ⟨by rw [HX.out, HI.out]; rfl, rfl⟩
          · clear hc
            go_wp2
            go_ret
            exact ⟨by rw [HX.out, HI.out]; rfl, rfl⟩
        · clear hc
          go_wp2
          go_ret
          exact ⟨by rw [HX.out, HI.out]; rfl, rfl⟩
theorem may_any (b : Bk) (w : World) (hs : b.fn.size ≤ 9223372036854775807) : Calls Tryd.prog 23 #[b.val] w fun e w' => e = .returned (.bool (may b)) ∧ Below w.heap.size w w' :=
  (may_at b w hs).mono fun _ _ h => ⟨h.1, h.2 ▸ (Below.refl _ w).alloc (Nat.le_refl _) _⟩
theorem itoa_size (n : Int) (h1 : 0 ≤ n) (h2 : n ≤ 2147483647) : (Lib.itoa n).length ≤ 21 := Lib.itoa_length_le n (by omega) (by omega)
theorem dec_size (n : Nat) (h2 : n ≤ 2147483647) : (Lib.decDigits n).length ≤ 21 := by
  have h5 := Lib.itoa_length_le (n : Int) (by omega) (by omega)
  have h6 : Lib.itoa (n : Int) = Lib.decDigits n := by unfold Lib.itoa; rw [if_neg (by omega)]; rfl
  rw [h6] at h5; exact h5
theorem wd_size (on : Int) : (wd on).size ≤ 11 := by
  unfold wd
  iterate 8 (split; (first | decide | skip))
  all_goals decide
/-- A number's digits as text. -/
def dec (n : Int) : ByteArray := ⟨(Lib.decDigits n.toNat).toArray⟩
theorem dec_le {n : Int} (h1 : 0 ≤ n) (h2 : n ≤ 2147483647) : (dec n).size ≤ 21 := dec_size n.toNat (by omega)
def lineL (b : Bk) : ByteArray := (⟨#[103, 111, 114, 111, 117, 116, 105, 110, 101, 32]⟩ : ByteArray) ++ dec b.ser ++ ⟨#[32, 108, 105, 110, 101, 32]⟩ ++ dec b.lin ++ ⟨#[32]⟩ ++ wd b.on ++ ⟨#[32]⟩ ++ b.fn
end Go.Proofs.YtclcbiiijoeplaaDoor.Rmy
