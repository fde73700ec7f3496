/- drowseref21.digits. -/
import Derived.Test.YtclcbiiijoeplaaDoorChecked
import Derived.WalkKit
import Derived.Lib.Hide
import Derived.Outline
import Derived.Below
import Derived.Lib.ItoaNum
import Derived.Lib.ItoaLen
import Derived.IntWalk
set_option linter.unusedVariables false
namespace Go.Proofs.YtclcbiiijoeplaaDoor.Rdg
open Go.RowKit

theorem dec_step {n : Nat} (h : ¬ n < 10) : Lib.decDigits n = Lib.decDigits (n / 10) ++ [UInt8.ofNat (48 + n % 10)] := by rw [Lib.decDigits, dif_neg h]
theorem ba_of {D : ByteArray} {l : List UInt8} (h : D.data.toList = l) : D = ⟨l.toArray⟩ := by
  subst h
  cases D; simp
abbrev ten : ByteArray := ⟨#[48, 49, 50, 51, 52, 53, 54, 55, 56, 57]⟩
theorem one_digit (d : Nat) (h : d < 10) : (ten.extract d (d + 1)).data.toList = [UInt8.ofNat (48 + d)] := by
  have : d = 0 ∨ d = 1 ∨ d = 2 ∨ d = 3 ∨ d = 4 ∨ d = 5 ∨ d = 6 ∨ d = 7 ∨ d = 8 ∨ d = 9 := by omega
  rcases this with rfl | rfl | rfl | rfl | rfl | rfl | rfl | rfl | rfl | rfl <;> rfl
theorem app_toList (a b : ByteArray) : (a ++ b).data.toList = a.data.toList ++ b.data.toList := by
  rw [ByteArray.data_append, Array.toList_append]
/-- The last digit. -/
def dgt (m : Nat) : ByteArray := ⟨#[UInt8.ofNat (48 + m % 10)]⟩
theorem dgt_list (m : Nat) : (dgt m).data.toList = [UInt8.ofNat (48 + m % 10)] := rfl
theorem slk (d : Nat) (h : d < 10) (w : World) : (Instr.slice 9 (.string ten) (some (.int .i64 (d : Int))) (some (.int .i64 ((d : Int) + 1))) none).run Tryd.prog w = .ok (.string ⟨#[UInt8.ofNat (48 + d)]⟩) w := by
  match d, h with
  | 0, _ => show _ = _; kernel_rfl
  | 1, _ => show _ = _; kernel_rfl
  | 2, _ => show _ = _; kernel_rfl
  | 3, _ => show _ = _; kernel_rfl
  | 4, _ => show _ = _; kernel_rfl
  | 5, _ => show _ = _; kernel_rfl
  | 6, _ => show _ = _; kernel_rfl
  | 7, _ => show _ = _; kernel_rfl
  | 8, _ => show _ = _; kernel_rfl
  | 9, _ => show _ = _; kernel_rfl
theorem slc (m : Nat) (w : World) : (Instr.slice 9 (.string ten) (some (.int .i64 ((m : Int) % 10))) (some (.int .i64 ((m : Int) % 10 + 1))) none).run Tryd.prog w = .ok (.string (dgt m)) w := by
  have h0 : (m : Int) % 10 = ((m % 10 : Nat) : Int) := by omega
  rw [h0]
  exact slk (m % 10) (Nat.mod_lt _ (by omega)) w
set_option maxHeartbeats 2000000 in
set_option maxRecDepth 100000 in
theorem digits_any (n : Nat) (hn : n ≤ 2147483647) (w : World) : Calls Tryd.prog 33 #[.int .i64 n] w fun e w' => e = .returned (.string ⟨(Lib.decDigits n).toArray⟩) ∧ w = w' := by
  have sl := slc
  go_enter Tryd.func33, Tryd.ntmps33
  go_wp2
  go_loopw [0, 3] (fun nv sv wr => ∃ (m : Nat) (S : ByteArray), m ≤ n ∧ nv = .int .i64 m ∧ sv = .string S ∧ Hid (∃ rest, S.data.toList = UInt8.ofNat (48 + m % 10) :: rest ∧ Lib.decDigits n = Lib.decDigits m ++ rest) ∧ w = wr) (fun nv _ _ => (intOf nv).toNat)
  case atStart => exact ⟨n, _, Nat.le_refl _, rfl, rfl, ⟨[], dgt_list n, by simp⟩, rfl⟩
  case round =>
    obtain ⟨m, S, hm, rfl, rfl, HS, rfl⟩ := hrel
    by_cases h10 : 10 ≤ m
    · obtain ⟨q, hq⟩ : ∃ q, m / 10 = q := ⟨_, rfl⟩
      have h1 : ((m : Int) / 10) = (q : Int) := by omega
      have hq9 : q < m := by omega
      have HN : Hid (∃ rest, (dgt q ++ S).data.toList = UInt8.ofNat (48 + q % 10) :: rest ∧ Lib.decDigits n = Lib.decDigits q ++ rest) := by
        obtain ⟨rest, e1, e2⟩ := HS.out
        refine ⟨S.data.toList, by rw [app_toList]; rfl, ?_⟩
        rw [e2, dec_step (by omega), e1, List.append_assoc, hq]; rfl
      have hS : S.size ≤ 21 := by
        obtain ⟨rest, e1, e2⟩ := HS.out
        have h5 := Lib.itoa_length_le (n : Int) (by omega) (by omega)
        have h6 : Lib.itoa (n : Int) = Lib.decDigits n := by unfold Lib.itoa; rw [if_neg (by omega)]; rfl
        rw [h6, e2, List.length_append] at h5
        have h7 : 0 < (Lib.decDigits m).length := List.length_pos_iff.2 (by rw [dec_step (by omega)]; simp)
        have h8 : S.size = S.data.toList.length := by rw [Array.length_toList]; rfl
        rw [h8, e1, List.length_cons]; omega
      have hsum : (dgt q).size + S.size ≤ 9223372036854775807 := by
        have : (dgt q).size = 1 := rfl
        omega
      clear hq
      go_wp2
      go_roundw
      case rel => exact ⟨q, _, by omega, rfl, rfl, HN.out, trivial⟩
      case measure => simp [intOf]; omega
    · have HE : Hid (S = ⟨(Lib.decDigits n).toArray⟩) := by
        obtain ⟨rest, e1, e2⟩ := HS.out
        refine ba_of ?_
        rw [e2, Lib.decDigits_one (by omega : m < 10), e1, Nat.mod_eq_of_lt (by omega : m < 10)]; rfl
      go_wp2
      go_ret
      exact ⟨by rw [← HE.out]; rfl, rfl⟩
end Go.Proofs.YtclcbiiijoeplaaDoor.Rdg
