/- drowselaw10.pick. -/
import Derived.Test.YtijlnlcjlkanaaaSta
set_option linter.unusedVariables false
namespace Go.Proofs.Ytijlnlcjlkanaaa.Stp
open Go.RowKit

/-- Which of n things a raw number speaks of. -/
def pk (c : Int) (n : Nat) : Nat := ((if c < 0 then -(c + 1) else c) % (n : Int)).toNat
theorem pk_lt (c : Int) (n : Nat) (hn : 0 < n) : pk c n < n := by
  unfold pk
  have h1 := Int.emod_nonneg (if c < 0 then -(c + 1) else c) (b := (n : Int)) (by omega)
  have h2 := Int.emod_lt_of_pos (if c < 0 then -(c + 1) else c) (b := (n : Int)) (by omega)
  omega
theorem pk_pos {c : Int} {n : Nat} (hn : 0 < n) (hc : 0 ≤ c) : (c % (n : Int)) = (pk c n : Int) := by
  unfold pk
  rw [if_neg (by omega)]
  have h1 := Int.emod_nonneg c (b := (n : Int)) (by omega)
  omega
theorem pk_neg {c : Int} {n : Nat} (hn : 0 < n) (hc : c < 0) : ((-(c + 1)) % (n : Int)) = (pk c n : Int) := by
  unfold pk
  rw [if_pos hc]
  have h1 := Int.emod_nonneg (-(c + 1)) (b := (n : Int)) (by omega)
  omega
set_option maxHeartbeats 1000000 in
set_option maxRecDepth 100000 in
theorem pick_any (c : Int) (n : Nat) (w : World) (h0 : -9223372036854775808 ≤ c) (h1 : c ≤ 9223372036854775807) (hn : 0 < n) (hn2 : n ≤ 1000000) :
    Calls Try.prog 8 #[.int .i64 c, .int .i64 n] w fun e w' => e = .returned (.int .i64 (pk c n)) ∧ w = w' := by
  have hz : ((n : Int) == 0) = false := by rw [beq_eq_false_iff_ne]; omega
  have hnz : (0 : Int) < (n : Int) := by omega
  by_cases hc : c < 0
  · have HR : Hid (-((c + 1).tmod (n : Int)) = (pk c n : Int)) := by
      show _ = _
      rw [← Int.neg_tmod, Int.tmod_eq_emod_of_nonneg (by omega)]
      exact pk_neg hn hc
    have b1 : 0 ≤ -(c + 1) := by omega
    have b2 : -(c + 1) ≤ 9223372036854775807 := by omega
    go_enter Try.func8, Try.ntmps8
    go_wp2
    go_ret
    exact ⟨by rw [← HR.out]; rfl, rfl⟩
  · have HR := Lib.hid (pk_pos hn (by omega : 0 ≤ c))
    have b1 : 0 ≤ c := by omega
    go_enter Try.func8, Try.ntmps8
    go_wp2
    go_ret
    exact ⟨by rw [← HR.out]; rfl, rfl⟩
end Go.Proofs.Ytijlnlcjlkanaaa.Stp
