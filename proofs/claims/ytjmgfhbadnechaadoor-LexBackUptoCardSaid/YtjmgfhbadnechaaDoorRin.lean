/- drowseref02.Int: at every number the digits that the library writes. -/
import Derived.Test.YtjmgfhbadnechaaDoorRnu
import Derived.Test.YtjmgfhbadnechaaDoorApp
set_option linter.unusedVariables false
namespace Go.Proofs.YtjmgfhbadnechaaDoor.Rin
open Go.RowKit Wrd Nam Env Num

/-- What is still to be written of m, ahead of acc. -/
def ahead (m : Nat) (acc : List UInt8) : List UInt8 := if m = 0 then acc else Lib.decDigits m ++ acc
theorem ahead_zero (acc : List UInt8) : ahead 0 acc = acc := by simp [ahead]
theorem ahead_step {m : Nat} (h : m ≠ 0) (acc : List UInt8) : ahead m acc = ahead (m / 10) (UInt8.ofNat (48 + m % 10) :: acc) := by
  unfold ahead
  rw [if_neg h]
  by_cases h10 : m < 10
  · rw [if_pos (by omega), Lib.decDigits_one h10, show m % 10 = m by omega]; rfl
  · rw [if_neg (by omega), Lib.decDigits, dif_neg h10, List.append_assoc]; rfl
theorem tmod_neg (m : Nat) : Int.tmod (-(m : Int)) 10 = -((m % 10 : Nat) : Int) := by
  rw [Int.neg_tmod]; rfl
theorem tdiv_neg (m : Nat) : Int.tdiv (-(m : Int)) 10 = -((m / 10 : Nat) : Int) := by
  rw [Int.neg_tdiv]; rfl

/-- The text of one byte. -/
theorem one_text (wr : World) (c : UInt8) (z : Int) (hz : z = (c.toNat : Int)) :
    (convert 51 9 (.slice (some ⟨wr.heap.size, 0, none⟩) 1 1)).run Tryd.prog (wr.alloc (.cells #[.int .u8 z] 5)) = .ok (.string ⟨#[c]⟩) (wr.alloc (.cells #[.int .u8 z] 5)) := by
  subst hz
  exact App.run_string wr.heap.size _ [c] _ (App.Own.made wr.heap.size [c] wr _ rfl (Nat.le_refl _) (by unfold maxLen; simp))
theorem digit_nat (m : Nat) : (UInt8.ofNat (48 + m % 10)).toNat = 48 + m % 10 := by
  rw [UInt8.toNat_ofNat']; omega
theorem cons_text (c : UInt8) (acc : ByteArray) : ((⟨#[c]⟩ : ByteArray) ++ acc).data.toList = c :: acc.data.toList := by
  simp

set_option maxHeartbeats 4000000 in
set_option maxRecDepth 100000 in
theorem int_pos (n : Nat) (w : World) (h0 : 0 < n) (h1 : n ≤ 9223372036854775807) :
    Calls Tryd.prog 31 #[.int .i64 n] w fun e w' => e = .returned (.string ⟨(Lib.decDigits n).toArray⟩) ∧ Below w.heap.size w w' := by
  have hz : ((n : Int) == 0) = false := by simp; omega
  have hz2 : ¬ (n : Int) < 0 := by omega
  have HA : Hid (ahead n [] = Lib.decDigits n) := by
    show _ = _
    unfold ahead; rw [if_neg (by omega), List.append_nil]
  go_enter Tryd.func31, Tryd.ntmps31
  go_wp2
  go_loopw [0, 4] (fun v o wr => ∃ (m : Nat) (acc : ByteArray), v = .int .i64 m ∧ acc.size + m ≤ n ∧ o = .string acc ∧ Hid (ahead m acc.data.toList = Lib.decDigits n) ∧ Below w.heap.size w wr) (fun v _ _ => (intOf v).toNat)
  case atStart => exact ⟨n, ⟨#[]⟩, rfl, by simp [ByteArray.size], rfl, HA, Below.refl _ _⟩
  case round =>
    obtain ⟨m, acc, rfl, hm, rfl, HK, hb⟩ := hrel
    clear hz hz2 HA
    by_cases hm0 : m = 0
    · subst hm0
      have HE := HK.out
      rw [ahead_zero] at HE
      have HE2 := Lib.hid HE
      clear HE
      go_wp2
      go_ret
      exact ⟨by rw [← HE2.out]; rfl, hb⟩
    · have hz : ((m : Int) != 0) = true := by simp; omega
      have hz2 : (m != 0) = true := by simp; omega
      have hz3 : ¬ (m : Int) % 10 < 0 := by omega
      obtain ⟨c, hc⟩ : ∃ c, c = UInt8.ofNat (48 + m % 10) := ⟨_, rfl⟩
      have hS := one_text wr c (48 + (m : Int) % 10) (by rw [hc, digit_nat]; omega)
      have HT : Hid (ahead m acc.data.toList = ahead (m / 10) (c :: acc.data.toList)) := by
        show _ = _
        rw [hc]; exact ahead_step hm0 acc.data.toList
      clear hc
      have hsz := hb.size
      have hac : acc.size ≤ 9223372036854775806 := by omega
      have hce : (⟨#[c]⟩ : ByteArray).size = 1 := rfl
      go_wp2
      go_roundw
      case rel => exact ⟨m / 10, ⟨#[c]⟩ ++ acc, by first | rfl | go_num, by simp; omega, rfl, by (show _ = _); rw [cons_text, ← HT.out, HK.out], hb.alloc hsz _⟩
      case measure => simp [intOf]; omega

set_option maxHeartbeats 4000000 in
set_option maxRecDepth 100000 in
theorem int_neg (n : Nat) (w : World) (h0 : 0 < n) (h1 : n ≤ 9223372036854775808) :
    Calls Tryd.prog 31 #[.int .i64 (-(n : Int))] w fun e w' => e = .returned (.string ⟨(45 :: Lib.decDigits n).toArray⟩) ∧ Below w.heap.size w w' := by
  have hz : ((-(n : Int)) == 0) = false := by simp; omega
  have hz2 : -(n : Int) < 0 := by omega
  have hz3 : (n == 0) = false := by simp; omega
  have HA : Hid (ahead n [] = Lib.decDigits n) := by
    show _ = _
    unfold ahead; rw [if_neg (by omega), List.append_nil]
  go_enter Tryd.func31, Tryd.ntmps31
  go_wp2
  go_loopw [0, 4] (fun v o wr => ∃ (m : Nat) (acc : ByteArray), v = .int .i64 (-(m : Int)) ∧ (m ≠ 0 → 9 * acc.size + m ≤ n) ∧ (m = 0 → 9 * acc.size ≤ n + 9) ∧ o = .string acc ∧ Hid (ahead m acc.data.toList = Lib.decDigits n) ∧ Below w.heap.size w wr) (fun v _ _ => (-(intOf v)).toNat)
  case atStart => exact ⟨n, ⟨#[]⟩, rfl, fun _ => by simp [ByteArray.size], fun h => by omega, rfl, HA, Below.refl _ _⟩
  case round =>
    obtain ⟨m, acc, rfl, hm1, hm2, rfl, HK, hb⟩ := hrel
    clear hz HA hz3
    by_cases hm0 : m = 0
    · subst hm0
      have HE := HK.out
      rw [ahead_zero] at HE
      have HE2 := Lib.hid HE
      clear HE
      have hac : acc.size ≤ 9223372036854775800 := by have := hm2 rfl; omega
      clear hm1 hm2
      have hce : (⟨#[45]⟩ : ByteArray).size = 1 := rfl
      go_wp2
      go_ret
      exact ⟨by rw [← HE2.out]; exact congrArg (fun b => Ending.returned (Value.string b)) (Plo.ba_ext (by rw [cons_text])), hb⟩
    · have hm := hm1 hm0
      have hz : ((-(m : Int)) != 0) = true := by simp; omega
      have hz2 : (m != 0) = true := by simp; omega
      obtain ⟨c, hc⟩ : ∃ c, c = UInt8.ofNat (48 + m % 10) := ⟨_, rfl⟩
      have HT : Hid (ahead m acc.data.toList = ahead (m / 10) (c :: acc.data.toList)) := by
        show _ = _
        rw [hc]; exact ahead_step hm0 acc.data.toList
      have hsz := hb.size
      have hac : acc.size ≤ 9223372036854775800 := by omega
      have hce : (⟨#[c]⟩ : ByteArray).size = 1 := rfl
      have ht1 := tmod_neg m
      have ht2 := tdiv_neg m
      have hn1 : m / 10 ≠ 0 → 9 * (1 + acc.size) + m / 10 ≤ n := by omega
      have hn2 : m / 10 = 0 → 9 * (1 + acc.size) ≤ n + 9 := by omega
      clear hm1 hm2
      have HN1 := Lib.hid hn1
      have HN2 := Lib.hid hn2
      clear hn1 hn2
      by_cases hd : m % 10 = 0
      · have hd1 : (m : Int) % 10 = 0 := by omega
        have hS := one_text wr c 48 (by rw [hc, digit_nat, hd]; rfl)
        clear hc hd
        go_wp2
        go_roundw
        case rel => exact ⟨m / 10, ⟨#[c]⟩ ++ acc, by first | rfl | go_num, by simpa [hce] using HN1.out, by simpa [hce] using HN2.out, rfl, by (show _ = _); rw [cons_text, ← HT.out, HK.out], hb.alloc hsz _⟩
        case measure => simp [intOf]; omega
      · have hd1 : (0 : Int) < (m : Int) % 10 := by omega
        have hd2 : decide ((0 : Int) < (m : Int) % 10) = true := decide_eq_true hd1
        have hS := one_text wr c (48 + (m : Int) % 10) (by rw [hc, digit_nat]; omega)
        clear hc hd
        go_wp2
        go_roundw
        case rel => exact ⟨m / 10, ⟨#[c]⟩ ++ acc, by first | rfl | go_num, by simpa [hce] using HN1.out, by simpa [hce] using HN2.out, rfl, by (show _ = _); rw [cons_text, ← HT.out, HK.out], hb.alloc hsz _⟩
        case measure => simp [intOf]; omega

theorem int_any (n : Int) (w : World) (h0 : -9223372036854775808 ≤ n) (h1 : n ≤ 9223372036854775807) :
    Calls Tryd.prog 31 #[.int .i64 n] w fun e w' => e = .returned (.string ⟨(Lib.itoa n).toArray⟩) ∧ Below w.heap.size w w' := by
  rcases Int.lt_trichotomy n 0 with h | h | h
  · obtain ⟨m, rfl⟩ : ∃ m : Nat, n = -(m : Int) := ⟨n.natAbs, by omega⟩
    have e : Lib.itoa (-(m : Int)) = 45 :: Lib.decDigits m := by
      unfold Lib.itoa; rw [if_pos h]; simp
    rw [e]
    exact int_neg m w (by omega) (by omega)
  · subst h
    have e : Hid (Lib.itoa 0 = [48]) := by
      show _ = _
      unfold Lib.itoa; rw [if_neg (by omega)]; exact Lib.decDigits_one (i := 0) (by omega)
    go_enter Tryd.func31, Tryd.ntmps31
    go_wp2
    go_ret
    exact ⟨by rw [e.out]; rfl, Below.refl _ _⟩
  · obtain ⟨m, rfl⟩ : ∃ m : Nat, n = (m : Int) := ⟨n.toNat, by omega⟩
    have e : Lib.itoa (m : Int) = Lib.decDigits m := by
      unfold Lib.itoa; rw [if_neg (by omega)]; simp
    rw [e]
    exact int_pos m w (by omega) (by omega)
end Go.Proofs.YtjmgfhbadnechaaDoor.Rin
