/- drowseref21.number. -/
import Derived.Test.YtclcbiiijoeplaaDoorRpl
import Derived.WalkKit
import Derived.Lib.Hide
import Derived.Outline
import Derived.Below
set_option linter.unusedVariables false
namespace Go.Proofs.YtclcbiiijoeplaaDoor.Rnb
open Go.RowKit Rpl

/-- What the digits read so far come to. -/
def val (l : List UInt8) : Nat := l.foldl (fun n c => 10 * n + (c.toNat - 48)) 0
def digs (l : List UInt8) : Prop := ∀ c ∈ l, 48 ≤ c.toNat ∧ c.toNat ≤ 57
theorem val_snoc (l : List UInt8) (c : UInt8) : val (l ++ [c]) = 10 * val l + (c.toNat - 48) := by simp [val]
theorem digs_snoc {l : List UInt8} {c : UInt8} (h : digs l) (hc : 48 ≤ c.toNat ∧ c.toNat ≤ 57) : digs (l ++ [c]) := by
  intro x hx
  rcases List.mem_append.1 hx with h1 | h1
  · exact h x h1
  · simp only [List.mem_singleton] at h1; rw [h1]; exact hc
theorem fold_lt : ∀ (l : List UInt8) (n : Nat), digs l → l.foldl (fun n c => 10 * n + (c.toNat - 48)) n + 1 ≤ (n + 1) * 10 ^ l.length
  | [], n, _ => by simp
  | c :: l, n, h => by
    have h1 := fold_lt l (10 * n + (c.toNat - 48)) fun x hx => h x (List.mem_cons_of_mem _ hx)
    have h2 := h c List.mem_cons_self
    rw [List.foldl_cons, List.length_cons, Nat.pow_succ, ← Nat.mul_assoc, Nat.mul_right_comm]
    refine Nat.le_trans h1 (Nat.mul_le_mul_right _ ?_)
    omega
theorem val_lt {l : List UInt8} (h : digs l) : val l < 10 ^ l.length := by
  have := fold_lt l 0 h
  unfold val
  omega
theorem val_small {l : List UInt8} (h : digs l) (hl : l.length ≤ 9) : val l ≤ 999999999 := by
  have h1 := val_lt h
  have h2 : 10 ^ l.length ≤ 10 ^ 9 := Nat.pow_le_pow_right (by omega) hl
  omega
def num (s : ByteArray) : Int := if s.size < 1 ∨ 10 < s.size then -1 else if s.data.toList.all (fun c => decide (48 ≤ c.toNat) && decide (c.toNat ≤ 57)) then val s.data.toList else -1
theorem all_iff (l : List UInt8) : l.all (fun c => decide (48 ≤ c.toNat) && decide (c.toNat ≤ 57)) = true ↔ digs l := by
  simp [List.all_eq_true, digs]
set_option maxHeartbeats 4000000 in
set_option maxRecDepth 100000 in
theorem number_any (s : ByteArray) (w : World) (hs : s.size ≤ 4611686018427387904) : Calls Tryd.prog 41 #[.string s] w fun e w' => e = .returned (.int .i64 (num s)) ∧ w = w' := by
  by_cases h0 : s.size < 1
  · have HN : Hid (num s = -1) := by unfold num; exact if_pos (.inl h0)
    go_enter Tryd.func41, Tryd.ntmps41
    go_wp2
    go_ret
    exact ⟨by rw [HN.out]; rfl, rfl⟩
  by_cases h10 : 10 < s.size
  · have HN : Hid (num s = -1) := by unfold num; exact if_pos (.inr h10)
    go_enter Tryd.func41, Tryd.ntmps41
    go_wp2
    go_ret
    exact ⟨by rw [HN.out]; rfl, rfl⟩
  have hlen : s.data.toList.length = s.size := by rw [Array.length_toList]; rfl
  go_enter Tryd.func41, Tryd.ntmps41
  go_wp2
  go_loopw [3, 4] (fun nv iv wr => ∃ i m : Nat, nv = .int .i64 m ∧ iv = .int .i64 i ∧ i ≤ s.size ∧ Hid (digs (s.data.toList.take i) ∧ m = val (s.data.toList.take i)) ∧ w = wr) (fun _ iv _ => (s.size - (intOf iv).toNat))
  case atStart => exact ⟨0, 0, rfl, rfl, Nat.zero_le _, ⟨fun c hc => absurd hc (by simp), rfl⟩, rfl⟩
  case round =>
    obtain ⟨i, m, rfl, rfl, hi, HF, rfl⟩ := hrel
    by_cases hlt : i < s.size
    · have hl : i < s.data.toList.length := by rw [hlen]; exact hlt
      have htk : s.data.toList.take (i + 1) = s.data.toList.take i ++ [s[i]] := by
        rw [List.take_add_one, List.getElem?_eq_getElem hl]; rfl
      have hm : m ≤ 999999999 := by
        rw [HF.out.2]
        exact val_small HF.out.1 (by rw [List.length_take]; omega)
      obtain ⟨d, hd⟩ : ∃ d, (s[i]).toNat = d := ⟨_, rfl⟩
      by_cases hdig : 48 ≤ d ∧ d ≤ 57
      · have HN : Hid (digs (s.data.toList.take (i + 1)) ∧ 10 * m + (d - 48) = val (s.data.toList.take (i + 1))) := by
          rw [htk]
          exact ⟨digs_snoc HF.out.1 (by rw [hd]; exact hdig), by rw [val_snoc, ← HF.out.2, hd]⟩
        have hc1 : ¬ ((d : Int) < 48) := by omega
        have hc2 : ¬ (57 < (d : Int)) := by omega
        obtain ⟨hd1, hd2⟩ := hdig
        clear HF htk
        go_wp2
        exact ⟨⟨i + 1, 10 * m + (d - 48), by go_num, by go_num, by omega, HN, trivial⟩, by simp [intOf]; omega⟩
      · have HN : Hid (num s = -1) := by
          unfold num
          show _ = _
          rw [if_neg (by omega), if_neg]
          intro h
          have := (all_iff _).1 h (s[i]) (List.getElem_mem hl)
          rw [hd] at this
          exact hdig this
        by_cases h1 : 48 ≤ d
        · have h2 : 57 < d := by omega
          clear hdig HF htk
          go_wp2
          go_ret
          exact ⟨by rw [HN.out]; rfl, rfl⟩
        · have h2 : d < 48 := by omega
          clear hdig HF htk
          go_wp2
          go_ret
          exact ⟨by rw [HN.out]; rfl, rfl⟩
    · have HN : Hid (num s = m) := by
        have hf := HF.out
        rw [show i = s.data.toList.length by omega, List.take_length] at hf
        unfold num
        show _ = _
        rw [if_neg (by omega), if_pos ((all_iff _).2 hf.1), hf.2]
      clear HF
      go_wp2
      go_ret
      exact ⟨by rw [HN.out]; rfl, rfl⟩
end Go.Proofs.YtclcbiiijoeplaaDoor.Rnb
