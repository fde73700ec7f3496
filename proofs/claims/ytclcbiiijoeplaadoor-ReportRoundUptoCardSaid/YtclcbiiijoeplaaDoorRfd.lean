/- drowseref21.field. -/
import Derived.Test.YtclcbiiijoeplaaDoorRpl
import Derived.WalkKit
import Derived.Lib.Hide
import Derived.Outline
import Derived.Below
set_option linter.unusedVariables false
namespace Go.Proofs.YtclcbiiijoeplaaDoor.Rfd
open Go.RowKit Rpl

/-- No blank from a on, up to b. -/
def free (l : List UInt8) (a b : Nat) : Prop := ∀ j, a ≤ j → j < b → l[j]? ≠ some 32
theorem free_step {l : List UInt8} {a b : Nat} (h : free l a b) (h2 : l[b]? ≠ some 32) : free l a (b + 1) := by
  intro j h3 h4
  by_cases e : j = b
  · rw [e]; exact h2
  · exact h j h3 (by omega)
set_option maxHeartbeats 4000000 in
set_option maxRecDepth 100000 in
theorem field_any (s : ByteArray) (a : Nat) (w : World) (ha : a ≤ s.size) (hs : s.size ≤ 4611686018427387904) :
    Calls Tryd.prog 40 #[.string s, .int .i64 a] w fun e w' =>
      ((∃ i, a ≤ i ∧ i < s.size ∧ s.data.toList[i]? = some 32 ∧ free s.data.toList a i ∧ e = .returned (.tuple #[.string (s.extract a i), .int .i64 ((i + 1 : Nat) : Int)])) ∨
       (free s.data.toList a s.size ∧ e = .returned (.tuple #[.string ⟨#[]⟩, .int .i64 (-1)]))) ∧ w = w' := by
  go_enter Tryd.func40, Tryd.ntmps40
  go_wp2
  go_loopw [6] (fun iv wr => ∃ i : Nat, iv = .int .i64 i ∧ a ≤ i ∧ i ≤ s.size ∧ Hid (free s.data.toList a i) ∧ w = wr) (fun iv _ => (s.size - (intOf iv).toNat))
  case atStart => exact ⟨a, rfl, Nat.le_refl _, ha, fun j h1 h2 => absurd h2 (by omega), rfl⟩
  case round =>
    obtain ⟨i, rfl, h1, h2, HF, rfl⟩ := hrel
    by_cases hlt : i < s.size
    · have hl : i < s.data.toList.length := by rw [Array.length_toList]; exact hlt
      have hg : s.data.toList[i]? = some s[i] := by rw [List.getElem?_eq_getElem hl]; rfl
      by_cases h32 : s[i] = 32
      · have HG : Hid (s.data.toList[i]? = some 32) := by rw [hg, h32]; rfl
        have ht : (((s[i]).toNat : Int) == 32) = true := by rw [h32]; rfl
        clear hg h32
        go_wp2
        go_ret2
        exact ⟨.inl ⟨i, h1, hlt, HG.out, HF.out, rfl⟩, rfl⟩
      · have HN : Hid (free s.data.toList a (i + 1)) := free_step HF.out (by rw [hg]; intro h; exact h32 (Option.some.inj h))
        have hb : (((s[i]).toNat : Int) == 32) = false := by
          rw [beq_eq_false_iff_ne]
          intro h
          exact h32 (UInt8.toNat_inj.1 (show (s[i]).toNat = 32 by omega))
        clear hg h32 HF
        go_wp2
        go_roundw
        case rel => exact ⟨i + 1, by go_num, by omega, by omega, HN, trivial⟩
        case measure => simp [intOf]; omega
    · have HN : Hid (free s.data.toList a s.size) := by
        have : i = s.size := by omega
        have h := HF.out
        rw [this] at h; exact h
      clear HF
      go_wp2
      go_ret2
      exact ⟨.inr ⟨HN.out, rfl⟩, rfl⟩
end Go.Proofs.YtclcbiiijoeplaaDoor.Rfd
