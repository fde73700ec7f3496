/- drowselaw21.same, drowselaw21.cut. -/
import Derived.Test.YtclcbiiijoeplaaDoorRox
import Derived.Test.YtclcbiiijoeplaaDoorRsl
import Derived.Deep.QuietTactic
import Derived.BigQuiet
import Derived.WalkKit
import Derived.Below
import Derived.Outline
set_option linter.unusedVariables false
namespace Go.Proofs.YtclcbiiijoeplaaDoor.Rsx
open Go.RowKit Rwo Rowz Rox

set_option maxHeartbeats 2000000 in
set_option maxRecDepth 100000 in
/-- Two rows of rows that hold the same. -/
theorem same_any {B1 B2 : Nat} {v u : Value} {L : List (List Int)} {vs us : List SV} {w : World} (hl : L.length ≤ 1048576) (hll : ∀ j, (L.getD j []).length ≤ 1048576) (hv : Hid (RowsI B1 v L vs w)) (hu : Hid (RowsI B2 u L us w)) :
    Calls Tryd.prog 18 #[v, u] w fun e w' => e = .returned (.bool true) ∧ ∃ q, w' = w.drewN q := by
  obtain ⟨A1, c1, rfl⟩ := Rox.shape hv.out
  obtain ⟨A2, c2, rfl⟩ := Rox.shape hu.out
  have hn1 : vs.length = L.length := hv.out.len
  have hn2 : us.length = L.length := hu.out.len
  rw [hn1] at hv ⊢
  rw [hn2] at hu ⊢
  have HN1 := Lib.hid hn1
  have HN2 := Lib.hid hn2
  obtain ⟨n, hn⟩ : ∃ n, L.length = n := ⟨_, rfl⟩
  rw [hn] at hv hu hl ⊢
  have HN := Lib.hid hn
  have hnn : ((n : Int) != (n : Int)) = false := by simp
  clear hn hn1 hn2
  go_enter Tryd.func18, Tryd.ntmps18
  go_wp2
  go_loopw [5] (fun iv wr => ∃ i q : Nat, iv = .int .i64 i ∧ i ≤ n ∧ wr = w.drewN q) (fun iv _ => n - (intOf iv).toNat)
  case atStart => exact ⟨0, 0, rfl, Nat.zero_le _, rfl⟩
  case round =>
    obtain ⟨i, q, rfl, hi, rfl⟩ := hrel
    by_cases hlt : i < n
    · have hi1 : i < vs.length := by rw [HN1.out, HN.out]; exact hlt
      have hi2 : i < us.length := by rw [HN2.out, HN.out]; exact hlt
      obtain ⟨g1, k1, e1⟩ := some_of hv.out (by omega)
      obtain ⟨g2, k2, e2⟩ := some_of hu.out (by omega)
      simp only [Value.slice.injEq] at e1 e2
      obtain ⟨rfl, _, rfl⟩ := e1
      obtain ⟨rfl, _, rfl⟩ := e2
      have d1 := Rox.cell hv.out rfl hi1
      have d2 := Rox.cell hu.out rfl hi2
      obtain ⟨a1, b1, r1⟩ := row_shape hv.out hi1
      obtain ⟨a2, b2, r2⟩ := row_shape hu.out hi2
      obtain ⟨l, hll'⟩ : ∃ l, L.getD i [] = l := ⟨_, rfl⟩
      have hE1 := hv.out.each i hi1
      have hE2 := hu.out.each i hi2
      have hlm := hll i
      rw [r1] at d1 hE1
      rw [r2] at d2 hE2
      rw [hll'] at d1 d2 hE1 hE2 hlm
      obtain ⟨m, hm⟩ : ∃ m, l.length = m := ⟨_, rfl⟩
      rw [hm] at hlm
      have HE1 := Lib.hid hE1
      have HE2 := Lib.hid hE2
      rw [hm] at HE1 HE2
      have d1' : w.cell? ⟨g1, i, none⟩ = some (.slice a1 m b1) := by rw [← hm]; exact d1
      have d2' : w.cell? ⟨g2, i, none⟩ = some (.slice a2 m b2) := by rw [← hm]; exact d2
      have HM := Lib.hid hm
      have hmm : ((m : Int) != (m : Int)) = false := by simp
      clear d1 d2 hE1 hE2 hm r1 r2 hll' hi1 hi2
      go_wp2_with fail
      go_quiet (fail)
      go_wp2_with fail
      go_loopw [6] (fun kv wq => ∃ k q2 : Nat, kv = .int .i64 k ∧ k ≤ m ∧ wq = w.drewN q2) (fun kv _ => m - (intOf kv).toNat)
      case atStart => exact ⟨0, _, rfl, Nat.zero_le _, by first | rfl | exact World.drewN_drewN ..⟩
      case round =>
        obtain ⟨k, q2, rfl, hk, rfl⟩ := hrel
        by_cases hkl : k < m
        · have hkl2 : k < l.length := by rw [HM.out]; exact hkl
          have hne : l ≠ [] := fun e => by rw [e] at hkl2; simp at hkl2
          obtain ⟨h1, p1, e1, _⟩ := shape_some HE1.out hne
          obtain ⟨h2, p2, e2, _⟩ := shape_some HE2.out hne
          simp only [Value.slice.injEq] at e1 e2
          obtain ⟨rfl, _, rfl⟩ := e1
          obtain ⟨rfl, _, rfl⟩ := e2
          have f1 := Ints.cell HE1.out hkl2
          have f2 := Ints.cell HE2.out hkl2
          obtain ⟨x, hx⟩ : ∃ x, l.getD k 0 = x := ⟨_, rfl⟩
          rw [hx] at f1 f2
          have hxx : (x != x) = false := by simp
          clear hx
          go_wp2_with fail
          go_quiet (fail)
          go_wp2
          go_roundw
          case rel => exact ⟨k + 1, _, by go_num, by omega, by first | rfl | exact World.drewN_drewN ..⟩
          case measure => simp [intOf]; omega
        · go_wp2
          go_roundw
          case rel => exact ⟨i + 1, _, by go_num, by omega, by first | rfl | exact World.drewN_drewN ..⟩
          case measure => simp [intOf]; omega
    · go_wp2
      go_ret
      exact ⟨rfl, q, rfl⟩
end Go.Proofs.YtclcbiiijoeplaaDoor.Rsx
