/- slices.Delete of the last handle of a full array. -/
import Derived.Test.YtijlnlcjlkanaaaStf
set_option linter.unusedVariables false
namespace Go.Proofs.Ytijlnlcjlkanaaa.Sth
open Go.RowKit Rwo Sta Stb Stc Stg Ste Rwp Stf

set_option maxHeartbeats 4000000 in
set_option maxRecDepth 100000 in
theorem delete_last (B b1 : Nat) (l : List Hd) (i : Nat) (w : World) (hL : Hid (l.length = i + 1)) (h : Hid (Own hdE 33 B (.slice (some ⟨b1, 0, none⟩) (i + 1) (i + 1)) l w)) (hn : i + 1 ≤ 1000000) :
    Calls Try.prog 34 #[.slice (some ⟨b1, 0, none⟩) (i + 1) (i + 1), .int .i64 i, .int .i64 ((i : Int) + 1)] w fun e w' => e = .returned (.slice (some ⟨b1, 0, none⟩) i (i + 1)) ∧ Own hdE 33 B (.slice (some ⟨b1, 0, none⟩) i (i + 1)) (l.eraseIdx i) w' ∧ Only b1 w w' := by
  obtain ⟨i0, hi0, hz0, hz1, hz2⟩ := info_parts infoHd
  have a0 : ((i : Int) == (i : Int) + 1) = false := by rw [beq_eq_false_iff_ne]; omega
  have a1 : (0 : Int) ≤ (i : Int) := by omega
  have a2 : (i : Int) ≤ (i : Int) + 1 := by omega
  have a5 : ((i : Int) + 1).toNat = i + 1 := by omega
  have a6 : (i : Int) ≤ (i : Int) + 1 := by omega
  have a9 : (0 : Int) ≤ (i : Int) + 1 := by omega
  have HD : Hid (Own hdE 33 B (.slice (some ⟨b1, 0, none⟩) (i + 1) (i + 1)) l w.drew) := h.out
  have HM := Lib.hid (moved HD.out i (by rw [hL.out]; omega))
  have HI := Lib.hid (And.intro hi0 hz1)
  have HE0 : Hid ((l.drop (i + 1)).flatMap hdE.f = []) := by
    show _ = _
    rw [List.drop_eq_nil_of_le (by rw [hL.out]; exact Nat.le_refl _)]; rfl
  clear hi0 hz0 hz1 hz2
  go_enter Try.func34, Try.ntmps34
  go_wp2_with fail
  go_region_law ((refine step_append_room (by rfl) _ _ _ (by rfl) 33 i0 2 Try.underlying29 HI.out.1 HI.out.2 b1 0 i (i + 1) (by rfl) ⟨b1, 0, none⟩ 0 _ [] (by rfl) rfl (fun j u hu => by simp at hu) (fun u hu => by simp at hu) (by omega) (fun j hj => by simp at hj) ?_))
  have HLE : Hid ((l.eraseIdx i).length * 2 ≤ i * 2 ∧ l.length - 1 = i) := by
    have := hL.out
    refine ⟨?_, by omega⟩
    rw [List.length_eraseIdx_of_lt (by omega)]; omega
  have HF := Lib.hid (delete_facts (m := 0) (by exact HD.out) HM.out (by rw [hL.out]))
  rw [HE0.out] at HF
  obtain ⟨W3, hW3⟩ : ∃ W3, W3 = w.drew.setCells b1 (i * 2) [] := ⟨_, rfl⟩
  rw [← hW3] at HF
  rw [← hW3]
  clear hW3 HM
  obtain ⟨hO3, hb3, ⟨u0, h0⟩, ⟨u1, h1⟩, f0, f1⟩ := HF.out
  have HO3 := Lib.hid hO3
  clear hO3
  go_wp2_with fail
  rw [run_clear b1 (i * 2) _ W3 u0 u1 h0 h1 f0 f1]
  go_wp2
  go_ret
  exact ⟨rfl, spare (spare HO3.out HLE.out.1) (by show (l.eraseIdx i).length * 2 ≤ i * 2 + 1; have := HLE.out.1; omega), (hb3.setCell _ _).setCell _ _⟩
end Go.Proofs.Ytijlnlcjlkanaaa.Sth
