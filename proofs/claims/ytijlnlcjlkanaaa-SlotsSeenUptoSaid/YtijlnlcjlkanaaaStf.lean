/- slices.Delete of one handle. -/
import Derived.Test.YtijlnlcjlkanaaaSte
import Derived.Test.YtijlnlcjlkanaaaRwp
set_option linter.unusedVariables false
namespace Go.Proofs.Ytijlnlcjlkanaaa.Stf
open Go.RowKit Rwo Sta Stb Stc Stg Ste Rwp

theorem run_clear (b o c : Nat) (w : World) (u0 u1 : Value) (h0 : w.cell? ⟨b, o, none⟩ = some u0) (h1 : w.cell? ⟨b, o + 1, none⟩ = some u1) (f0 : w.frozen? ⟨b, o, none⟩ = false) (f1 : w.frozen? ⟨b, o + 1, none⟩ = false) :
    (Builtin.clear_ #[29] 0 #[.slice (some ⟨b, o, none⟩) 1 c]).run Try.prog w = .ok (.tuple #[]) ((w.setCell ⟨b, o, none⟩ (.int .u32 0)).setCell ⟨b, o + 1, none⟩ (.int .u32 0)) := by
  simp [Builtin.clear_, run_underlying Try.underlying29, Builtin.zeroCells, storeCells, h0, h1, f0, f1, go_sem]
theorem delete_facts {B b1 cp i m : Nat} {l : List Hd} {w : World} (hD : Own hdE 33 B (.slice (some ⟨b1, 0, none⟩) (i + 1 + m) cp) l w.drew)
    (hM : Own hdE 33 B (.slice (some ⟨b1, 0, none⟩) (l.length - 1) cp) (l.eraseIdx i) (w.drew.setCells b1 (i * hdE.z) ((l.drop (i + 1)).flatMap hdE.f))) (hL : l.length = i + 1 + m) :
    Own hdE 33 B (.slice (some ⟨b1, 0, none⟩) (i + m) cp) (l.eraseIdx i) (w.drew.setCells b1 (i * 2) ((l.drop (i + 1)).flatMap hdE.f)) ∧ Only b1 w (w.drew.setCells b1 (i * 2) ((l.drop (i + 1)).flatMap hdE.f)) ∧
    (∃ u, (w.drew.setCells b1 (i * 2) ((l.drop (i + 1)).flatMap hdE.f)).cell? ⟨b1, (i + m) * 2, none⟩ = some u) ∧ (∃ u, (w.drew.setCells b1 (i * 2) ((l.drop (i + 1)).flatMap hdE.f)).cell? ⟨b1, (i + m) * 2 + 1, none⟩ = some u) ∧
    (w.drew.setCells b1 (i * 2) ((l.drop (i + 1)).flatMap hdE.f)).frozen? ⟨b1, (i + m) * 2, none⟩ = false ∧ (w.drew.setCells b1 (i * 2) ((l.drop (i + 1)).flatMap hdE.f)).frozen? ⟨b1, (i + m) * 2 + 1, none⟩ = false := by
  have e : l.length - 1 = i + m := by omega
  rw [e] at hM
  have c0 := (Rwp.room_there hD (i + m) 1 (by omega) 0 (by show 0 < 1 * 2; omega)).1
  have c1 := (Rwp.room_there hD (i + m) 1 (by omega) 1 (by show 1 < 1 * 2; omega)).1
  rw [Nat.zero_add] at c0 c1
  refine ⟨hM, only_cells _ _ _ ((Only.refl b1 w).drew), Option.isSome_iff_exists.1 (some_cells b1 _ _ _ _ c0), Option.isSome_iff_exists.1 (some_cells b1 _ _ _ _ c1), ?_, ?_⟩
  · exact hM.frozen _
  · exact hM.frozen _
set_option maxHeartbeats 4000000 in
set_option maxRecDepth 100000 in
theorem delete_mid (B b1 cp : Nat) (l : List Hd) (i m : Nat) (w : World) (hL : Hid (l.length = i + 1 + m)) (h : Hid (Own hdE 33 B (.slice (some ⟨b1, 0, none⟩) (i + 1 + m) cp) l w)) (hn : i + 1 + m ≤ 1000000) (hc : i + 1 + m ≤ cp) (hcp : i + 1 < cp) (hc2 : cp ≤ 9223372036854775807) :
    Calls Try.prog 34 #[.slice (some ⟨b1, 0, none⟩) (i + 1 + m) cp, .int .i64 i, .int .i64 ((i : Int) + 1)] w fun e w' => e = .returned (.slice (some ⟨b1, 0, none⟩) (i + m) cp) ∧ Own hdE 33 B (.slice (some ⟨b1, 0, none⟩) (i + m) cp) (l.eraseIdx i) w' ∧ Only b1 w w' := by
  obtain ⟨i0, hi0, hz0, hz1, hz2⟩ := info_parts infoHd
  have a0 : ((i : Int) == (i : Int) + 1) = false := by rw [beq_eq_false_iff_ne]; omega
  have a1 : (0 : Int) ≤ (i : Int) := by omega
  have a2 : (i : Int) ≤ (i : Int) + 1 := by omega
  have a3 : (i : Int) + 1 ≤ (i : Int) + 1 + (m : Int) := by omega
  have a4 : (i : Int) + 1 + (m : Int) ≤ (cp : Int) := by omega
  have a5 : ((i : Int) + 1).toNat = i + 1 := by omega
  have a6 : (i : Int) ≤ (cp : Int) := by omega
  have a7 : i + 1 ≤ cp := by omega
  have a8 : ¬ (cp = i + 1) := by omega
  have a9 : (0 : Int) ≤ (i : Int) + 1 := by omega
  have HD : Hid (Own hdE 33 B (.slice (some ⟨b1, 0, none⟩) (i + 1 + m) cp) l w.drew) := h.out
  have HM := Lib.hid (moved HD.out i (by rw [hL.out]; omega))
  have HI := Lib.hid (And.intro hi0 hz1)
  have HN : Hid (((l.drop (i + 1)).flatMap hdE.f).length = m * 2) := by
    show _ = _
    rw [flat_length, List.length_drop, hL.out]
    show (i + 1 + m - (i + 1)) * 2 = m * 2
    congr 1; omega
  clear hi0 hz0 hz1 hz2
  go_enter Try.func34, Try.ntmps34
  go_wp2_with fail
  go_region_law ((refine step_append_room (by rfl) _ _ _ (by rfl) 33 i0 2 Try.underlying29 HI.out.1 HI.out.2 b1 0 i cp (by rfl) ⟨b1, (i + 1) * 2, none⟩ m _ ((l.drop (i + 1)).flatMap hdE.f) (by rfl) HN.out (Rwp.cells_from HD.out (i + 1) (by rw [hL.out]; omega)) (flat_one hdE _) (by omega) (by rw [HN.out]; exact Rwp.room_there HD.out i m (by rw [hL.out]; omega)) ?_))
  have HZ : Hid (i + 1 + m - (i + m) = 1) := by show _ = _; omega
  have HLE : Hid ((l.eraseIdx i).length * 2 ≤ (i + m) * 2 ∧ l.length - 1 = i + m) := by
    have := hL.out
    refine ⟨?_, by omega⟩
    rw [List.length_eraseIdx_of_lt (by omega)]; omega
  have HF := Lib.hid (delete_facts HD.out HM.out hL.out)
  obtain ⟨W3, hW3⟩ : ∃ W3, W3 = w.drew.setCells b1 (i * 2) ((l.drop (i + 1)).flatMap hdE.f) := ⟨_, rfl⟩
  rw [← hW3] at HF
  rw [← hW3]
  clear hW3 HM
  obtain ⟨hO3, hb3, ⟨u0, h0⟩, ⟨u1, h1⟩, f0, f1⟩ := HF.out
  have HO3 := Lib.hid hO3
  clear hO3
  go_wp2_with fail
  rw [HZ.out, run_clear b1 ((i + m) * 2) _ W3 u0 u1 h0 h1 f0 f1]
  go_wp2
  go_ret
  exact ⟨rfl, spare (spare HO3.out HLE.out.1) (by show (l.eraseIdx i).length * 2 ≤ (i + m) * 2 + 1; have := HLE.out.1; omega), (hb3.setCell _ _).setCell _ _⟩
end Go.Proofs.Ytijlnlcjlkanaaa.Stf
