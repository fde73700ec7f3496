/- The walks of WordsNumbers, WordsBack, WordsAgain. -/
import Derived.Test.YthcemgonabjgfaaDoorRin
set_option linter.unusedVariables false
namespace Go.Proofs.YthcemgonabjgfaaDoor.Wnw
open Go.RowKit Wrd Nam Env Num

theorem int_bounds {n : Int} (h : (Lit.int .i64 n).wf = true) : -9223372036854775808 ≤ n ∧ n ≤ 9223372036854775807 := by
  simp only [Lit.wf, IntKind.min, IntKind.max, IntKind.signed, IntKind.bits, Bool.and_eq_true, decide_eq_true_eq, if_true] at h
  omega

set_option maxHeartbeats 2000000 in
set_option maxRecDepth 100000 in
theorem numbers (n : Int) (s : ByteArray) (w : World) (wn : (Lit.int .i64 n).wf = true) (hs : s.size ≤ 1048576) (hE : Env w) :
    Calls Tryd.prog 4 #[.int .i64 n, .string s] w fun e w' => e = .returned (.bool true) ∧ Below w.heap.size w w' := by
  obtain ⟨h0, h1⟩ := int_bounds wn
  clear wn
  obtain ⟨p, q, hpq⟩ : ∃ p q, Pnu.parse s.data.toList = (p, q) := ⟨_, _, rfl⟩
  have CP : ∀ w, Env w → Calls Tryd.prog 14 #[.string s] w fun e w' => e = .returned (.tuple #[.int .i64 p, .int .i64 q]) ∧ Below w.heap.size w w' := fun w h => (Num.parse_any s w (by omega) h).mono fun _ _ h => by rw [hpq] at h; exact h
  have CR : ∀ w, Calls Tryd.prog 15 #[.string s] w fun e w' => e = .returned (.tuple #[.int .i64 p, .int .i64 q]) ∧ w = w' := fun w => (Rnu.parse_any s w (by omega)).mono fun _ _ h => by rw [hpq] at h; exact h
  have HP := Lib.hid CP
  have HR := Lib.hid CR
  have HEv := Lib.hid hE
  clear CP CR hpq hE
  obtain ⟨t, ht⟩ : ∃ t : ByteArray, t = ⟨(Lib.itoa n).toArray⟩ := ⟨_, rfl⟩
  have HT := Lib.hid ht
  clear ht
  go_enter Tryd.func4, Tryd.ntmps4
  go_wp2_with fail
  refine (Num.int_any n w h0 h1 HEv.out).mono ?_
  rintro e w1 ⟨rfl, hb1⟩
  rw [← HT.out]
  go_wp2_with fail
  refine (HP.out w1 (HEv.out.below hb1)).mono ?_
  rintro e w2 ⟨rfl, hb2⟩
  go_wp2_with fail
  refine (HR.out w2).mono ?_
  rintro e w3 ⟨rfl, rfl⟩
  go_wp2_with fail
  refine (Rin.int_any n w2 h0 h1).mono ?_
  rintro e w4 ⟨rfl, hb4⟩
  rw [← HT.out]
  go_wp2
  go_ret
  exact ⟨rfl, (hb1.trans (hb2.mono hb1.size)).trans (hb4.mono (by have := hb1.size; have := hb2.size; omega))⟩
end Go.Proofs.YthcemgonabjgfaaDoor.Wnw
