/- RunTexts: for every fate and every end the text of run.Text is the document's text, and run.Exit is the document's number. No condition. -/
import Derived.Test.YthcemgonabjgfaaPRunTextsx1
namespace Go.Proofs.Ythcemgonabjgfaa.Pure
open Go.RowKit Go.Proofs.Ythcemgonabjgfaa.PRunTexts Go.Proofs.YthcemgonabjgfaaW.PrintWords Go.Proofs.YthcemgonabjgfaaW.PrintLast

theorem same_text (a : Int) (h0 : -9223372036854775808 ≤ a) (h1 : a ≤ 9223372036854775807) :
    ∃ s, run_Text.f a = some s ∧ drowselaw20_texts.f a = some s := by
  by_cases hl : a < 11
  · by_cases h : a = 0
    · subst h; exact ⟨_, rfl, rfl⟩
    by_cases h' : a = 1
    · subst h'; exact ⟨_, rfl, rfl⟩
    refine ⟨(⟨#[]⟩ : ByteArray), ?_, ?_⟩
    · unfold run_Text.f
      rw [if_neg h, if_neg h', if_neg (by omega), if_neg (by omega), if_neg (by omega), if_neg (by omega), if_neg (by omega), if_neg (by omega), if_neg (by omega), if_neg (by omega), if_neg (by omega), if_neg (by omega), if_neg (by omega), if_neg (by omega), if_neg (by omega), if_neg (by omega), if_neg (by omega)]
    · unfold drowselaw20_texts.f
      rw [if_neg h, if_neg h']
      simp only [Option.bind_some]
      rw [if_pos hl]
  by_cases hh : a ≤ 25
  · have : a = 11 ∨ a = 12 ∨ a = 13 ∨ a = 14 ∨ a = 15 ∨ a = 16 ∨ a = 17 ∨ a = 18 ∨ a = 19 ∨ a = 20 ∨ a = 21 ∨ a = 22 ∨ a = 23 ∨ a = 24 ∨ a = 25 := by omega
    rcases this with rfl | rfl | rfl | rfl | rfl | rfl | rfl | rfl | rfl | rfl | rfl | rfl | rfl | rfl | rfl <;> exact ⟨_, rfl, by kernel_rfl⟩
  refine ⟨(⟨#[]⟩ : ByteArray), ?_, ?_⟩
  · unfold run_Text.f
    rw [if_neg (by omega), if_neg (by omega), if_neg (by omega), if_neg (by omega), if_neg (by omega), if_neg (by omega), if_neg (by omega), if_neg (by omega), if_neg (by omega), if_neg (by omega), if_neg (by omega), if_neg (by omega), if_neg (by omega), if_neg (by omega), if_neg (by omega), if_neg (by omega), if_neg (by omega)]
  · unfold drowselaw20_texts.f
    rw [if_neg (by omega), if_neg (by omega)]
    simp only [Option.bind_some]
    rw [if_neg hl]
    have hw : wrap64 (a - 11) = a - 11 := by unfold wrap64; omega
    rw [hw, if_pos (by simp only [List.length_cons, List.length_nil]; omega)]

theorem wf_bd {a : Int} (h : (Lit.int .i64 a).wf = true) : -9223372036854775808 ≤ a ∧ a ≤ 9223372036854775807 := by
  simp only [Lit.wf, IntKind.min, IntKind.max, IntKind.signed, IntKind.bits, Bool.and_eq_true, decide_eq_true_eq, if_true] at h
  omega

theorem RunTexts : drowselaw20_RunTexts.Pure := by
  intro a e wa we
  obtain ⟨h0, h1⟩ := wf_bd wa
  obtain ⟨s, hs, ht⟩ := same_text a h0 h1
  refine ⟨1, ?_⟩
  unfold drowselaw20_RunTexts.f
  by_cases h2 : e = 2
  · subst h2
    rw [if_pos rfl]
    simp only [drowselaw20_RunTexts.j0, hs, ht, Option.bind_some, if_true]
    rw [if_neg (by omega)]
    rfl
  · rw [if_neg h2]
    simp only [drowselaw20_RunTexts.j0, hs, ht, Option.bind_some, if_true]
    by_cases h3 : e = 3
    · subst h3; rw [if_pos rfl]; rfl
    · rw [if_neg h3]
      unfold run_Exit.f
      rw [if_neg h2, if_neg h3]; rfl

end Go.Proofs.Ythcemgonabjgfaa.Pure
