/- (*slots.Table[int]).Free. -/
import Derived.Test.YtijlnlcjlkanaaaSth
set_option linter.unusedVariables false
namespace Go.Proofs.Ytijlnlcjlkanaaa.Sti
open Go.RowKit Rwo Sta Stb Stc Stg Ste Rwp Stf Sth

/-- slices.Delete of one handle, wherever it stands. -/
theorem delete_any (B b1 cp : Nat) (l : List Hd) (i : Nat) (w : World) (h : Own hdE 33 B (.slice (some ⟨b1, 0, none⟩) l.length cp) l w) (hn : l.length ≤ 1000000) (hi : i < l.length) :
    Calls Try.prog 34 #[.slice (some ⟨b1, 0, none⟩) l.length cp, .int .i64 i, .int .i64 ((i : Int) + 1)] w fun e w' => e = .returned (.slice (some ⟨b1, 0, none⟩) (l.length - 1) cp) ∧ Own hdE 33 B (.slice (some ⟨b1, 0, none⟩) (l.length - 1) cp) (l.eraseIdx i) w' ∧ Only b1 w w' := by
  obtain ⟨h1, h2, _⟩ := capmax h
  unfold maxLen at h1
  by_cases hcp : i + 1 < cp
  · obtain ⟨m, hm⟩ : ∃ m, l.length = i + 1 + m := ⟨l.length - (i + 1), by omega⟩
    have e : l.length - 1 = i + m := by omega
    rw [e]
    rw [hm] at h ⊢
    exact delete_mid B b1 cp l i m w hm h (by omega) (by omega) hcp h1
  · have e1 : l.length = i + 1 := by omega
    have e2 : cp = i + 1 := by omega
    have e : l.length - 1 = i := by omega
    rw [e]
    subst e2
    rw [e1] at h ⊢
    exact delete_last B b1 l i w e1 h (by omega)
end Go.Proofs.Ytijlnlcjlkanaaa.Sti
