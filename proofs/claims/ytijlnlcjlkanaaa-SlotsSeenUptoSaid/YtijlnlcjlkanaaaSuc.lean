/- slices.Clone of handles. -/
import Derived.Test.YtijlnlcjlkanaaaSua
import Derived.Test.YtijlnlcjlkanaaaRwp
import Derived.Test.YtijlnlcjlkanaaaStl
set_option linter.unusedVariables false
namespace Go.Proofs.Ytijlnlcjlkanaaa.Suc
open Go.RowKit Rwo Sta Stb Stc Stg Ste Rwp Stl

theorem below_new (w : World) (o : Obj) : Below w.heap.size w (w.alloc o) := (Below.refl w.heap.size w).alloc (Nat.le_refl _) o
theorem eq_slice (P : Program) (d : Nat) (t e : TypeId) (x : Option Addr) (n c : Nat) (w : World) (h : P.underlying t = some (.slice e)) : (Op.equalIn (d + 1) t (.slice x n c) (.slice none 0 0)).run P w = .ok x.isNone w := by
  cases x <;> simp [Op.equalIn, run_underlying h]
set_option maxRecDepth 100000 in
/-- A slice beside nil. -/
theorem slice_nil (x : Option Addr) (n c : Nat) (w : World) : (binOp BinOp.eql 29 (.slice x n c) (.slice none 0 0)).run Try.prog w = .ok (.bool x.isNone) w := by
  have := eq_slice Try.prog 9999 29 _ x n c w Try.underlying29
  have h : (Op.equal 29 (.slice x n c) (.slice none 0 0)).run Try.prog w = .ok x.isNone w := this
  simp [binOp, h]
/-- An empty row that is not nil. -/
theorem own_empty (w : World) (T : TypeId) (B : Nat) (hB : B ≤ w.heap.size) : Own hdE T B (.slice (some ⟨w.heap.size, 0, none⟩) 0 0) [] (w.alloc (.cells #[] T)) :=
  ⟨rfl, .inr ⟨w.heap.size, 0, #[], rfl, hB, heap_alloc_new w _, Nat.le_refl _, Nat.zero_le _, rfl, rfl⟩⟩
set_option maxHeartbeats 4000000 in
set_option maxRecDepth 100000 in
theorem clone_nil (w : World) :
    Calls Try.prog 37 #[.slice none 0 0] w fun e w' => e = .returned (.slice none 0 0) ∧ w = w' := by
  have hsn := slice_nil
  go_enter Try.func37, Try.ntmps37
  go_wp2
  go_ret
  exact ⟨rfl, rfl⟩
set_option maxHeartbeats 4000000 in
set_option maxRecDepth 100000 in
theorem clone_empty (b cp : Nat) (w : World) :
    Calls Try.prog 37 #[.slice (some ⟨b, 0, none⟩) 0 cp] w fun e w' => e = .returned (.slice (some ⟨w.heap.size, 0, none⟩) 0 0) ∧ w' = w.alloc (.cells #[] 33) := by
  have hsn := slice_nil
  go_enter Try.func37, Try.ntmps37
  go_wp2
  go_ret
  exact ⟨rfl, rfl⟩
set_option maxHeartbeats 4000000 in
set_option maxRecDepth 100000 in
theorem clone_some (B b cp : Nat) (l : List Hd) (w : World) (h : Hid (Own hdE 33 B (.slice (some ⟨b, 0, none⟩) l.length cp) l w)) (hl : 0 < l.length) (hn : l.length ≤ 1000000) :
    Calls Try.prog 37 #[.slice (some ⟨b, 0, none⟩) l.length cp] w fun e w' => (∃ g c, e = .returned (.slice (some ⟨g, 0, none⟩) l.length c) ∧ Own hdE 33 w.heap.size (.slice (some ⟨g, 0, none⟩) l.length c) l w') ∧ Below w.heap.size w w' := by
  obtain ⟨i0, hi0, hz0, hz1, hz2⟩ := info_parts infoHd
  have HI := Lib.hid (And.intro hi0 (And.intro hz0 (And.intro hz1 hz2)))
  have HS := Lib.hid (h.out.alloc (.cells #[] 33))
  have HE := Lib.hid (own_empty w 33 w.heap.size (Nat.le_refl _))
  have HB := Lib.hid (below_new w (.cells #[] 33))
  have HLn : Hid ((l.flatMap hdE.f).length = l.length * 2) := flat_length hdE l
  clear hi0 hz0 hz1 hz2
  have hsn := slice_nil
  go_enter Try.func37, Try.ntmps37
  go_wp2_with (at_builtin; refine wpList_append_lies _ (by rfl) _ _ _ (by rfl) w.heap.size 33 i0 _ 2 8 Try.underlying29 HI.out.1 HI.out.2.1 HI.out.2.2.1 HI.out.2.2.2 (by rfl) (by omega) _ 0 [] (by rfl) HE.out ⟨b, 0, none⟩ l.length cp (l.flatMap hdE.f) (by rfl) HLn.out (by have := Rwp.cells_from HS.out 0 (Nat.zero_le _); rw [Nat.zero_mul] at this; exact this) (flat_one hdE _) hl (by unfold maxLen; omega) (by omega) (by simp) _ rfl ?_; intro g3 cp3 w3 hO3 hg3 hat3 hlt3)
  have HR : Hid (Own hdE 33 w.heap.size (.slice (some ⟨g3, 0, none⟩) l.length cp3) l w3 ∧ Below w.heap.size w w3) := by
    rw [Nat.zero_add] at hO3
    exact ⟨hO3, HB.out.grown hg3 (by simp) (fun k hk => by have := (HE.out.lt hk).1; omega)⟩
  clear hO3 hg3 hat3 hlt3
  go_ret
  exact ⟨⟨g3, cp3, by first | rfl | (rw [Nat.zero_add]), HR.out.1⟩, HR.out.2⟩
/-- slices.Clone of a row of handles: a row of the call's own, in new blocks. -/
theorem clone_any (B : Nat) (v : Value) (l : List Hd) (w : World) (h : Own hdE 33 B v l w) (hn : l.length ≤ 1000000) :
    Calls Try.prog 37 #[v] w fun e w' => ∃ v', e = .returned v' ∧ Own hdE 33 w.heap.size v' l w' ∧ Below w.heap.size w w' := by
  by_cases hl : l = []
  · subst hl
    rcases h.2 with ⟨rfl, _⟩ | ⟨b, cp, cur, rfl, _⟩
    · refine (clone_nil w).mono ?_
      rintro e w' ⟨rfl, rfl⟩
      exact ⟨_, rfl, Own.nil _ _, Below.refl _ _⟩
    · refine (clone_empty b cp w).mono ?_
      rintro e w' ⟨rfl, rfl⟩
      exact ⟨_, rfl, own_empty w _ _ (Nat.le_refl _), below_new w _⟩
  · obtain ⟨b, cp, cur, rfl, _⟩ := Own.some h hl
    refine (clone_some B b cp l w h (List.length_pos_iff.2 hl) hn).mono ?_
    rintro e w' ⟨⟨g, c, rfl, hO⟩, hb⟩
    exact ⟨_, rfl, hO, hb⟩
end Go.Proofs.Ytijlnlcjlkanaaa.Suc
