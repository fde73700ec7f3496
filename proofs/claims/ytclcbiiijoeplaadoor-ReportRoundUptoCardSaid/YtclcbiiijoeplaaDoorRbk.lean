/- Rows of who is blocked, in memory. -/
import Derived.Test.YtclcbiiijoeplaaDoorRpl
import Derived.Test.YtclcbiiijoeplaaDoorRwo
import Derived.WalkKit
import Derived.Lib.Hide
import Derived.Outline
import Derived.Below
import Derived.Laws.Rows
set_option linter.unusedVariables false
namespace Go.Proofs.YtclcbiiijoeplaaDoor.Rbk
open Go.RowKit Rpl Rwo

def bk0 : Bk := ⟨0, 0, ⟨#[]⟩, 0⟩
def bkE : Enc Bk where
  z := 4
  f b := [.int .i64 b.ser, .int .i64 b.lin, .string b.fn, .int .i64 b.on]
  d := bk0
  len _ := rfl
  pos := by decide
  one x u h := by
    simp only [List.mem_cons, List.not_mem_nil, or_false] at h
    rcases h with rfl | rfl | rfl | rfl <;> rfl
/-- Where a row lies. -/
structure BkAt (w : World) (b o : Nat) (t : Bk) : Prop where
  c0 : w.cell? ⟨b, o, none⟩ = some (.int .i64 t.ser)
  c1 : w.cell? ⟨b, o + 1, none⟩ = some (.int .i64 t.lin)
  c2 : w.cell? ⟨b, o + 2, none⟩ = some (.string t.fn)
  c3 : w.cell? ⟨b, o + 3, none⟩ = some (.int .i64 t.on)
def Bks (w : World) (b o : Nat) (l : List Bk) : Prop := ∀ j, j < l.length → BkAt w b (o + j * 4) (l.getD j bk0)
theorem BkAt.below {w w' : World} {b o : Nat} {t : Bk} {B : Nat} (h : BkAt w b o t) (hb : Below B w w') (hB : b < B) : BkAt w' b o t :=
  ⟨(hb.cell (p := ⟨b, o, none⟩) hB).trans h.c0, (hb.cell (p := ⟨b, o + 1, none⟩) hB).trans h.c1, (hb.cell (p := ⟨b, o + 2, none⟩) hB).trans h.c2, (hb.cell (p := ⟨b, o + 3, none⟩) hB).trans h.c3⟩
theorem Bks.below {w w' : World} {b o : Nat} {l : List Bk} {B : Nat} (h : Bks w b o l) (hb : Below B w w') (hB : b < B) : Bks w' b o l := fun j hj => (h j hj).below hb hB
/-- A list of rows as a value. -/
def Lies (w : World) (v : Value) (l : List Bk) : Prop :=
  (l = [] ∧ ∃ x c, v = .slice x 0 c) ∨ ∃ b o c, v = .slice (some ⟨b, o, none⟩) l.length c ∧ b < w.heap.size ∧ Bks w b o l
theorem Lies.below {w w' : World} {v : Value} {l : List Bk} (h : Lies w v l) (hb : Below w.heap.size w w') : Lies w' v l := by
  rcases h with h | ⟨b, o, c, rfl, h1, h2⟩
  · exact .inl h
  · exact .inr ⟨b, o, c, rfl, Nat.lt_of_lt_of_le h1 hb.size, h2.below hb h1⟩
theorem lies_own {B : Nat} {v : Value} {l : List Bk} {w : World} (h : Own bkE 33 B v l w) : Lies w v l := by
  by_cases hl : l = []
  · obtain ⟨A, c, rfl⟩ := h.shape
    subst hl
    exact .inl ⟨rfl, A, c, rfl⟩
  · obtain ⟨g, cap, cur, rfl, h0, h1, h2, h3⟩ := h.some hl
    refine .inr ⟨g, 0, cap, rfl, h2, fun j hj => ?_⟩
    have e : ∀ i, i < 4 → w.cell? ⟨g, 0 + j * 4 + i, none⟩ = (bkE.f (l.getD j bk0))[i]? := by
      intro i hi
      rw [Nat.zero_add]
      exact Own.cell h j i hj hi
    exact ⟨e 0 (by omega), e 1 (by omega), e 2 (by omega), e 3 (by omega)⟩
end Go.Proofs.YtclcbiiijoeplaaDoor.Rbk
