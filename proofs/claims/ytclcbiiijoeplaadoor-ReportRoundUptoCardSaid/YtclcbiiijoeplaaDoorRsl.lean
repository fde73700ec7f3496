/- Those who sleep, in memory; to whom one leads. -/
import Derived.Test.YtclcbiiijoeplaaDoorRwo
import Derived.Test.YtclcbiiijoeplaaDoorRcy
import Derived.WalkKit
import Derived.Lib.Hide
import Derived.Outline
import Derived.Below
import Derived.Laws.Rows
set_option linter.unusedVariables false
namespace Go.Proofs.YtclcbiiijoeplaaDoor.Rsl
open Go.RowKit Rwo Rcy

structure As where
  ws : Int
  wg : Int
  ser : Int
  on : Int
  ra : Option Addr
  rn : Nat
  rc : Nat
  hs : Int
  hg : Int
def as0 : As := ⟨0, 0, 0, 0, none, 0, 0, 0, 0⟩
abbrev As.row (t : As) : Array Value := #[.int .u32 t.ws, .int .u32 t.wg, .int .i64 t.ser, .int .i64 t.on, .slice t.ra t.rn t.rc, .int .u32 t.hs, .int .u32 t.hg]
abbrev As.val (t : As) : Value := .agg t.row
def asE : Enc As where
  z := 7
  f t := [.int .u32 t.ws, .int .u32 t.wg, .int .i64 t.ser, .int .i64 t.on, .slice t.ra t.rn t.rc, .int .u32 t.hs, .int .u32 t.hg]
  d := as0
  len _ := rfl
  pos := by decide
  one x u h := by
    simp only [List.mem_cons, List.not_mem_nil, or_false] at h
    rcases h with rfl | rfl | rfl | rfl | rfl | rfl | rfl <;> rfl
structure AsAt (w : World) (b o : Nat) (t : As) : Prop where
  c0 : w.cell? ⟨b, o, none⟩ = some (.int .u32 t.ws)
  c1 : w.cell? ⟨b, o + 1, none⟩ = some (.int .u32 t.wg)
  c2 : w.cell? ⟨b, o + 2, none⟩ = some (.int .i64 t.ser)
  c3 : w.cell? ⟨b, o + 3, none⟩ = some (.int .i64 t.on)
  c4 : w.cell? ⟨b, o + 4, none⟩ = some (.slice t.ra t.rn t.rc)
  c5 : w.cell? ⟨b, o + 5, none⟩ = some (.int .u32 t.hs)
  c6 : w.cell? ⟨b, o + 6, none⟩ = some (.int .u32 t.hg)
def Ass (w : World) (b o : Nat) (l : List As) : Prop := ∀ j, j < l.length → AsAt w b (o + j * 7) (l.getD j as0)
theorem AsAt.below {w w' : World} {b o : Nat} {t : As} {B : Nat} (h : AsAt w b o t) (hb : Below B w w') (hB : b < B) : AsAt w' b o t :=
  ⟨(hb.cell (p := ⟨b, o, none⟩) hB).trans h.c0, (hb.cell (p := ⟨b, o + 1, none⟩) hB).trans h.c1, (hb.cell (p := ⟨b, o + 2, none⟩) hB).trans h.c2, (hb.cell (p := ⟨b, o + 3, none⟩) hB).trans h.c3,
   (hb.cell (p := ⟨b, o + 4, none⟩) hB).trans h.c4, (hb.cell (p := ⟨b, o + 5, none⟩) hB).trans h.c5, (hb.cell (p := ⟨b, o + 6, none⟩) hB).trans h.c6⟩
theorem Ass.below {w w' : World} {b o : Nat} {l : List As} {B : Nat} (h : Ass w b o l) (hb : Below B w w') (hB : b < B) : Ass w' b o l := fun j hj => (h j hj).below hb hB
/-- A list of sleepers as a value. -/
def Lies (w : World) (v : Value) (l : List As) : Prop :=
  (l = [] ∧ ∃ x c, v = .slice x 0 c) ∨ ∃ b o c, v = .slice (some ⟨b, o, none⟩) l.length c ∧ b < w.heap.size ∧ Ass w b o l
theorem Lies.below {w w' : World} {v : Value} {l : List As} (h : Lies w v l) (hb : Below w.heap.size w w') : Lies w' v l := by
  rcases h with h | ⟨b, o, c, rfl, h1, h2⟩
  · exact .inl h
  · exact .inr ⟨b, o, c, rfl, Nat.lt_of_lt_of_le h1 hb.size, h2.below hb h1⟩
theorem lies_own {B : Nat} {v : Value} {l : List As} {w : World} (h : Own asE 52 B v l w) : Lies w v l := by
  by_cases hl : l = []
  · obtain ⟨A, c, rfl⟩ := h.shape
    subst hl
    exact .inl ⟨rfl, A, c, rfl⟩
  · obtain ⟨g, cap, cur, rfl, h0, h1, h2, h3⟩ := h.some hl
    refine .inr ⟨g, 0, cap, rfl, h2, fun j hj => ?_⟩
    have e : ∀ i, i < 7 → w.cell? ⟨g, 0 + j * 7 + i, none⟩ = (asE.f (l.getD j as0))[i]? := by
      intro i hi
      rw [Nat.zero_add]
      exact Own.cell h j i hj hi
    exact ⟨e 0 (by omega), e 1 (by omega), e 2 (by omega), e 3 (by omega), e 4 (by omega), e 5 (by omega), e 6 (by omega)⟩
/-! ### To whom one leads -/
def isW (t : As) (s g : Int) : Bool := t.ws == s && t.wg == g
/-- The first one with this handle. -/
def firstOf (l : List As) (s g : Int) : Option Nat := l.findIdx? fun t => isW t s g
/-- To which place place i leads. -/
def leadsF (l : List As) (i : Nat) : Option Nat :=
  match l[i]? with
  | none => none
  | some t => if t.on = 7 ∧ ¬ (t.hs = 0 ∧ t.hg = 0) ∧ firstOf l t.ws t.wg = some i then firstOf l t.hs t.hg else none
def oi : Option Nat → Int
  | some k => k
  | none => -1
theorem first_some {l : List As} {s g : Int} {k : Nat} (hk : k < l.length) (h : isW (l.getD k as0) s g = true) (hno : ∀ j, j < k → isW (l.getD j as0) s g = false) : firstOf l s g = some k := by
  unfold firstOf
  rw [List.findIdx?_eq_some_iff_getElem]
  have e : ∀ j (hj : j < l.length), l.getD j as0 = l[j] := fun j hj => by simp [List.getD_eq_getElem?_getD, hj]
  refine ⟨hk, by rw [← e k hk]; exact h, fun j hj => ?_⟩
  have := hno j hj
  rw [e j (by omega)] at this
  rw [this]; decide
theorem first_none {l : List As} {s g : Int} (hno : ∀ j, j < l.length → isW (l.getD j as0) s g = false) : firstOf l s g = none := by
  unfold firstOf
  rw [List.findIdx?_eq_none_iff]
  intro x hx
  obtain ⟨j, hj, rfl⟩ := List.getElem_of_mem hx
  have := hno j hj
  rwa [show l.getD j as0 = l[j] by simp [List.getD_eq_getElem?_getD, hj]] at this
theorem first_lt {l : List As} {s g : Int} {k : Nat} (h : firstOf l s g = some k) : k < l.length := by
  unfold firstOf at h
  rw [List.findIdx?_eq_some_iff_getElem] at h
  exact h.1
theorem first_is {l : List As} {s g : Int} {k : Nat} (h : firstOf l s g = some k) : isW (l.getD k as0) s g = true ∧ ∀ j, j < k → isW (l.getD j as0) s g = false := by
  have hk := first_lt h
  unfold firstOf at h
  rw [List.findIdx?_eq_some_iff_getElem] at h
  obtain ⟨h1, h2, h3⟩ := h
  refine ⟨by simpa [List.getD_eq_getElem?_getD, h1] using h2, fun j hj => ?_⟩
  have := h3 j hj
  have hjl : j < l.length := by omega
  simpa [List.getD_eq_getElem?_getD, hjl] using this
theorem leads_within (l : List As) : Within (leadsF l) l.length := by
  intro a b h
  unfold leadsF at h
  split at h
  · cases h
  · split at h
    · exact first_lt h
    · cases h
theorem leads_at {l : List As} {i : Nat} (hi : i < l.length) {t : As} (ht : l.getD i as0 = t) :
    leadsF l i = if t.on = 7 ∧ ¬ (t.hs = 0 ∧ t.hg = 0) ∧ firstOf l t.ws t.wg = some i then firstOf l t.hs t.hg else none := by
  have : l[i]? = some t := by
    rw [List.getElem?_eq_getElem hi, ← ht]; simp [List.getD_eq_getElem?_getD, hi]
  unfold leadsF; rw [this]
theorem eqH (a b c d : Int) (w : World) : (binOp .eql 49 (.agg #[.int .u32 a, .int .u32 b]) (.agg #[.int .u32 c, .int .u32 d])).run Tryd.prog w = .ok (.bool (a == c && b == d)) w := by
  by_cases h1 : a = c <;> by_cases h2 : b = d <;> simp [go_sem, h1, h2]
end Go.Proofs.YtclcbiiijoeplaaDoor.Rsl
