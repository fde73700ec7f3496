/- (*drowselaw10.pair).all: its first loop. -/
import Derived.Test.YtijlnlcjlkanaaaSul
import Derived.Test.YtijlnlcjlkanaaaRng
set_option linter.unusedVariables false
namespace Go.Proofs.Ytijlnlcjlkanaaa.Smm
open Go.RowKit Go.Shelf Sta Stb Stc Stg Ste Stl Stn Sue Suf Sug Suj Suk Sud Sul

/-- Is what has come the beginning of what should? -/
def okv (T pre : List (Hd × Int)) : Bool := decide (T.take pre.length = pre)
theorem okv_nil (T : List (Hd × Int)) : okv T [] = true := by unfold okv; simp
theorem okv_all (T : List (Hd × Int)) : okv T T = true := by unfold okv; simp
theorem okv_pre {T pre : List (Hd × Int)} (h : pre <+: T) : okv T pre = true := by
  unfold okv
  exact decide_eq_true (List.prefix_iff_eq_take.1 h).symm
theorem okv_succ {T pre : List (Hd × Int)} {x y : Hd × Int} (hn : pre.length < T.length) (hy : T[pre.length] = y) : okv T (pre ++ [x]) = (okv T pre && decide (y = x)) := by
  unfold okv
  rw [Bool.eq_iff_iff]
  simp only [decide_eq_true_eq, Bool.and_eq_true, List.length_append, List.length_cons, List.length_nil]
  rw [List.take_succ_eq_append_getElem hn, hy]
  constructor
  · intro h
    have := List.append_inj h (by rw [List.length_take]; omega)
    exact ⟨this.1, by simpa using this.2⟩
  · rintro ⟨h1, h2⟩
    rw [h1, h2]
theorem ok_ne {T pre : List (Hd × Int)} {x : Hd × Int} {s : Th} (hn : pre.length < T.length) (hy : T[pre.length] = (s.h, s.x)) :
    (okv T pre = false ∧ okv T (pre ++ [x]) = false) ∨
    (okv T pre = true ∧ ((x.1.slot : Int) == (s.h.slot : Int)) = false ∧ okv T (pre ++ [x]) = false) ∨
    (okv T pre = true ∧ ((x.1.slot : Int) == (s.h.slot : Int)) = true ∧ ((x.1.gen : Int) == (s.h.gen : Int)) = false ∧ okv T (pre ++ [x]) = false) ∨
    (okv T pre = true ∧ ((x.1.slot : Int) == (s.h.slot : Int)) = true ∧ ((x.1.gen : Int) == (s.h.gen : Int)) = true ∧ okv T (pre ++ [x]) = (x.2 == s.x)) := by
  have hs := okv_succ (x := x) hn hy
  obtain ⟨⟨a, b⟩, c⟩ := x
  cases h : okv T pre with
  | false => rw [h] at hs; exact .inl ⟨rfl, hs⟩
  | true =>
    rw [h, Bool.true_and] at hs
    cases e1 : ((a : Int) == (s.h.slot : Int)) with
    | false =>
      refine .inr (.inl ⟨rfl, rfl, ?_⟩)
      rw [hs, decide_eq_false_iff_not]
      intro e
      have : s.h.slot = a := by rw [Prod.mk.injEq] at e; rw [e.1]
      rw [this] at e1
      simp at e1
    | true =>
      have h1 := eq_of_beq e1
      cases e2 : ((b : Int) == (s.h.gen : Int)) with
      | false =>
        refine .inr (.inr (.inl ⟨rfl, rfl, rfl, ?_⟩))
        rw [hs, decide_eq_false_iff_not]
        intro e
        have : s.h.gen = b := by rw [Prod.mk.injEq] at e; rw [e.1]
        rw [this] at e2
        simp at e2
      | true =>
        have h2 := eq_of_beq e2
        refine .inr (.inr (.inr ⟨rfl, rfl, rfl, ?_⟩))
        rw [hs]
        have hh : s.h = ⟨a, b⟩ := by
          obtain ⟨⟨p, q⟩, _, _⟩ := s
          simp only at h1 h2 ⊢
          simp only [Hd.mk.injEq]; omega
        rw [hh]
        by_cases e : s.x = c
        · rw [e, decide_eq_true rfl]; simp
        · rw [decide_eq_false (fun ee => e (Prod.mk.inj ee).2)]
          exact (beq_eq_false_iff_ne.2 (fun ee => e ee.symm)).symm
theorem kept_alloc {B : Nat} (W : World) (o : Obj) : Kept B W (W.alloc o) := ⟨by rw [alloc_size]; exact Nat.le_succ _, fun b p _ hp _ => ((Sug.below_new W o).block b (Array.getElem?_eq_some_iff.1 hp).1).trans hp⟩
/-- Two boxes are written: what is then known. -/
structure Wrote (B : Nat) (W7 : World) (b7 b8 : Nat) (v u : Value) (T U : TypeId) (W W' : World) : Prop where
  below : Below W7.heap.size W7 W'
  n : Boxed W' b7 T v
  ok : Boxed W' b8 U u
  from_ : KeepsFrom B W W'
  kept : Kept B W W'
theorem boxed_set {W : World} {b : Nat} {T : TypeId} {v u : Value} (h : Boxed W b T v) : Boxed (W.setCell ⟨b, 0, none⟩ u) b T u := heap_setCell_same W b 0 #[v] T u h
theorem boxed_other {W : World} {b c : Nat} {T : TypeId} {v u : Value} (h : Boxed W b T v) (hbc : b ≠ c) : Boxed (W.setCell ⟨c, 0, none⟩ u) b T v := (sc_other hbc).trans h
theorem kept_set {B : Nat} {W : World} {b : Nat} {u : Value} (hb : b < B) : Kept B W (W.setCell ⟨b, 0, none⟩ u) :=
  ⟨by have := ((Below.refl 0 W).setCell (p := ⟨b, 0, none⟩) (Nat.zero_le _) u).size; exact this, fun c o hc ho _ => (sc_other (by omega)).trans ho⟩
theorem wrote_two {B : Nat} {W7 W : World} {b7 b8 : Nat} {v0 u0 v u : Value} {T U : TypeId} (hb : Below W7.heap.size W7 W) (h7 : Boxed W b7 T v0) (h8 : Boxed W b8 U u0) (hne : b7 ≠ b8) (n7 : W7.heap.size ≤ b7) (n8 : W7.heap.size ≤ b8) (B7 : b7 < B) (B8 : b8 < B) :
    Wrote B W7 b7 b8 v u T U W ((W.setCell ⟨b8, 0, none⟩ u).setCell ⟨b7, 0, none⟩ v).drew := by
  refine ⟨?_, ?_, ?_, ?_, ?_⟩
  · exact ((hb.setCell (p := ⟨b8, 0, none⟩) n8 u).setCell (p := ⟨b7, 0, none⟩) n7 v).drew
  · exact boxed_set (v := v0) (boxed_other (W := W) h7 hne)
  · exact boxed_other (boxed_set (W := W) (v := u0) h8) (fun e => hne e.symm)
  · exact (((KeepsOthers.setCell W _ _).trans (KeepsOthers.setCell _ _ _)).trans (KeepsOthers.drew _)).from _
  · exact kept_t (kept_t (kept_set B8) (kept_set B7)) ⟨Nat.le_refl _, fun _ _ _ h _ => h⟩
/-- What the first loop keeps. -/
structure I1 (W7 : World) (T : List (Hd × Int)) (early : Int) (pre : List (Hd × Int)) (W : World) : Prop where
  below : Below W7.heap.size W7 W
  n : Boxed W W7.heap.size 3 (.int .i64 (pre.length : Nat))
  ok : Boxed W (W7.heap.size + 1) 4 (.bool (okv T pre))
theorem i1_own (W7 : World) (T : List (Hd × Int)) (early : Int) (B : Nat) (hB : W7.heap.size ≤ B) : OwnFrom B (I1 W7 T early) := by
  intro s W W' row h hg hr
  have hr' : ∀ r, row = some r → ∃ o : Obj, W.heap[r]? = some o ∧ o.isCells = false := fun r e => (hr r e).2
  refine ⟨(ownFrom_below (β := List (Hd × Int)) (Nat.le_refl _) hB) s W W' row h.below hg hr, ?_, ?_⟩
  · refine h.n.kept hg (fun e => ?_)
    obtain ⟨o, ho, hc⟩ := hr' _ e.symm
    have := h.n
    unfold Boxed at this
    rw [this] at ho; cases ho; cases hc
  · refine h.ok.kept hg (fun e => ?_)
    obtain ⟨o, ho, hc⟩ := hr' _ e.symm
    have := h.ok
    unfold Boxed at this
    rw [this] at ho; cases ho; cases hc
end Go.Proofs.Ytijlnlcjlkanaaa.Smm
