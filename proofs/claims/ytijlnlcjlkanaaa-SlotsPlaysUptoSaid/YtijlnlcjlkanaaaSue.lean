/- drowseref10.Table: in memory; New, find, Get, Set, Free, Serial, Count. -/
import Derived.Test.YtijlnlcjlkanaaaStn
import Derived.Test.YtijlnlcjlkanaaaStq
set_option linter.unusedVariables false
namespace Go.Proofs.Ytijlnlcjlkanaaa.Sue
open Go.RowKit Rwo Sta Stb Stc Stg Ste Stl Stn

/-- A thing of the document's table. -/
structure Th where
  h : Hd
  x : Int
  gone : Bool
def thE : Enc Th where
  z := 4
  f t := [.int .u32 t.h.slot, .int .u32 t.h.gen, .int .i64 t.x, .bool t.gone]
  d := ⟨⟨0, 0⟩, 0, false⟩
  len _ := rfl
  one s u hu := by
    simp only [List.mem_cons, List.not_mem_nil, or_false] at hu
    rcases hu with rfl | rfl | rfl | rfl <;> rfl
  pos := by omega
abbrev th0 : Th := ⟨⟨0, 0⟩, 0, false⟩
/-- The document's table in memory. -/
structure RefAt (g : Nat) (vr : Value) (R : List Th) (most : Nat) (w : World) : Prop where
  blk : w.heap[g]? = some (.cells #[vr, .int .i64 most] 69 (0, 0))
  all : Own thE 102 (g + 1) vr R w
  lt : g < w.heap.size
theorem RefAt.below {g : Nat} {vr : Value} {R : List Th} {most : Nat} {w w' : World} (h : RefAt g vr R most w) (hb : Below w.heap.size w w') : RefAt g vr R most w' :=
  ⟨(hb.block g h.lt).trans h.blk, h.all.below hb (Nat.le_refl _), Nat.lt_of_lt_of_le h.lt hb.size⟩
theorem RefAt.cells {g : Nat} {vr : Value} {R : List Th} {most : Nat} {w : World} (h : RefAt g vr R most w) :
    (w.cell? ⟨g, 0, none⟩ = some vr ∧ w.cell? ⟨g, 1, none⟩ = some (.int .i64 most)) ∧ w.frozen? ⟨g, 0, none⟩ = false := by
  obtain ⟨a, b, c, _⟩ := hd_cells h.blk
  exact ⟨⟨a, b⟩, c⟩
theorem th_cells {g b c n : Nat} {l : List Th} {w : World} (h : Own thE 102 g (.slice (some ⟨b, 0, none⟩) n c) l w) (j : Nat) (hj : j < l.length) {s : Th} (hs : l.getD j th0 = s) :
    w.cell? ⟨b, j * 4, none⟩ = some (.int .u32 s.h.slot) ∧ w.cell? ⟨b, j * 4 + 1, none⟩ = some (.int .u32 s.h.gen) ∧ w.cell? ⟨b, j * 4 + 2, none⟩ = some (.int .i64 s.x) ∧ w.cell? ⟨b, j * 4 + 3, none⟩ = some (.bool s.gone) := by
  subst hs
  exact ⟨h.cell j 0 hj (by show 0 < 4; omega), h.cell j 1 hj (by show 1 < 4; omega), h.cell j 2 hj (by show 2 < 4; omega), h.cell j 3 hj (by show 3 < 4; omega)⟩
theorem infoTh : (Try.prog.info? 102).map (fun i => (i.zero, i.size, i.bytes)) = some (some (.agg #[.int .u32 0, .int .u32 0, .int .i64 0, .bool false]), 4, 24) := by kernel_rfl
/-- Is it this one's, and not gone? -/
def isIt (h : Hd) (s : Th) : Bool := decide (s.h = h) && !s.gone
/-- The place of the thing of a handle that lives. -/
def findR (R : List Th) (h : Hd) : Option Nat := R.findIdx? (isIt h)
theorem find_some {R : List Th} {h : Hd} {i : Nat} (k : findR R h = some i) : i < R.length ∧ isIt h (R.getD i th0) = true ∧ ∀ j, j < i → isIt h (R.getD j th0) = false := by
  unfold findR at k
  obtain ⟨hi, h1, h2⟩ := List.findIdx?_eq_some_iff_getElem.1 k
  refine ⟨hi, ?_, fun j hj => ?_⟩
  · rw [List.getD_eq_getElem?_getD, List.getElem?_eq_getElem hi]; exact h1
  · rw [List.getD_eq_getElem?_getD, List.getElem?_eq_getElem (by omega)]
    simpa using h2 j hj
theorem find_none {R : List Th} {h : Hd} (k : findR R h = none) : ∀ j, j < R.length → isIt h (R.getD j th0) = false := by
  unfold findR at k
  rw [List.findIdx?_eq_none_iff] at k
  intro j hj
  rw [List.getD_eq_getElem?_getD, List.getElem?_eq_getElem hj]
  exact k _ (List.getElem_mem hj)
theorem isIt_no {a b : Nat} {s : Th} (h : isIt ⟨a, b⟩ s = false) : ((s.h.slot : Int) == (a : Int)) = false ∨ (((s.h.slot : Int) == (a : Int)) = true ∧ ((s.h.gen : Int) == (b : Int)) = false) ∨ ((((s.h.slot : Int) == (a : Int)) = true ∧ ((s.h.gen : Int) == (b : Int)) = true) ∧ s.gone = true) := by
  cases e1 : ((s.h.slot : Int) == (a : Int)) with
  | false => exact .inl rfl
  | true =>
    cases e2 : ((s.h.gen : Int) == (b : Int)) with
    | false => exact .inr (.inl ⟨rfl, rfl⟩)
    | true =>
      have h1 := eq_of_beq e1
      have h2 := eq_of_beq e2
      refine .inr (.inr ⟨⟨rfl, rfl⟩, ?_⟩)
      unfold isIt at h
      have : s.h = ⟨a, b⟩ := by
        obtain ⟨⟨p, q⟩, _, _⟩ := s
        simp only at h1 h2 ⊢
        simp only [Hd.mk.injEq]; omega
      rw [decide_eq_true this] at h
      simpa using h
theorem isIt_yes {a b : Nat} {s : Th} (h : isIt ⟨a, b⟩ s = true) : s.h = ⟨a, b⟩ ∧ s.gone = false := by
  unfold isIt at h
  simpa using h
set_option maxHeartbeats 4000000 in
set_option maxRecDepth 100000 in
theorem find_yes (g : Nat) (vr : Value) (R : List Th) (most a b i : Nat) (w : World) (h : Hid (RefAt g vr R most w)) (hn : R.length ≤ 1000000) (hf : Hid (findR R ⟨a, b⟩ = some i)) :
    Calls Try.prog 47 #[.pointer (some ⟨g, 0, none⟩), .agg #[.int .u32 a, .int .u32 b]] w fun e w' => e = .returned (.int .i64 i) ∧ Below w.heap.size w w' := by
  obtain ⟨hi, hy, hno⟩ := find_some hf.out
  have HY := Lib.hid (isIt_yes hy)
  have HNO := Lib.hid hno
  obtain ⟨⟨c0, c1⟩, _⟩ := h.out.cells
  obtain ⟨br, cr, _, rfl, _, _, hbr, _⟩ := Own.some h.out.all (by intro e; rw [e, List.length_nil] at hi; omega)
  have hlt := h.out.lt
  have HB := Lib.hid ((Below.refl w.heap.size w).alloc (Nat.le_refl _) (.cells #[.int .u32 a, .int .u32 b] 33))
  clear hy hno
  go_enter Try.func47, Try.ntmps47
  go_wp2
  go_loopw [5] (fun u wr => ∃ k q : Nat, k ≤ i ∧ u = .int .i64 k ∧ wr = (w.alloc (.cells #[.int .u32 a, .int .u32 b] 33)).drewN q) (fun u _ => i + 1 - (intOf u).toNat)
  case atStart => exact ⟨0, 0, Nat.zero_le _, rfl, rfl⟩
  case round =>
    obtain ⟨k, q, hk, rfl, rfl⟩ := hrel
    have hkl : k < R.length := by omega
    obtain ⟨s, hsl⟩ : ∃ s, R.getD k th0 = s := ⟨_, rfl⟩
    obtain ⟨d0, d1, d2, d3⟩ := th_cells h.out.all k hkl hsl
    have hne : w.heap.size ≠ br := by omega
    by_cases hki : k < i
    · have hno := isIt_no (HNO.out k hki)
      rw [hsl] at hno
      clear hsl
      rcases hno with e1 | ⟨e1, e2⟩ | ⟨⟨e1, e2⟩, e3⟩
      all_goals
        go_wp2_with fail
        go_quiet (fail)
        go_wp2
        go_roundw
        case rel => exact ⟨k + 1, _, by omega, by go_num, rfl⟩
        case measure => simp [intOf]; omega
    · have hke : k = i := by omega
      subst hke
      have hy := HY.out
      rw [hsl] at hy
      obtain ⟨y1, y2⟩ := hy
      clear hsl
      rw [y1] at d0 d1
      rw [y2] at d3
      go_wp2_with fail
      go_quiet (fail)
      go_wp2
      go_ret
      exact ⟨rfl, by first | exact below_drewN_up HB.out _ | exact below_drewN_up (below_drewN_up HB.out _) _⟩
set_option maxHeartbeats 4000000 in
set_option maxRecDepth 100000 in
theorem find_no (g : Nat) (vr : Value) (R : List Th) (most a b : Nat) (w : World) (h : Hid (RefAt g vr R most w)) (hn : R.length ≤ 1000000) (hf : Hid (findR R ⟨a, b⟩ = none)) :
    Calls Try.prog 47 #[.pointer (some ⟨g, 0, none⟩), .agg #[.int .u32 a, .int .u32 b]] w fun e w' => e = .returned (.int .i64 (-1)) ∧ Below w.heap.size w w' := by
  have HNO := Lib.hid (find_none hf.out)
  obtain ⟨⟨c0, c1⟩, _⟩ := h.out.cells
  obtain ⟨A1, k1, rfl⟩ := Own.shape h.out.all
  have hlt := h.out.lt
  have HB := Lib.hid ((Below.refl w.heap.size w).alloc (Nat.le_refl _) (.cells #[.int .u32 a, .int .u32 b] 33))
  go_enter Try.func47, Try.ntmps47
  go_wp2
  go_loopw [5] (fun u wr => ∃ k q : Nat, k ≤ R.length ∧ u = .int .i64 k ∧ wr = (w.alloc (.cells #[.int .u32 a, .int .u32 b] 33)).drewN q) (fun u _ => R.length - (intOf u).toNat)
  case atStart => exact ⟨0, 0, Nat.zero_le _, rfl, rfl⟩
  case round =>
    obtain ⟨k, q, hk, rfl, rfl⟩ := hrel
    by_cases hkl : k < R.length
    · obtain ⟨br, cr, _, hv, _, _, hbr, _⟩ := Own.some h.out.all (by intro e; rw [e, List.length_nil] at hkl; omega)
      simp only [Value.slice.injEq] at hv
      obtain ⟨rfl, _, rfl⟩ := hv
      obtain ⟨s, hsl⟩ : ∃ s, R.getD k th0 = s := ⟨_, rfl⟩
      obtain ⟨d0, d1, d2, d3⟩ := th_cells h.out.all k hkl hsl
      have hne : w.heap.size ≠ br := by omega
      have hno := isIt_no (HNO.out k hkl)
      rw [hsl] at hno
      clear hsl
      rcases hno with e1 | ⟨e1, e2⟩ | ⟨⟨e1, e2⟩, e3⟩
      all_goals
        go_wp2_with fail
        go_quiet (fail)
        go_wp2
        go_roundw
        case rel => exact ⟨k + 1, _, by omega, by go_num, rfl⟩
        case measure => simp [intOf]; omega
    · go_wp2
      go_ret
      exact ⟨rfl, by first | exact HB.out | exact below_drewN_up HB.out _⟩
end Go.Proofs.Ytijlnlcjlkanaaa.Sue
