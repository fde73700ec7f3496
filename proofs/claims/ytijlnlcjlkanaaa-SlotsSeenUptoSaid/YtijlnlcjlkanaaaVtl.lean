/- (*slots.Table[int]).Take, in one; what a table's numbers keep. -/
import Derived.Test.YtijlnlcjlkanaaaVtk
set_option linter.unusedVariables false
namespace Go.Proofs.Ytijlnlcjlkanaaa.Vtl
open Sta (Hd hdE Step below_drewN below_drewN_up blk_cells)
open Go.RowKit Rwo Vta Vtb Vtc Vtd Vtg Vte Rwp Sti Vtj Vtk

theorem small_wider {t : Tab} (h : Small t) (hl : t.sl.length < t.most) : Small (wider t) where
  len := by show (t.sl ++ [_]).length ≤ _; rw [List.length_append]; exact hl
  most := h.most
  count := h.count
  born := h.born
  ord := h.ord
  gen s hs := by
    rcases List.mem_append.1 hs with h1 | h1
    · exact h.gen s h1
    · rw [List.mem_singleton.1 h1]; exact ⟨Nat.zero_le _, Nat.zero_le _⟩
theorem free_some {l : List Sl} {i : Nat} (h : firstFree l = some i) : i < l.length ∧ (l.getD i ⟨0, 0, th0⟩).ser = 0 ∧ ∀ j, j < i → (l.getD j ⟨0, 0, th0⟩).ser ≠ 0 := by
  unfold firstFree at h
  obtain ⟨hi, h1, h2⟩ := List.findIdx?_eq_some_iff_getElem.1 h
  refine ⟨hi, ?_, fun j hj => ?_⟩
  · rw [List.getD_eq_getElem?_getD, List.getElem?_eq_getElem hi]
    simpa using h1
  · rw [List.getD_eq_getElem?_getD, List.getElem?_eq_getElem (by omega)]
    simpa using h2 j hj
theorem free_none {l : List Sl} (h : firstFree l = none) : ∀ j, j < l.length → (l.getD j ⟨0, 0, th0⟩).ser ≠ 0 := by
  unfold firstFree at h
  rw [List.findIdx?_eq_none_iff] at h
  intro j hj
  rw [List.getD_eq_getElem?_getD, List.getElem?_eq_getElem hj]
  simpa using h _ (List.getElem_mem hj)
/-- The slot that Take takes, and the table with it. -/
def room (t : Tab) : Option (Tab × Nat) :=
  match firstFree t.sl with
  | some i => some (t, i)
  | none => if t.sl.length < t.most then some (wider t, t.sl.length) else none
/-- What Take does. -/
def takeT (t : Tab) (x : Th) : Option (Tab × Hd) := (room t).map fun p => (laidIn p.1 p.2 x, ⟨p.2 + 1, (p.1.sl.getD p.2 ⟨0, 0, th0⟩).gen + 1⟩)
theorem take_ok (g : Nat) (vs vo : Value) (t : Tab) (x : Th) (w : World) (h : TabAt g vs vo t w) (hs : Small t) {t' : Tab} {y : Hd} (hk : takeT t x = some (t', y)) :
    Calls Try.prog 18 #[.pointer (some ⟨g, 0, none⟩), x.val] w fun e w' => e = .returned (.tuple #[.agg #[.int .u32 y.slot, .int .u32 y.gen], .int .i64 0]) ∧ ∃ vs' vo', TabAt g vs' vo' t' w' ∧ Step g vs vo vs' vo' w w' := by
  unfold takeT room at hk
  cases hf : firstFree t.sl with
  | some i =>
    rw [hf] at hk
    simp only [Option.map_some, Option.some.injEq, Prod.mk.injEq] at hk
    obtain ⟨rfl, rfl⟩ := hk
    obtain ⟨hi, h0, hb⟩ := free_some hf
    refine take_in g vs vo t t i x w (Lib.hid h) (Lib.hid hs) hi _ (Lib.hid rfl) (Lib.hid fun W hW => ?_)
    refine (empty_found g vs vo t i W (Lib.hid hW) (Lib.hid hs) hi (Lib.hid h0) (Lib.hid hb)).mono ?_
    rintro e w' ⟨rfl, rfl⟩
    exact ⟨rfl, vs, hW, Step.refl _ _ _ _⟩
  | none =>
    rw [hf] at hk
    have hb := free_none hf
    by_cases hm : t.sl.length < t.most
    · simp only [if_pos hm, Option.map_some, Option.some.injEq, Prod.mk.injEq] at hk
      obtain ⟨rfl, rfl⟩ := hk
      exact take_in g vs vo t (wider t) t.sl.length x w (Lib.hid h) (Lib.hid (small_wider hs hm)) (by show _ < (t.sl ++ [_]).length; rw [List.length_append]; exact Nat.lt_succ_self _) _ (Lib.hid rfl) (Lib.hid fun W hW => empty_more g vs vo t W (Lib.hid hW) (Lib.hid hs) hm (Lib.hid hb))
    · simp only [if_neg hm] at hk; cases hk
/-- Lives the thing of a slot? -/
def occ (s : Sl) : Bool := s.ser != 0
/-- What a table keeps: k: no more were taken ever. -/
structure TabOk (t : Tab) (k : Nat) : Prop where
  len : t.sl.length ≤ t.most
  most : t.most ≤ 500
  born : t.born ≤ k
  ord : t.ord.length = t.count
  count : t.sl.countP occ = t.count
  gen : ∀ s ∈ t.sl, s.gen ≤ k ∧ s.ser ≤ k
  all : ∀ h, lives t h = true → h ∈ t.ord
theorem TabOk.count_le {t : Tab} {k : Nat} (h : TabOk t k) : t.count ≤ t.most := by
  have h1 := h.count
  have h2 := List.countP_le_length (p := occ) (l := t.sl)
  have h3 := h.len
  omega
theorem TabOk.small {t : Tab} {k : Nat} (h : TabOk t k) (hk : k ≤ 1000000) : Small t where
  len := h.len
  most := by have := h.most; omega
  count := by have := h.count_le; have := h.most; omega
  born := by have := h.born; omega
  ord := by have := h.count_le; have := h.most; have := h.ord; omega
  gen s hs := by have := h.gen s hs; omega
theorem TabOk.new (most : Nat) (h : most ≤ 500) : TabOk ⟨[], most, 0, 0, []⟩ 0 where
  len := Nat.zero_le _
  most := h
  born := Nat.le_refl _
  ord := rfl
  count := rfl
  gen s hs := absurd hs (by simp)
  all h hl := by simp [lives] at hl
theorem lives_iff {t : Tab} {h : Hd} : lives t h = true ↔ 1 ≤ h.slot ∧ h.slot ≤ t.sl.length ∧ (t.sl.getD (h.slot - 1) ⟨0, 0, th0⟩).ser ≠ 0 ∧ (t.sl.getD (h.slot - 1) ⟨0, 0, th0⟩).gen = h.gen := by
  unfold lives
  simp only [Bool.and_eq_true, decide_eq_true_eq, and_assoc]
/-- A block that is none of the table's. -/
def Away (g : Nat) (vs vo : Value) (b : Nat) (w : World) : Prop := b < w.heap.size ∧ b ≠ g ∧ vs.ownBlock ≠ some b ∧ vo.ownBlock ≠ some b
theorem Away.step {g b : Nat} {vs vo vs' vo' : Value} {w w' : World} (h : Away g vs vo b w) (k : Step g vs vo vs' vo' w w') : Away g vs' vo' b w' :=
  ⟨Nat.lt_of_lt_of_le h.1 k.size, h.2.1, fun e => (k.nvs b e).elim h.2.2.1 (fun x => by have := h.1; omega), fun e => (k.nvo b e).elim h.2.2.2 (fun x => by have := h.1; omega)⟩
theorem Away.same {g b : Nat} {vs vo vs' vo' : Value} {w w' : World} (h : Away g vs vo b w) (k : Step g vs vo vs' vo' w w') : w'.heap[b]? = w.heap[b]? := k.far b h.1 h.2.1 h.2.2.1 h.2.2.2
theorem Away.grow {g b : Nat} {vs vo : Value} {w w' : World} (h : Away g vs vo b w) (k : w.heap.size ≤ w'.heap.size) : Away g vs vo b w' := ⟨Nat.lt_of_lt_of_le h.1 k, h.2⟩
theorem Away.new {g : Nat} {vs vo : Value} {t : Tab} {w w' : World} (h : TabAt g vs vo t w) (k : w.heap.size < w'.heap.size) : Away g vs vo w.heap.size w' :=
  ⟨k, by have := h.lt; omega, fun e => by have := (h.sl.lt e).2; omega, fun e => by have := (h.ord.lt e).2; omega⟩
/-- A handle of the call's own lies in a block of its own. -/
def Box (g : Nat) (vs vo : Value) (b : Nat) (h : Hd) (w : World) : Prop := Away g vs vo b w ∧ w.heap[b]? = some (.cells #[.int .u32 h.slot, .int .u32 h.gen] 33 (0, 0))
theorem Box.step {g b : Nat} {vs vo vs' vo' : Value} {h : Hd} {w w' : World} (k : Box g vs vo b h w) (s : Step g vs vo vs' vo' w w') : Box g vs' vo' b h w' := ⟨k.1.step s, (k.1.same s).trans k.2⟩
theorem Box.below {g b : Nat} {vs vo : Value} {h : Hd} {w w' : World} (k : Box g vs vo b h w) (s : Below w.heap.size w w') : Box g vs vo b h w' := ⟨k.1.grow s.size, (s.block b k.1.1).trans k.2⟩
end Go.Proofs.Ytijlnlcjlkanaaa.Vtl
