/- Trees of one's own, block apart from block (with a mark behind each list of kids, or without): no function of the program. -/
import Derived.Test.YtgodeffkboihlaaGreatDoorTrc
set_option linter.unusedVariables false
namespace Go.Proofs.YtgodeffkboihlaaGreatDoor.Trg
open Go.RowKit Tra Trb Rwo Trc

/-- The node behind a list of kids: its data. -/
def markNd : Nd := ⟨0, ⟨#[98, 101, 104, 105, 110, 100]⟩, 0, .empty, 0, 0, 0⟩
def markNv : Nv := ⟨markNd, none, 0, 0⟩
/-- What stands in a row of kids. -/
def rowOf (m : Bool) (xs : List Nv) : List Nv := if m then xs ++ [markNv] else xs
/-- A tree whose rows are the call's own (type T), each in a block of S, no two in one; m: a mark stands behind each list. -/
inductive Sep (T : TypeId) (m : Bool) (w : World) : (Nat → Prop) → Tr → Value → Prop
  | mk (S : Nat → Prop) (R : Nat → Nat → Prop) (d : Nd) (ks : List Tr) (a : Option Addr) (c n : Nat) (xs : List Nv)
      (ho : Own nE T 0 (.slice a n c) (rowOf m xs) w) (hl : xs.length = ks.length)
      (hS : ∀ b, (Value.slice a n c).ownBlock = some b → S b) (hR : ∀ j, j < ks.length → ∀ b, R j b → S b ∧ (Value.slice a n c).ownBlock ≠ some b)
      (hd : ∀ i j, i < ks.length → j < ks.length → i ≠ j → ∀ b, R i b → ¬ R j b)
      (hk : ∀ j, j < ks.length → Sep T m w (R j) (ks.getD j tr0) (xs.getD j nv0).val) : Sep T m w S (.mk d ks) (d.val a ks.length c)
variable {T : TypeId} {m : Bool} {w w' : World} {S S' : Nat → Prop} {t : Tr} {v : Value}
theorem Sep.on (h : Sep T m w S t v) (hS : ∀ b, b < w.heap.size → S b → w'.heap[b]? = w.heap[b]?) : Sep T m w' S t v := by
  induction h with
  | mk S R d ks a c n xs ho hl hS2 hR hd hk ih =>
    exact .mk S R d ks a c n xs (ho.kept fun b hb => hS b (ho.lt hb).2 (hS2 b hb)) hl hS2 hR hd fun j hj => ih j hj fun b hb hr => hS b hb (hR j hj b hr).1
theorem Sep.kept (h : Sep T m w S t v) (hb : Below w.heap.size w w') : Sep T m w' S t v := h.on fun b hlt _ => hb.block b hlt
theorem Sep.mono (h : Sep T m w S t v) (hS : ∀ b, S b → S' b) : Sep T m w S' t v := by
  cases h with
  | mk _ R d ks a c n xs ho hl hS2 hR hd hk => exact .mk S' R d ks a c n xs ho hl (fun b hb => hS b (hS2 b hb)) (fun j hj b hb => ⟨hS b (hR j hj b hb).1, (hR j hj b hb).2⟩) hd hk
theorem rowOf_getD {xs : List Nv} {j : Nat} (hj : j < xs.length) : (rowOf m xs).getD j nv0 = xs.getD j nv0 := by
  unfold rowOf
  cases m with
  | false => rfl
  | true => simp only [if_true, List.getD_eq_getElem?_getD, List.getElem?_append_left hj]
theorem rowOf_length (xs : List Nv) : xs.length ≤ (rowOf m xs).length := by
  unfold rowOf; cases m <;> simp
/-- Marks stand where they should. -/
inductive MLies (m : Bool) (w : World) : Tr → Value → Prop
  | mk (d : Nd) (ks : List Tr) (a : Option Addr) (c : Nat) (ds : Nat → Nd) (xs : Nat → Option Addr) (ns cs : Nat → Nat)
      (hm : m = true → ∃ b o, a = some ⟨b, o, none⟩ ∧ ks.length + 1 ≤ c ∧ ∀ i, i < 8 → w.cell? ⟨b, o + ks.length * 8 + i, none⟩ = (markNd.row none 0 0)[i]?)
      (hat : ks = [] ∨ ∃ b o, a = some ⟨b, o, none⟩ ∧ b < w.heap.size ∧ ∀ j, j < ks.length → ∀ i, i < 8 → w.cell? ⟨b, o + j * 8 + i, none⟩ = ((ds j).row (xs j) (ns j) (cs j))[i]?)
      (hk : ∀ j, j < ks.length → MLies m w (ks.getD j tr0) ((ds j).val (xs j) (ns j) (cs j))) : MLies m w (.mk d ks) (d.val a ks.length c)
theorem MLies.ofLies (h : Lies w S t v) : MLies false w t v := by
  induction h with
  | mk d ks a c ds xs ns cs hat hk ih =>
    exact .mk d ks a c ds xs ns cs (fun e => by cases e) (hat.imp id fun ⟨b, o, h1, h2, _, h4⟩ => ⟨b, o, h1, h2, h4⟩) ih
/-- The cells of a row. -/
theorem row_cells {B : Nat} {a : Option Addr} {n c : Nat} {zs : List Nv} (ho : Own nE T B (.slice a n c) zs w) (hz : zs ≠ []) : ∃ b, a = some ⟨b, 0, none⟩ ∧ n = zs.length ∧ zs.length ≤ c ∧ b < w.heap.size ∧ (Value.slice a n c).ownBlock = some b ∧ ∀ j, j < zs.length → ∀ i, i < 8 → w.cell? ⟨b, 0 + j * 8 + i, none⟩ = ((zs.getD j nv0).d.row (zs.getD j nv0).a (zs.getD j nv0).n (zs.getD j nv0).c)[i]? := by
  obtain ⟨g, cap, cur, e, h0, h1, h2, h3⟩ := ho.some hz
  simp only [Value.slice.injEq] at e
  obtain ⟨rfl, rfl, rfl⟩ := e
  refine ⟨g, rfl, rfl, h3, h2, rfl, fun j hj i hi => ?_⟩
  have := Own.cell ho j i hj hi
  have e : 0 + j * 8 + i = j * nE.z + i := by show 0 + j * 8 + i = j * 8 + i; omega
  rw [e]; exact this
theorem Sep.mlies (h : Sep T m w S t v) : MLies m w t v := by
  induction h with
  | mk S R d ks a c n xs ho hl hS2 hR hd hk ih =>
    refine .mk d ks a c (fun j => (xs.getD j nv0).d) (fun j => (xs.getD j nv0).a) (fun j => (xs.getD j nv0).n) (fun j => (xs.getD j nv0).c) ?_ ?_ ih
    · intro e
      subst e
      obtain ⟨b, h1, h2, h3, h4, _, h5⟩ := row_cells ho (by simp [rowOf])
      have hlen : (rowOf true xs).length = ks.length + 1 := by simp [rowOf, hl]
      refine ⟨b, 0, h1, by omega, fun i hi => ?_⟩
      have := h5 ks.length (by omega) i hi
      have e : (rowOf true xs).getD ks.length nv0 = markNv := by unfold rowOf; rw [← hl]; simp [List.getD_eq_getElem?_getD]
      rw [e] at this; exact this
    · by_cases hks : ks = []
      · exact .inl hks
      · right
        have hp := rowOf_length (m := m) xs
        have hpos : 0 < ks.length := List.length_pos_iff.2 hks
        obtain ⟨b, h1, h2, h3, h4, _, h5⟩ := row_cells ho (by intro e; rw [e] at hp; simp at hp; rw [hp] at hl; simp at hl; exact hks (List.length_eq_zero_iff.1 hl.symm))
        refine ⟨b, 0, h1, h4, fun j hj i hi => ?_⟩
        have := h5 j (by omega) i hi
        rw [rowOf_getD (by omega)] at this
        exact this
theorem Sep.lies (h : Sep T m w S t v) : Lies w S t v := by
  induction h with
  | mk S R d ks a c n xs ho hl hS2 hR hd hk ih =>
    refine .mk d ks a c (fun j => (xs.getD j nv0).d) (fun j => (xs.getD j nv0).a) (fun j => (xs.getD j nv0).n) (fun j => (xs.getD j nv0).c) ?_ fun j hj => (ih j hj).mono fun b _ hb => (hR j hj b hb).1
    by_cases hks : ks = []
    · exact .inl hks
    · right
      have hp := rowOf_length (m := m) xs
      obtain ⟨b, h1, h2, h3, h4, h6, h5⟩ := row_cells ho (by intro e; rw [e] at hp; simp at hp; rw [hp] at hl; simp at hl; exact hks (List.length_eq_zero_iff.1 hl.symm))
      refine ⟨b, 0, h1, h4, hS2 b h6, fun j hj i hi => ?_⟩
      have := h5 j (by omega) i hi
      rw [rowOf_getD (by omega)] at this
      exact this
/-- A list of kids that is being built. -/
structure Build (T : TypeId) (m : Bool) (B : Nat) (v : Value) (ks : List Tr) (xs : List Nv) (R : Nat → Nat → Prop) (w : World) : Prop where
  out : Own nE T B v xs w
  len : xs.length = ks.length
  far : ∀ j, j < ks.length → ∀ b, R j b → B ≤ b ∧ b < w.heap.size ∧ v.ownBlock ≠ some b
  apart : ∀ i j, i < ks.length → j < ks.length → i ≠ j → ∀ b, R i b → ¬ R j b
  each : ∀ j, j < ks.length → Sep T m w (R j) (ks.getD j tr0) (xs.getD j nv0).val
theorem Build.nil (T : TypeId) (m : Bool) (B : Nat) (w : World) : Build T m B (.slice none 0 0) [] [] (fun _ _ => False) w :=
  ⟨Own.nil _ _, rfl, fun j hj => absurd hj (by simp), fun i j hi => absurd hi (by simp), fun j hj => absurd hj (by simp)⟩
variable {B g cap n : Nat} {ks : List Tr} {xs : List Nv} {R : Nat → Nat → Prop} {x : Nv}
theorem Build.kept (h : Build T m B v ks xs R w) (hb : Below w.heap.size w w') : Build T m B v ks xs R w' :=
  ⟨h.out.below hb (Nat.le_refl _), h.len, fun j hj b hr => ⟨(h.far j hj b hr).1, Nat.lt_of_lt_of_le (h.far j hj b hr).2.1 hb.size, (h.far j hj b hr).2.2⟩, h.apart, fun j hj => (h.each j hj).kept hb⟩
/-- Where all blocks from B on stay, it stays. -/
theorem Build.far_kept (h : Build T m B v ks xs R w) (hb : ∀ b, B ≤ b → b < w.heap.size → w'.heap[b]? = w.heap[b]?) (hz : w.heap.size ≤ w'.heap.size) : Build T m B v ks xs R w' :=
  ⟨h.out.kept fun b e => hb b (h.out.lt e).1 (h.out.lt e).2, h.len, fun j hj b hr => ⟨(h.far j hj b hr).1, Nat.lt_of_lt_of_le (h.far j hj b hr).2.1 hz, (h.far j hj b hr).2.2⟩, h.apart, fun j hj => (h.each j hj).on fun b hlt hr => hb b (h.far j hj b hr).1 hlt⟩
theorem getD_snoc_lt {α : Type} {l : List α} {x d : α} {j : Nat} (h : j < l.length) : (l ++ [x]).getD j d = l.getD j d := by simp [List.getD_eq_getElem?_getD, List.getElem?_append_left h]
theorem getD_snoc_eq {α : Type} {l : List α} {x d : α} {j : Nat} (h : j = l.length) : (l ++ [x]).getD j d = x := by subst h; simp [List.getD_eq_getElem?_getD]
/-- One kid more: made since the world had z blocks, lying in w; then the append to w'. -/
theorem Build.push {z : Nat} (h : Build T m B v ks xs R w) (hz : ∀ j, j < ks.length → ∀ b, R j b → b < z) (hvz : ∀ b, v.ownBlock = some b → b < z) (hBz : B ≤ z) (hx : Sep T m w (fun b => z ≤ b ∧ b < w.heap.size) t x.val)
    (ho : Own nE T B (.slice (some ⟨g, 0, none⟩) n cap) (xs ++ [x]) w') (hfar : ∀ b, b < w.heap.size → v.ownBlock ≠ some b → w'.heap[b]? = w.heap[b]?) (hsz : w.heap.size ≤ w'.heap.size) (hat : v.ownBlock = some g ∨ w.heap.size ≤ g) :
    Build T m B (.slice (some ⟨g, 0, none⟩) n cap) (ks ++ [t]) (xs ++ [x]) (fun j b => if j < ks.length then R j b else z ≤ b ∧ b < w.heap.size) w' := by
  have far2 : ∀ j, j < ks.length + 1 → ∀ b, (if j < ks.length then R j b else z ≤ b ∧ b < w.heap.size) → B ≤ b ∧ b < w.heap.size ∧ v.ownBlock ≠ some b := by
    intro j hj b hb
    by_cases hjl : j < ks.length
    · rw [if_pos hjl] at hb; exact h.far j hjl b hb
    · rw [if_neg hjl] at hb; exact ⟨by omega, hb.2, fun e => by have := hvz b e; omega⟩
  have ne : ∀ b, b < w.heap.size → v.ownBlock ≠ some b → (Value.slice (some ⟨g, 0, none⟩) n cap).ownBlock ≠ some b := by
    intro b hb hv e
    have e2 : g = b := by simpa [Value.ownBlock] using e
    subst e2
    rcases hat with h3 | h3
    · exact hv h3
    · omega
  refine ⟨ho, by simp [h.len], ?_, ?_, ?_⟩
  · intro j hj b hb
    have := far2 j (by simpa using hj) b hb
    exact ⟨this.1, Nat.lt_of_lt_of_le this.2.1 hsz, ne b this.2.1 this.2.2⟩
  · intro i j hi hj hij b hbi hbj
    simp at hi hj
    by_cases hil : i < ks.length <;> by_cases hjl : j < ks.length
    · rw [if_pos hil] at hbi; rw [if_pos hjl] at hbj; exact h.apart i j hil hjl hij b hbi hbj
    · rw [if_pos hil] at hbi; rw [if_neg hjl] at hbj; have := hz i hil b hbi; omega
    · rw [if_neg hil] at hbi; rw [if_pos hjl] at hbj; have := hz j hjl b hbj; omega
    · omega
  · intro j hj
    simp at hj
    by_cases hjl : j < ks.length
    · rw [getD_snoc_lt hjl, getD_snoc_lt (by rw [h.len]; exact hjl)]
      simp only [if_pos hjl]
      exact (h.each j hjl).on fun b hb hr => hfar b hb (h.far j hjl b hr).2.2
    · rw [getD_snoc_eq (by omega), getD_snoc_eq (by rw [h.len]; omega)]
      simp only [if_neg hjl]
      exact hx.on fun b hb hr => hfar b hb fun e => by have := hvz b e; omega
/-- The list is whole. -/
theorem Build.close {a : Option Addr} {c : Nat} (h : Build T false B (.slice a n c) ks xs R w) (d : Nd) : Sep T false w (fun b => B ≤ b ∧ b < w.heap.size) (.mk d ks) (d.val a n c) := by
  obtain ⟨A, c', e⟩ := h.out.shape
  simp only [Value.slice.injEq] at e
  obtain ⟨rfl, rfl, rfl⟩ := e
  rw [h.len]
  refine .mk _ R d ks a c xs.length xs (h.out.base (Nat.zero_le _)) h.len ?_ ?_ h.apart h.each
  · intro b hb; exact h.out.lt hb
  · intro j hj b hb; have := h.far j hj b hb; exact ⟨⟨this.1, this.2.1⟩, this.2.2⟩
/-- The list is whole, and a mark has been put behind it. -/
theorem Build.mark (h : Build T true B v ks xs R w) (d : Nd) (ho : Own nE T B (.slice (some ⟨g, 0, none⟩) n cap) (xs ++ [markNv]) w') (hfar : ∀ b, b < w.heap.size → v.ownBlock ≠ some b → w'.heap[b]? = w.heap[b]?) (hsz : w.heap.size ≤ w'.heap.size) (hat : v.ownBlock = some g ∨ w.heap.size ≤ g) :
    Sep T true w' (fun b => B ≤ b ∧ b < w'.heap.size) (.mk d ks) (d.val (some ⟨g, 0, none⟩) ks.length cap) := by
  refine .mk _ R d ks (some ⟨g, 0, none⟩) cap n xs (ho.base (Nat.zero_le _)) h.len ?_ ?_ h.apart ?_
  · intro b hb; exact ho.lt hb
  · intro j hj b hb
    have := h.far j hj b hb
    refine ⟨⟨this.1, Nat.lt_of_lt_of_le this.2.1 hsz⟩, fun e => ?_⟩
    have e2 : g = b := by simpa [Value.ownBlock] using e
    subst e2
    rcases hat with h3 | h3
    · exact this.2.2 h3
    · omega
  · intro j hj
    exact (h.each j hj).on fun b hb hr => hfar b hb (h.far j hj b hr).2.2
end Go.Proofs.YtgodeffkboihlaaGreatDoor.Trg
