/- Trees of one's own: rows of nodes in memory of the call's own, kid by kid. No function of the program. -/
import Derived.Test.YtgodeffkboihlaaGreatDoorTrb
set_option linter.unusedVariables false
namespace Go.Proofs.YtgodeffkboihlaaGreatDoor.Trc
open Go.RowKit Tra Trb Rwo

/-- A node as it stands in a row: its data, its kids' slice. -/
structure Nv where
  d : Nd
  a : Option Addr
  n : Nat
  c : Nat
def nv0 : Nv := ⟨nd0, none, 0, 0⟩
abbrev Nv.val (x : Nv) : Value := x.d.val x.a x.n x.c
def nE : Enc Nv where
  z := 8
  f x := x.d.row x.a x.n x.c
  d := nv0
  len _ := rfl
  pos := by decide
  one x u h := by
    simp only [List.mem_cons, List.not_mem_nil, or_false] at h
    rcases h with rfl | rfl | rfl | rfl | rfl | rfl | rfl | rfl <;> rfl
/-- A row of one's own whose nodes lie as the trees ks, each in blocks at or above B and not in the row's own block. -/
structure Kids (T : TypeId) (B : Nat) (v : Value) (ks : List Tr) (xs : List Nv) (w : World) : Prop where
  out : Own nE T B v xs w
  len : xs.length = ks.length
  each : ∀ j, j < ks.length → Lies w (fun b => B ≤ b ∧ v.ownBlock ≠ some b) (ks.getD j tr0) (xs.getD j nv0).val
theorem Kids.nil (T : TypeId) (B : Nat) (w : World) : Kids T B (.slice none 0 0) [] [] w := ⟨Own.nil _ _, rfl, fun j hj => absurd hj (by simp)⟩
theorem Kids.kept {T : TypeId} {B : Nat} {v : Value} {ks : List Tr} {xs : List Nv} {w w' : World} (h : Kids T B v ks xs w) (hb : Below w.heap.size w w') : Kids T B v ks xs w' :=
  ⟨h.out.below hb (Nat.le_refl _), h.len, fun j hj => (h.each j hj).kept hb⟩
/-- A row of one's own, whole: the tree lies, in blocks at or above B. -/
theorem Kids.lies {T : TypeId} {B : Nat} {a : Option Addr} {n c : Nat} {ks : List Tr} {xs : List Nv} {w : World} (h : Kids T B (.slice a n c) ks xs w) (d : Nd) : Lies w (fun b => B ≤ b) (.mk d ks) (d.val a n c) := by
  obtain ⟨A, c', e⟩ := h.out.shape
  simp only [Value.slice.injEq] at e
  obtain ⟨rfl, rfl, rfl⟩ := e
  rw [h.len]
  refine .mk d ks a c (fun j => (xs.getD j nv0).d) (fun j => (xs.getD j nv0).a) (fun j => (xs.getD j nv0).n) (fun j => (xs.getD j nv0).c) ?_ fun j hj => (h.each j hj).mono fun b _ hb => hb.1
  by_cases hl : ks = []
  · exact .inl hl
  · right
    have hx : xs ≠ [] := fun e => hl (by have := h.len; rw [e] at this; exact List.length_eq_zero_iff.1 this.symm)
    have ho := h.out
    obtain ⟨g, cap, cur, e2, h0, h1, h2, h3⟩ := ho.some hx
    simp only [Value.slice.injEq] at e2
    obtain ⟨rfl, -, rfl⟩ := e2
    refine ⟨g, 0, rfl, h2, h0, fun j hj i hi => ?_⟩
    have := Own.cell ho j i (by rw [h.len]; exact hj) hi
    have e : 0 + j * 8 + i = j * nE.z + i := by show 0 + j * 8 + i = j * 8 + i; omega
    rw [e]; exact this
/-- One kid more: what wpList_append leaves, beside a tree that lies at or above the row's world. -/
theorem Kids.push {T : TypeId} {B g cap n : Nat} {v : Value} {ks : List Tr} {xs : List Nv} {x : Nv} {t : Tr} {w w' : World} (h : Kids T B v ks xs w) (hx : Lies w (fun b => B ≤ b ∧ v.ownBlock ≠ some b) t x.val)
    (ho : Own nE T B (.slice (some ⟨g, 0, none⟩) n cap) (xs ++ [x]) w') (hfar : ∀ b, b < w.heap.size → v.ownBlock ≠ some b → w'.heap[b]? = w.heap[b]?) (hz : w.heap.size ≤ w'.heap.size) (hat : v.ownBlock = some g ∨ w.heap.size ≤ g) :
    Kids T B (.slice (some ⟨g, 0, none⟩) n cap) (ks ++ [t]) (xs ++ [x]) w' := by
  have go : ∀ (t : Tr) (u : Value), Lies w (fun b => B ≤ b ∧ v.ownBlock ≠ some b) t u → Lies w' (fun b => B ≤ b ∧ (Value.slice (some ⟨g, 0, none⟩) n cap).ownBlock ≠ some b) t u := by
    intro t u hu
    have h1 := hu.mono (S' := fun b => B ≤ b ∧ v.ownBlock ≠ some b ∧ b < w.heap.size) fun b hlt hb => ⟨hb.1, hb.2, hlt⟩
    have h2 := h1.on hz fun b hlt hb => hfar b hlt hb.2.1
    refine h2.mono fun b _ hb => ⟨hb.1, fun e => ?_⟩
    have e2 : g = b := by simpa [Value.ownBlock] using e
    subst e2
    rcases hat with h3 | h3
    · exact hb.2.1 h3
    · have := hb.2.2; omega
  refine ⟨ho, by simp [h.len], fun j hj => ?_⟩
  by_cases hjl : j < ks.length
  · have e1 : (ks ++ [t]).getD j tr0 = ks.getD j tr0 := by simp [List.getD_eq_getElem?_getD, List.getElem?_append_left hjl]
    have e2 : (xs ++ [x]).getD j nv0 = xs.getD j nv0 := by simp [List.getD_eq_getElem?_getD, List.getElem?_append_left (show j < xs.length by rw [h.len]; exact hjl)]
    rw [e1, e2]; exact go _ _ (h.each j hjl)
  · have hje : j = ks.length := by simp at hj; omega
    subst hje
    have e1 : (ks ++ [t]).getD ks.length tr0 = t := by simp [List.getD_eq_getElem?_getD]
    have e2 : (xs ++ [x]).getD ks.length nv0 = x := by rw [← h.len]; simp [List.getD_eq_getElem?_getD]
    rw [e1, e2]; exact go _ _ hx
end Go.Proofs.YtgodeffkboihlaaGreatDoor.Trc
