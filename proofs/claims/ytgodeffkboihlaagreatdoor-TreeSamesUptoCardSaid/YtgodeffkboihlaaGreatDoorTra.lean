/- Trees of nodes, and how they lie in memory: no function of the program. -/
import Derived.Test.YtgodeffkboihlaaGreatDoorRwo
set_option linter.unusedVariables false
namespace Go.Proofs.YtgodeffkboihlaaGreatDoor.Tra
open Go.RowKit

/-- A node's own data: kind, text, number, type, slot, place, line. -/
structure Nd where
  k : Int
  text : ByteArray
  n : Int
  ty : ByteArray
  slot : Int
  at_ : Int
  line : Int
inductive Tr where
  | mk (d : Nd) (kids : List Tr)
def nd0 : Nd := ⟨0, .empty, 0, .empty, 0, 0, 0⟩
def tr0 : Tr := .mk nd0 []
def Tr.d : Tr → Nd | .mk d _ => d
def Tr.kids : Tr → List Tr | .mk _ ks => ks
/-- A node's value, with its kids' slice. -/
abbrev Nd.val (d : Nd) (a : Option Addr) (n c : Nat) : Value := .agg #[.int .i64 d.k, .string d.text, .int .i64 d.n, .string d.ty, .int .i64 d.slot, .int .i64 d.at_, .int .i64 d.line, .slice a n c]
abbrev Nd.row (d : Nd) (a : Option Addr) (n c : Nat) : List Value := [.int .i64 d.k, .string d.text, .int .i64 d.n, .string d.ty, .int .i64 d.slot, .int .i64 d.at_, .int .i64 d.line, .slice a n c]
mutual
/-- How many nodes. -/
def size : Tr → Nat
  | .mk _ ks => 1 + sizes ks
def sizes : List Tr → Nat
  | [] => 0
  | t :: l => size t + sizes l
end
theorem size_pos (t : Tr) : 1 ≤ size t := by cases t; simp only [size]; omega
theorem sizes_append (l m : List Tr) : sizes (l ++ m) = sizes l + sizes m := by
  induction l with
  | nil => simp [sizes]
  | cons t l ih => simp only [List.cons_append, sizes, ih]; omega
theorem length_sizes (l : List Tr) : l.length ≤ sizes l := by
  induction l with
  | nil => simp
  | cons t l ih => have := size_pos t; simp only [sizes, List.length_cons]; omega
theorem size_kid {l : List Tr} {j : Nat} (hj : j < l.length) : size (l.getD j tr0) ≤ sizes l := by
  induction l generalizing j with
  | nil => simp at hj
  | cons t l ih =>
    cases j with
    | zero => simp only [List.getD_cons_zero, sizes]; omega
    | succ j => have := ih (j := j) (by simpa using hj); simp only [List.getD_cons_succ, sizes]; omega
/-- Induction over a tree: what holds of all kids holds of the node. -/
theorem tree_ind {p : Tr → Prop} (h : ∀ d ks, (∀ j, j < ks.length → p (ks.getD j tr0)) → p (.mk d ks)) : ∀ t, p t := by
  suffices ∀ n t, size t ≤ n → p t from fun t => this _ t (Nat.le_refl _)
  intro n
  induction n with
  | zero => intro t ht; have := size_pos t; omega
  | succ n ih =>
    rintro ⟨d, ks⟩ ht
    refine h d ks fun j hj => ih _ ?_
    have := size_kid hj
    simp only [size] at ht; omega
/-- A tree that lies in memory, in blocks of S alone (lists may share it). -/
inductive Lies (w : World) (S : Nat → Prop) : Tr → Value → Prop
  | mk (d : Nd) (ks : List Tr) (a : Option Addr) (c : Nat) (ds : Nat → Nd) (xs : Nat → Option Addr) (ns cs : Nat → Nat)
      (hat : ks = [] ∨ ∃ b o, a = some ⟨b, o, none⟩ ∧ b < w.heap.size ∧ S b ∧ ∀ j, j < ks.length → ∀ i, i < 8 → w.cell? ⟨b, o + j * 8 + i, none⟩ = ((ds j).row (xs j) (ns j) (cs j))[i]?)
      (hk : ∀ j, j < ks.length → Lies w S (ks.getD j tr0) ((ds j).val (xs j) (ns j) (cs j))) : Lies w S (.mk d ks) (d.val a ks.length c)
variable {w w' : World} {S S' : Nat → Prop} {t : Tr} {v : Value}
/-- Where the blocks of S stay, it lies on. -/
theorem Lies.on (h : Lies w S t v) (hz : w.heap.size ≤ w'.heap.size) (hS : ∀ b, b < w.heap.size → S b → w'.heap[b]? = w.heap[b]?) : Lies w' S t v := by
  induction h with
  | mk d ks a c ds xs ns cs hat hk ih =>
    refine .mk d ks a c ds xs ns cs ?_ ih
    rcases hat with h | ⟨b, o, rfl, h1, h3, h2⟩
    · exact .inl h
    · exact .inr ⟨b, o, rfl, Nat.lt_of_lt_of_le h1 hz, h3, fun j hj i hi => (World.cell?_of_block (a := ⟨b, _, none⟩) (hS b h1 h3)).trans (h2 j hj i hi)⟩
theorem Lies.kept (h : Lies w S t v) (hb : Below w.heap.size w w') : Lies w' S t v := h.on hb.size fun b hlt _ => hb.block b hlt
theorem Lies.mono (h : Lies w S t v) (hS : ∀ b, b < w.heap.size → S b → S' b) : Lies w S' t v := by
  induction h with
  | mk d ks a c ds xs ns cs hat hk ih =>
    refine .mk d ks a c ds xs ns cs ?_ ih
    rcases hat with h | ⟨b, o, rfl, h1, h3, h2⟩
    · exact .inl h
    · exact .inr ⟨b, o, rfl, h1, hS b h1 h3, h2⟩
theorem Lies.shape (h : Lies w S t v) : ∃ a c, v = t.d.val a t.kids.length c := by
  cases h with
  | mk d ks a c ds xs ns cs hat hk => exact ⟨a, c, rfl⟩
end Go.Proofs.YtgodeffkboihlaaGreatDoor.Tra
