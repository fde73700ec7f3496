/- 'append' of one token onto a []api.Token of the call's own. -/
import Derived.Test.YtjmgfhbadnechaaDoorLxs
import Derived.Laws.OwnMore
import Derived.OwnWalk
import Derived.Deep.AppendLies
set_option linter.unusedVariables false
namespace Go.Proofs.YtjmgfhbadnechaaDoor.Apt
open Go.RowKit Wrd Nam Env Num Lxp Lxw Lxv Lxr App Aps Lxj Lxk Lxs

theorem infoTok : (Tryd.prog.info? 42).map (fun i => (i.zero, i.size, i.bytes)) = some (some (.agg #[.int .i64 0, .string ⟨#[]⟩, .int .i64 0, .int .i64 0, .int .i64 0]), 5, 48) := by kernel_rfl
/-- The cells of a token. -/
def cellsOf (t : Tok) : Array Value := #[.int .i64 t.kind, .string t.text, .int .i64 t.num, .int .i64 t.pos, .int .i64 t.line]
theorem OwnT.lt {B : Nat} {v : Value} {l : List Tok} {w : World} (h : OwnT B v l w) {k : Nat} (hk : v.ownBlock = some k) : B ≤ k ∧ k < w.heap.size := by
  have h : w.ownsRow B 42 5 v l.length (tokCells l) := h
  exact World.ownsRow.lt h k hk
theorem OwnT.alloc {B : Nat} {v : Value} {l : List Tok} {w : World} (h : OwnT B v l w) (o : Obj) : OwnT B v l (w.alloc o) := World.ownsRow.alloc h o
theorem OwnT.nil (B : Nat) (w : World) : OwnT B (.slice none 0 0) [] w := World.ownsRow_nil w B _ _
theorem OwnT.below {B B' : Nat} {v : Value} {l : List Tok} {w w' : World} (h : OwnT B v l w) (hb : Below B' w w') (hB : w.heap.size ≤ B') : OwnT B v l w' := by
  refine ⟨h.1, h.2.imp id ?_⟩
  rintro ⟨g, cap, cur, hv, h0, h1, h2⟩
  refine ⟨g, cap, cur, hv, h0, ?_, h2⟩
  have hg : g < w.heap.size := (Array.getElem?_eq_some_iff.1 h1).1
  rw [hb.block g (by omega)]; exact h1
/-- Another block is written. -/
theorem OwnT.other {B : Nat} {v : Value} {l : List Tok} {w w' : World} (h : OwnT B v l w) (hw : ∀ b, B ≤ b → w'.heap[b]? = w.heap[b]?) : OwnT B v l w' := by
  refine ⟨h.1, h.2.imp id ?_⟩
  rintro ⟨g, cap, cur, hv, h0, h1, h2⟩
  exact ⟨g, cap, cur, hv, h0, by rw [hw g h0]; exact h1, h2⟩
theorem OwnT.base {B B' : Nat} {v : Value} {l : List Tok} {w : World} (h : OwnT B v l w) (hB : B' ≤ B) : OwnT B' v l w := by
  refine ⟨h.1, h.2.imp id ?_⟩
  rintro ⟨g, cap, cur, hv, h0, h1, h2⟩
  exact ⟨g, cap, cur, hv, by omega, h1, h2⟩
theorem OwnT.shape {B : Nat} {v : Value} {l : List Tok} {w : World} (h : OwnT B v l w) : ∃ A c, v = .slice A l.length c := by
  rcases h.2 with ⟨rfl, h0⟩ | ⟨g, cap, cur, rfl, _⟩
  · exact ⟨none, 0, by rw [h0]⟩
  · exact ⟨_, _, rfl⟩
theorem tok_news (w : World) (t : Tok) : ∀ j u, (tokCells [t])[j]? = some u → (w.alloc (.cells (cellsOf t) 42)).cell? ((⟨w.heap.size, 0, none⟩ : Addr).add j) = some u :=
  World.news_of_block (cs := cellsOf t) (heap_alloc_new w _)
theorem wpList_appT {ops : Array Oper} {rest : List Oper} {o : Oper} {a : Act} {Q : Exit → Act → World → Prop} (hgd : o.guard = none) (s x : Operand)
    (ho : o.op = .call { callee := .builtin .append, args := #[s, x], argTypes := #[22, 22] })
    (B : Nat) (v : Value) (l : List Tok) (w : World) (hown : OwnT B v l w) (hs : a.eval s = v) (k : Int) (tx : ByteArray) (n p li : Int) (c : Nat)
    (H : Nat) (hH : w.heap.size = H) (hx : a.eval x = .slice (some ⟨H, 0, none⟩) 1 c) (hlen : l.length + 1 ≤ 1073741824) (hB : B ≤ w.heap.size)
    (h : ∀ v' w', OwnT B v' (l ++ [⟨k, tx, n, p, li⟩]) w' → Below B w w' → (∀ b, b < w.heap.size → v.ownBlock ≠ some b → w'.heap[b]? = w.heap[b]?) → wpList Tryd.prog ops Q rest (a.put o.dst v') w') :
    wpList Tryd.prog ops Q (o :: rest) a (w.alloc (.cells #[.int .i64 k, .string tx, .int .i64 n, .int .i64 p, .int .i64 li] 42)) := by
  subst hH
  obtain ⟨i0, hi, hz0, hz1, hz2⟩ := info_parts infoTok
  refine wpList_append_own _ hgd s x 22 ho B 42 i0 _ 5 48 Tryd.underlying22 hi hz0 hz1 hz2 rfl (by decide) v l.length _ hs (World.ownsRow.alloc hown _) ⟨w.heap.size, 0, none⟩ 1 c (tokCells [⟨k, tx, n, p, li⟩]) hx rfl (tok_news w ⟨k, tx, n, p, li⟩) (tokCells_one _) (by unfold maxLen; omega) (by omega) (by simp; omega) ?_
  intro v' w' hown' hg _
  refine h v' w' ?_ (((Below.refl B w).alloc hB _).grown hg (by simp; omega) (fun k hk => (World.ownsRow.lt hown k hk).1)) ?_
  · unfold OwnT
    rw [tokCells_append, List.length_append]
    exact hown'
  · intro b hb hne
    have h1 := hg.block b (by simp; omega) (fun e => hne e.symm)
    rw [h1, heap_alloc_old w _ (by omega)]
end Go.Proofs.YtjmgfhbadnechaaDoor.Apt
