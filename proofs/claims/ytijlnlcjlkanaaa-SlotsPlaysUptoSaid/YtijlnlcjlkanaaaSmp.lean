/- SlotsPlays: the pair in memory: the table, the document's table, the handles told. -/
import Derived.Test.YtijlnlcjlkanaaaSuk
set_option linter.unusedVariables false
namespace Go.Proofs.Ytijlnlcjlkanaaa.Smp
open Go.RowKit Rwo Sta Stb Stc Stg Ste Stl Stn Sue Suf Sug Suj Suk

theorem blk_ne {w : World} {a b : Nat} {x y : Array Value} {T U : TypeId} (h : w.heap[a]? = some (.cells x T (0, 0))) (k : w.heap[b]? = some (.cells y U (0, 0))) (hTU : T ≠ U) : a ≠ b := by
  intro e
  subst e
  rw [h] at k
  simp only [Option.some.injEq, Obj.cells.injEq] at k
  exact hTU k.2.1
theorem row_ne {α : Type} {E : Enc α} {T U : TypeId} {B b : Nat} {v : Value} {l : List α} {w : World} {y : Array Value} (h : Rwo.Own E T B v l w) (k : w.heap[b]? = some (.cells y U (0, 0))) (hTU : T ≠ U) : v.ownBlock ≠ some b := by
  intro e
  rcases h.2 with ⟨rfl, _⟩ | ⟨g, cap, cur, rfl, h0, h1, _⟩
  · cases e
  · have e1 : g = b := by simpa [Value.ownBlock] using e
    subst e1
    exact blk_ne h1 k hTU rfl
/-- The pair: gp: its block; g: the table's; gb: the document's; vt: the handles that were told. -/
structure Both (w0 : World) (gp g gb : Nat) (vs vo vr vt : Value) (t : Tab) (R : List Th) (most : Nat) (ts : List Hd) (w : World) : Prop where
  pr : w.heap[gp]? = some (.cells #[.pointer (some ⟨g, 0, none⟩), .pointer (some ⟨gb, 0, none⟩), vt] 65 (0, 0))
  tab : TabAt g vs vo t w
  ref : RefAt gb vr R most w
  told : Rwo.Own hdE 33 w0.heap.size vt ts w
  d1 : ∀ b, vt.ownBlock = some b → vo.ownBlock ≠ some b
  lp : w0.heap.size ≤ gp
  lg : w0.heap.size ≤ g
  lb : w0.heap.size ≤ gb
  below : Below w0.heap.size w0 w
section
variable {w0 w w' : World} {gp g gb : Nat} {vs vo vr vt : Value} {t : Tab} {R : List Th} {most : Nat} {ts : List Hd}
theorem Both.quiet (c : Both w0 gp g gb vs vo vr vt t R most ts w) (h : Below w.heap.size w w') : Both w0 gp g gb vs vo vr vt t R most ts w' :=
  ⟨(h.block gp (Array.getElem?_eq_some_iff.1 c.pr).1).trans c.pr, c.tab.below h, c.ref.below h, c.told.below h (Nat.le_refl _), c.d1, c.lp, c.lg, c.lb, c.below.trans (h.mono c.below.size)⟩
theorem Both.tabStep (c : Both w0 gp g gb vs vo vr vt t R most ts w) {vs' vo' : Value} {t' : Tab} (hT : TabAt g vs' vo' t' w') (h : Step g vs vo vs' vo' w w') : Both w0 gp g gb vs' vo' vr vt t' R most ts w' := by
  have far : ∀ {b : Nat}, b < w.heap.size → b ≠ g → vs.ownBlock ≠ some b → vo.ownBlock ≠ some b → w'.heap[b]? = w.heap[b]? := fun {b} h1 h2 h3 h4 => h.far b h1 h2 h3 h4
  refine ⟨?_, hT, ⟨?_, ?_, ?_⟩, ?_, ?_, c.lp, c.lg, c.lb, ?_⟩
  · exact (far (Array.getElem?_eq_some_iff.1 c.pr).1 (blk_ne c.pr c.tab.blk (by decide)) (row_ne c.tab.sl c.pr (by decide)) (row_ne c.tab.ord c.pr (by decide))).trans c.pr
  · exact (far c.ref.lt (blk_ne c.ref.blk c.tab.blk (by decide)) (row_ne c.tab.sl c.ref.blk (by decide)) (row_ne c.tab.ord c.ref.blk (by decide))).trans c.ref.blk
  · exact c.ref.all.kept fun b hb => far (c.ref.all.lt hb).2 (fun e => row_ne c.ref.all c.tab.blk (by decide) (by rw [← e]; exact hb)) (Rwo.Own.apart c.ref.all c.tab.sl (by decide) hb) (Rwo.Own.apart c.ref.all c.tab.ord (by decide) hb)
  · exact Nat.lt_of_lt_of_le c.ref.lt h.size
  · exact c.told.kept fun b hb => far (c.told.lt hb).2 (fun e => row_ne c.told c.tab.blk (by decide) (by rw [← e]; exact hb)) (Rwo.Own.apart c.told c.tab.sl (by decide) hb) (c.d1 b hb)
  · intro b hb e
    rcases h.nvo b e with h1 | h1
    · exact c.d1 b hb h1
    · have := (c.told.lt hb).2; omega
  · exact c.below.trans (h.below c.lg c.below.size (fun b e => by have := (c.tab.sl.lt e).1; have := c.lg; omega) (fun b e => by have := (c.tab.ord.lt e).1; have := c.lg; omega))
theorem Both.refStep (c : Both w0 gp g gb vs vo vr vt t R most ts w) {vr' : Value} {R' : List Th} (hR : RefAt gb vr' R' most w') (h : RefStep gb vr vr' w w') : Both w0 gp g gb vs vo vr' vt t R' most ts w' := by
  have far : ∀ {b : Nat}, b < w.heap.size → b ≠ gb → vr.ownBlock ≠ some b → w'.heap[b]? = w.heap[b]? := fun {b} h1 h2 h3 => h.far b h1 h2 h3
  refine ⟨?_, ⟨?_, ?_, ?_, ?_⟩, hR, ?_, c.d1, c.lp, c.lg, c.lb, ?_⟩
  · exact (far (Array.getElem?_eq_some_iff.1 c.pr).1 (blk_ne c.pr c.ref.blk (by decide)) (row_ne c.ref.all c.pr (by decide))).trans c.pr
  · exact (far c.tab.lt (blk_ne c.tab.blk c.ref.blk (by decide)) (row_ne c.ref.all c.tab.blk (by decide))).trans c.tab.blk
  · exact c.tab.sl.kept fun b hb => far (c.tab.sl.lt hb).2 (fun e => row_ne c.tab.sl c.ref.blk (by decide) (by rw [← e]; exact hb)) (Rwo.Own.apart c.tab.sl c.ref.all (by decide) hb)
  · exact c.tab.ord.kept fun b hb => far (c.tab.ord.lt hb).2 (fun e => row_ne c.tab.ord c.ref.blk (by decide) (by rw [← e]; exact hb)) (Rwo.Own.apart c.tab.ord c.ref.all (by decide) hb)
  · exact Nat.lt_of_lt_of_le c.tab.lt h.size
  · exact c.told.kept fun b hb => far (c.told.lt hb).2 (fun e => row_ne c.told c.ref.blk (by decide) (by rw [← e]; exact hb)) (Rwo.Own.apart c.told c.ref.all (by decide) hb)
  · exact c.below.trans (h.below c.lb c.below.size (fun b e => by have := (c.ref.all.lt e).1; have := c.lb; omega))
theorem Both.cells (c : Both w0 gp g gb vs vo vr vt t R most ts w) : w.cell? ⟨gp, 0, none⟩ = some (.pointer (some ⟨g, 0, none⟩)) ∧ w.cell? ⟨gp, 1, none⟩ = some (.pointer (some ⟨gb, 0, none⟩)) ∧ w.cell? ⟨gp, 2, none⟩ = some vt ∧ w.frozen? ⟨gp, 2, none⟩ = false := by
  refine ⟨?_, ?_, ?_, frozen_of_row w gp _ _ _ c.pr⟩
  all_goals (rw [cell_of_row w gp _ _ _ _ c.pr]; rfl)
end
set_option maxHeartbeats 1000000 in
set_option maxRecDepth 100000 in
theorem code_any (b : Bool) (e : Int) (w : World) : Calls Try.prog 25 #[.bool b, .int .i64 e] w fun x w' => x = .returned (.int .i64 (if b then 0 else e)) ∧ w = w' := by
  cases b
  all_goals
    go_enter Try.func25, Try.ntmps25
    go_wp2
    go_ret
    exact ⟨rfl, rfl⟩
end Go.Proofs.Ytijlnlcjlkanaaa.Smp
