/- (*lex.scanner).add, ends. -/
import Derived.Test.YtjmgfhbadnechaaDoorLsa
import Derived.Deep.RegionLaw
import Derived.Deep.RegionHeld3
set_option linter.unusedVariables false
namespace Go.Proofs.YtjmgfhbadnechaaDoor.Lsb
open Go.RowKit Wrd Nam Lxp Lxw Lxr Lxk Lxs Lrs Lrt Lru Apt Lrv Lrc Lsa

/-- A scanner's block. -/
def Blk (w : World) (g : Nat) (src : ByteArray) (p : Nat) (line : Int) (v : Value) (fresh : Bool) : Prop := w.heap[g]? = some (.cells #[.string src, .int .i64 p, .int .i64 line, v, .bool fresh] 61 (0, 0))
/-- A scanner in memory. -/
structure Sc (g : Nat) (src : ByteArray) (p : Nat) (line : Int) (v : Value) (out : List Tok) (fresh : Bool) (w : World) : Prop where
  blk : Blk w g src p line v fresh
  own : OwnT (g + 1) v out w
  lt : g < w.heap.size
theorem Blk.cells {w : World} {g : Nat} {src : ByteArray} {p : Nat} {line : Int} {v : Value} {fresh : Bool} (h : Blk w g src p line v fresh) :
    (w.cell? ⟨g, 0, none⟩ = some (.string src) ∧ w.cell? ⟨g, 1, none⟩ = some (.int .i64 p) ∧ w.cell? ⟨g, 2, none⟩ = some (.int .i64 line) ∧ w.cell? ⟨g, 3, none⟩ = some v ∧ w.cell? ⟨g, 4, none⟩ = some (.bool fresh)) ∧
    w.frozen? ⟨g, 0, none⟩ = false ∧ w.frozen? ⟨g, 1, none⟩ = false ∧ w.frozen? ⟨g, 2, none⟩ = false ∧ w.frozen? ⟨g, 3, none⟩ = false ∧ w.frozen? ⟨g, 4, none⟩ = false := by
  have h : w.heap[g]? = some (.cells #[.string src, .int .i64 p, .int .i64 line, v, .bool fresh] 61 (0, 0)) := h
  refine ⟨⟨?_, ?_, ?_, ?_, ?_⟩, ?_, ?_, ?_, ?_, ?_⟩
  all_goals first | (rw [cell_of_row w g _ _ _ _ h]; rfl) | exact frozen_of_row w g _ _ _ h
theorem Blk.below {w w' : World} {g B : Nat} {src : ByteArray} {p : Nat} {line : Int} {v : Value} {fresh : Bool} (h : Blk w g src p line v fresh) (hb : Below B w w') (hg : g < B) : Blk w' g src p line v fresh := (hb.block g hg).trans h
/-- The scanner that another call left alone. -/
theorem Sc.below {w w' : World} {g : Nat} {src : ByteArray} {p : Nat} {line : Int} {v : Value} {out : List Tok} {fresh : Bool} (h : Sc g src p line v out fresh w) (hb : Below w.heap.size w w') : Sc g src p line v out fresh w' :=
  ⟨h.blk.below hb h.lt, OwnT.below h.own hb (Nat.le_refl _), Nat.lt_of_lt_of_le h.lt hb.size⟩
theorem step_appT {ops : Array Oper} {o : Oper} {a : Act} {w : World} {K : Act → World → Prop} {Q : Exit → Act → World → Prop} {E : Prop} (hgd : o.guard = none) (s x : Operand)
    (ho : o.op = .call { callee := .builtin .append, args := #[s, x], argTypes := #[22, 22] })
    (B : Nat) (v : Value) (l : List Tok) (w0 : World) (hown : OwnT B v l w0) (hs : a.eval s = v) (k : Int) (tx : ByteArray) (n p li : Int) (c : Nat)
    (H : Nat) (hw : w.heap = w0.heap.push (.cells #[.int .i64 k, .string tx, .int .i64 n, .int .i64 p, .int .i64 li] 42)) (hx : a.eval x = .slice (some ⟨H, 0, none⟩) 1 c) (hlen : l.length + 1 ≤ 1073741824) (hB : B ≤ w0.heap.size ∧ w0.heap.size = H)
    (h : ∀ g cap w', OwnT B (.slice (some ⟨g, 0, none⟩) (l.length + 1) cap) (l ++ [⟨k, tx, n, p, li⟩]) w' → Below B w w' → (∀ b, b < w0.heap.size → v.ownBlock ≠ some b → w'.heap[b]? = w0.heap[b]?) → K (a.put o.dst (.slice (some ⟨g, 0, none⟩) (l.length + 1) cap)) w') :
    if Region.wanted o (yielded ops a.tmps) = true then Oper.wp Tryd.prog o a w K Q else E := by
  obtain ⟨hB, rfl⟩ := hB
  obtain ⟨i0, hi, hz0, hz1, hz2⟩ := info_parts infoTok
  have hlt : ∀ b, b < w0.heap.size → w.heap[b]? = w0.heap[b]? := fun b hb => by rw [hw, Array.getElem?_push_lt hb, Array.getElem?_eq_getElem hb]
  have hnew : w.heap[w0.heap.size]? = some (.cells #[.int .i64 k, .string tx, .int .i64 n, .int .i64 p, .int .i64 li] 42 (0, 0)) := by rw [hw, Array.getElem?_push_size]
  have hsz : w.heap.size = w0.heap.size + 1 := by rw [hw, Array.size_push]
  have hown1 : OwnT B v l w := by
    refine ⟨hown.1, hown.2.imp id ?_⟩
    rintro ⟨g, cap, cur, hv, h0, h1, h2⟩
    exact ⟨g, cap, cur, hv, h0, by rw [hlt g (Array.getElem?_eq_some_iff.1 h1).1]; exact h1, h2⟩
  refine step_append_lies w hgd s x 22 ho B 42 i0 _ 5 48 Tryd.underlying22 hi hz0 hz1 hz2 rfl (by decide) v l.length _ hs hown1 ⟨w0.heap.size, 0, none⟩ 1 c (tokCells [⟨k, tx, n, p, li⟩]) hx rfl (World.news_of_block (cs := cellsOf ⟨k, tx, n, p, li⟩) hnew) (tokCells_one _) (by omega) (by unfold maxLen; omega) (by omega) (by omega) _ rfl ?_
  intro g cap w' hown' hg _ _
  refine h g cap w' ?_ ((Below.refl B w).grown hg (by omega) (fun k hk => (World.ownsRow.lt hown k hk).1)) ?_
  · unfold OwnT
    rw [tokCells_append, List.length_append]
    exact hown'
  · intro b hb hne
    rw [hg.block b (by omega) (fun e => hne e.symm), hlt b hb]
set_option maxHeartbeats 4000000 in
set_option maxRecDepth 100000 in
theorem add_any (g : Nat) (src : ByteArray) (p : Nat) (line : Int) (v : Value) (out : List Tok) (fresh : Bool) (k : Int) (t : ByteArray) (n : Int) (m : Nat) (w : World) (h : Hid (Sc g src p line v out fresh w)) (hp : p + m ≤ 1000000) (hl : out.length ≤ 1000000) :
    Calls Tryd.prog 30 #[.pointer (some ⟨g, 0, none⟩), .int .i64 k, .string t, .int .i64 n, .int .i64 m] w fun e w' => e = .returned (.tuple #[]) ∧ (∃ v', Sc g src (p + m) line v' (out ++ [⟨k, t, n, p, line⟩]) true w') ∧ Below g w w' := by
  obtain ⟨⟨c0, c1, c2, c3, c4⟩, f0, f1, f2, f3, f4⟩ := h.out.blk.cells
  obtain ⟨A1, cp1, rfl⟩ := OwnT.shape h.out.own
  have hlt := h.out.lt
  go_enter Tryd.func30, Tryd.ntmps30
  go_wp2_with fail
  have HO := Lib.hid h.out.own
  have HB := Lib.hid h.out.blk
  clear h
  go_region_law ((refine step_appT (by rfl) _ _ (by rfl) (g + 1) _ out w HO.out (by rfl) k t n p line _ w.heap.size (by rfl) (by rfl) (by omega) ⟨by omega, rfl⟩ ?_; intro g3 cp3 w3 hO3 hb3 hfar; have hB3 : Blk w3 g src p line (.slice A1 out.length cp1) fresh := (hfar g hlt (fun hk => absurd (OwnT.lt HO.out hk).1 (by omega))).trans HB.out; obtain ⟨⟨d0, d1, d2, d3, d4⟩, e0, e1, e2, e3, e4⟩ := hB3.cells; have HB3 := Lib.hid hB3; clear hB3 hfar; have HO3 := Lib.hid hO3; clear hO3; have hb5 : Below g w w3 := (by refine Below.trans ?_ (hb3.mono (by omega)); repeat (first | with_reducible exact Below.refl _ _ | with_reducible apply Below.drew | with_reducible refine Below.alloc ?_ (by first | omega | (simp; omega)) _)); have hsz3 : g < w3.heap.size := (by have := hb3.size; simp at this; omega); clear hb3))
  all_goals
    have HB4 : Hid (Blk (((w3.setCell ⟨g, 3, none⟩ (.slice (some ⟨g3, 0, none⟩) (out.length + 1) cp3)).setCell ⟨g, 1, none⟩ (.int .i64 ((p + m : Nat) : Int))).setCell ⟨g, 4, none⟩ (.bool true)) g src (p + m) line (.slice (some ⟨g3, 0, none⟩) (out.length + 1) cp3) true) :=
      heap_setCell_same _ g 4 _ _ _ (heap_setCell_same _ g 1 _ _ _ (heap_setCell_same _ g 3 _ _ _ HB3.out))
    have HO4 : Hid (OwnT (g + 1) (.slice (some ⟨g3, 0, none⟩) (out.length + 1) cp3) (out ++ [⟨k, t, n, p, line⟩]) (((w3.setCell ⟨g, 3, none⟩ (.slice (some ⟨g3, 0, none⟩) (out.length + 1) cp3)).setCell ⟨g, 1, none⟩ (.int .i64 ((p + m : Nat) : Int))).setCell ⟨g, 4, none⟩ (.bool true))) :=
      OwnT.other HO3.out fun b hb => by rw [heap_setCell_other _ _ _ _ (by simp; omega), heap_setCell_other _ _ _ _ (by simp; omega), heap_setCell_other _ _ _ _ (by simp; omega)]
    go_wp2
    go_end0
    exact ⟨rfl, ⟨_, HB4.out, HO4.out, by simp; omega⟩, ((hb5.setCell (p := ⟨g, 3, none⟩) (Nat.le_refl _) _).setCell (p := ⟨g, 1, none⟩) (Nat.le_refl _) _).setCell (p := ⟨g, 4, none⟩) (Nat.le_refl _) _⟩
/-- A scanner behind 'ends'. -/
def lastOf (out : List Tok) : Tok := out.getD (out.length - 1) zero
def ended (p : Nat) (line : Int) (out : List Tok) (fresh : Bool) : List Tok := if fresh = true ∧ Lxn.calls (lastOf out) = true then out ++ [⟨6, eol, 0, p, line⟩] else out
def Ended (g : Nat) (src : ByteArray) (p : Nat) (line : Int) (out : List Tok) (w : World) (e : Ending) (w' : World) : Prop :=
  e = .returned (.tuple #[]) ∧ (∃ v', Sc g src p line v' out false w') ∧ Below g w w'
set_option maxHeartbeats 4000000 in
set_option maxRecDepth 100000 in
theorem ends_stale (g : Nat) (src : ByteArray) (p : Nat) (line : Int) (v : Value) (out : List Tok) (w : World) (h : Hid (Sc g src p line v out false w)) :
    Calls Tryd.prog 26 #[.pointer (some ⟨g, 0, none⟩)] w (Ended g src p line out w) := by
  obtain ⟨⟨c0, c1, c2, c3, c4⟩, f0, f1, f2, f3, f4⟩ := h.out.blk.cells
  have hlt := h.out.lt
  go_enter Tryd.func26, Tryd.ntmps26
  go_wp2_with fail
  go_quiet (fail)
  go_wp2
  go_end0
  refine ⟨rfl, ⟨v, heap_setCell_same _ g 4 _ _ _ h.out.blk, OwnT.other h.out.own fun b hb => ?_, by simp; omega⟩, (below_drewN_up (Below.refl g w) nq).setCell (p := ⟨g, 4, none⟩) (Nat.le_refl _) _⟩
  rw [heap_setCell_other _ _ _ _ (by simp; omega)]; rfl
end Go.Proofs.YtjmgfhbadnechaaDoor.Lsb
