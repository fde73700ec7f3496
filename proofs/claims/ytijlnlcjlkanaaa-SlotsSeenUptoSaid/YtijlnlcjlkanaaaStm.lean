/- drowselaw10.awake. -/
import Derived.Test.YtijlnlcjlkanaaaStl
set_option linter.unusedVariables false
namespace Go.Proofs.Ytijlnlcjlkanaaa.Stm
open Go.RowKit Rwo Sta Stb Stc Stg Ste Rwp Sti Stj Stk Stl

def t0 : Tab := ⟨[], 2, 0, 0, []⟩
def t1 : Tab := ⟨[⟨1, 1, 7⟩], 2, 1, 1, [⟨1, 1⟩]⟩
def t2 : Tab := ⟨[⟨1, 1, 7⟩, ⟨1, 2, 8⟩], 2, 2, 2, [⟨1, 1⟩, ⟨2, 1⟩]⟩
def t3 : Tab := ⟨[⟨1, 0, 0⟩, ⟨1, 2, 8⟩], 2, 1, 2, [⟨2, 1⟩]⟩
def t4 : Tab := ⟨[⟨2, 3, 5⟩, ⟨1, 2, 8⟩], 2, 2, 3, [⟨2, 1⟩, ⟨1, 2⟩]⟩
theorem small_of {t : Tab} (h : (decide (t.sl.length ≤ t.most) && decide (t.most ≤ 1000000) && decide (t.count ≤ 1000000) && decide (t.born ≤ 1000000) && decide (t.ord.length ≤ 1000000) && t.sl.all (fun s => decide (s.gen ≤ 1000000) && decide (s.ser ≤ 1000000))) = true) : Small t := by
  simp only [Bool.and_eq_true, decide_eq_true_eq, List.all_eq_true] at h
  obtain ⟨⟨⟨⟨⟨h1, h2⟩, h3⟩, h4⟩, h5⟩, h6⟩ := h
  exact ⟨h1, h2, h3, h4, h5, h6⟩
def TakesTo (t t' : Tab) (x : Int) (h : Hd) : Prop := ∀ g vs vo w, TabAt g vs vo t w → Calls Try.prog 10 #[.pointer (some ⟨g, 0, none⟩), .int .i64 x] w fun e w' => e = .returned (.tuple #[.agg #[.int .u32 h.slot, .int .u32 h.gen], .int .i64 0]) ∧ ∃ vs' vo', TabAt g vs' vo' t' w' ∧ Step g vs vo vs' vo' w w'
theorem takes_to {t t' : Tab} {x : Int} {h : Hd} (hs : Small t) (ht : takeT t x = some (t', h)) : TakesTo t t' x h := by
  intro g vs vo w hT
  refine (take_any g vs vo t x w hT hs).mono ?_
  intro e w' he
  unfold TakeOut at he
  rw [ht] at he
  exact he
theorem takes1 : TakesTo t0 t1 7 ⟨1, 1⟩ := takes_to (small_of rfl) rfl
theorem takes2 : TakesTo t1 t2 8 ⟨2, 1⟩ := takes_to (small_of rfl) rfl
theorem takes4 : TakesTo t3 t4 5 ⟨1, 2⟩ := takes_to (small_of rfl) rfl
theorem takes3 (g : Nat) (vs vo : Value) (w : World) (h : TabAt g vs vo t2 w) : Calls Try.prog 10 #[.pointer (some ⟨g, 0, none⟩), .int .i64 9] w fun e w' => e = .returned (.tuple #[.agg #[.int .u32 0, .int .u32 0], .int .i64 101]) ∧ Below w.heap.size w w' := by
  refine (take_any g vs vo t2 9 w h (small_of rfl)).mono ?_
  intro e w' he
  exact he
theorem frees1 (g : Nat) (vs vo : Value) (w : World) (h : TabAt g vs vo t2 w) : Calls Try.prog 13 #[.pointer (some ⟨g, 0, none⟩), .agg #[.int .u32 (1 : Nat), .int .u32 (1 : Nat)]] w fun e w' => e = .returned (.int .i64 0) ∧ ∃ vo', TabAt g vs vo' t3 w' ∧ Step g vs vo vs vo' w w' :=
  free_yes g vs vo t2 1 1 0 w h (small_of rfl) rfl (by decide) (by decide) rfl (fun j hj => absurd hj (by omega))
theorem frees2 (g : Nat) (vs vo : Value) (w : World) (h : TabAt g vs vo t3 w) : Calls Try.prog 13 #[.pointer (some ⟨g, 0, none⟩), .agg #[.int .u32 (1 : Nat), .int .u32 (1 : Nat)]] w fun e w' => e = .returned (.int .i64 102) ∧ Below w.heap.size w w' :=
  free_no g vs vo t3 1 1 w h (small_of rfl) (by decide) rfl
theorem gets4 (g : Nat) (vs vo : Value) (w : World) (h : TabAt g vs vo t4 w) : Calls Try.prog 11 #[.pointer (some ⟨g, 0, none⟩), .agg #[.int .u32 (1 : Nat), .int .u32 (2 : Nat)]] w fun e w' => e = .returned (.tuple #[.int .i64 5, .int .i64 0]) ∧ Below w.heap.size w w' :=
  get_yes g vs vo t4 1 2 w h (small_of rfl) rfl 5 rfl
theorem serials4 (g : Nat) (vs vo : Value) (w : World) (h : TabAt g vs vo t4 w) : Calls Try.prog 29 #[.pointer (some ⟨g, 0, none⟩), .agg #[.int .u32 (1 : Nat), .int .u32 (2 : Nat)]] w fun e w' => e = .returned (.tuple #[.int .i64 (3 : Nat), .int .i64 0]) ∧ Below w.heap.size w w' :=
  serial_yes g vs vo t4 1 2 w h (small_of rfl) rfl 3 rfl
/-- The state between two of its lines. -/
structure Now (g : Nat) (t : Tab) (w w' : World) (l : List (Nat × Hd)) : Prop where
  ex : ∃ vs vo, TabAt g vs vo t w' ∧ ∀ p ∈ l, Box g vs vo p.1 p.2 w'
  le : w.heap.size ≤ g
  below : Below w.heap.size w w'
theorem below_step {g : Nat} {vs vo vs' vo' : Value} {t : Tab} {w w1 w2 : World} (hT : TabAt g vs vo t w1) (hg : w.heap.size ≤ g) (hb : Below w.heap.size w w1) (s : Step g vs vo vs' vo' w1 w2) : Below w.heap.size w w2 :=
  hb.trans (s.below hg hb.size (fun b e => by have := (hT.sl.lt e).1; omega) (fun b e => by have := (hT.ord.lt e).1; omega))
theorem Now.alloc {g : Nat} {t : Tab} {w w1 : World} {l : List (Nat × Hd)} (n : Now g t w w1 l) (h : Hd) : Now g t w (w1.alloc (.cells #[.int .u32 h.slot, .int .u32 h.gen] 33)) ((w1.heap.size, h) :: l) := by
  obtain ⟨⟨vs, vo, hT, hl⟩, hg, hb⟩ := n
  have hbx := (Below.refl w1.heap.size w1).alloc (Nat.le_refl _) (.cells #[.int .u32 h.slot, .int .u32 h.gen] 33)
  refine ⟨⟨vs, vo, hT.below hbx, ?_⟩, hg, hb.trans (hbx.mono hb.size)⟩
  intro p hp
  rcases List.mem_cons.1 hp with rfl | hp
  · exact ⟨Away.new hT (by rw [alloc_size]; exact Nat.lt_succ_self _), heap_alloc_new w1 _⟩
  · exact (hl p hp).below hbx
theorem Now.take {t t' : Tab} {x : Int} {h : Hd} (k : TakesTo t t' x h) {g : Nat} {w w1 : World} {l : List (Nat × Hd)} (n : Now g t w w1 l) :
    Calls Try.prog 10 #[.pointer (some ⟨g, 0, none⟩), .int .i64 x] w1 fun e w2 => e = .returned (.tuple #[.agg #[.int .u32 h.slot, .int .u32 h.gen], .int .i64 0]) ∧ Now g t' w w2 l := by
  obtain ⟨⟨vs, vo, hT, hl⟩, hg, hb⟩ := n
  refine (k g vs vo w1 hT).mono ?_
  rintro e w2 ⟨rfl, vs', vo', hT', hS⟩
  exact ⟨rfl, ⟨vs', vo', hT', fun p hp => (hl p hp).step hS⟩, hg, below_step hT hg hb hS⟩
theorem Now.quiet {t : Tab} {g : Nat} {w w1 w2 : World} {l : List (Nat × Hd)} (n : Now g t w w1 l) (hb2 : Below w1.heap.size w1 w2) : Now g t w w2 l := by
  obtain ⟨⟨vs, vo, hT, hl⟩, hg, hb⟩ := n
  exact ⟨⟨vs, vo, hT.below hb2, fun p hp => (hl p hp).below hb2⟩, hg, hb.trans (hb2.mono hb.size)⟩
theorem Now.full {g : Nat} {w w1 : World} {l : List (Nat × Hd)} (n : Now g t2 w w1 l) :
    Calls Try.prog 10 #[.pointer (some ⟨g, 0, none⟩), .int .i64 9] w1 fun e w2 => e = .returned (.tuple #[.agg #[.int .u32 0, .int .u32 0], .int .i64 101]) ∧ Now g t2 w w2 l := by
  obtain ⟨vs, vo, hT, hl⟩ := n.ex
  refine (takes3 g vs vo w1 hT).mono ?_
  rintro e w2 ⟨rfl, hb2⟩
  exact ⟨rfl, n.quiet hb2⟩
theorem Now.free {g : Nat} {w w1 : World} {l : List (Nat × Hd)} (n : Now g t2 w w1 l) :
    Calls Try.prog 13 #[.pointer (some ⟨g, 0, none⟩), .agg #[.int .u32 1, .int .u32 1]] w1 fun e w2 => e = .returned (.int .i64 0) ∧ Now g t3 w w2 l := by
  obtain ⟨⟨vs, vo, hT, hl⟩, hg, hb⟩ := n
  refine (frees1 g vs vo w1 hT).mono ?_
  rintro e w2 ⟨rfl, vo', hT', hS⟩
  exact ⟨rfl, ⟨vs, vo', hT', fun p hp => (hl p hp).step hS⟩, hg, below_step hT hg hb hS⟩
theorem Now.again {g : Nat} {w w1 : World} {l : List (Nat × Hd)} (n : Now g t3 w w1 l) :
    Calls Try.prog 13 #[.pointer (some ⟨g, 0, none⟩), .agg #[.int .u32 1, .int .u32 1]] w1 fun e w2 => e = .returned (.int .i64 102) ∧ Now g t3 w w2 l := by
  obtain ⟨vs, vo, hT, hl⟩ := n.ex
  refine (frees2 g vs vo w1 hT).mono ?_
  rintro e w2 ⟨rfl, hb2⟩
  exact ⟨rfl, n.quiet hb2⟩
theorem Now.get {g : Nat} {w w1 : World} {l : List (Nat × Hd)} (n : Now g t4 w w1 l) :
    Calls Try.prog 11 #[.pointer (some ⟨g, 0, none⟩), .agg #[.int .u32 1, .int .u32 2]] w1 fun e w2 => e = .returned (.tuple #[.int .i64 5, .int .i64 0]) ∧ Now g t4 w w2 l := by
  obtain ⟨vs, vo, hT, hl⟩ := n.ex
  refine (gets4 g vs vo w1 hT).mono ?_
  rintro e w2 ⟨rfl, hb2⟩
  exact ⟨rfl, n.quiet hb2⟩
theorem Now.serial {g : Nat} {w w1 : World} {l : List (Nat × Hd)} (n : Now g t4 w w1 l) :
    Calls Try.prog 29 #[.pointer (some ⟨g, 0, none⟩), .agg #[.int .u32 1, .int .u32 2]] w1 fun e w2 => e = .returned (.tuple #[.int .i64 3, .int .i64 0]) ∧ Now g t4 w w2 l := by
  obtain ⟨vs, vo, hT, hl⟩ := n.ex
  refine (serials4 g vs vo w1 hT).mono ?_
  rintro e w2 ⟨rfl, hb2⟩
  exact ⟨rfl, n.quiet hb2⟩
theorem Now.cells {g b : Nat} {t : Tab} {h : Hd} {w w1 : World} {l : List (Nat × Hd)} (n : Now g t w w1 l) (hm : (b, h) ∈ l) : w1.cell? ⟨b, 0, none⟩ = some (.int .u32 h.slot) ∧ w1.cell? ⟨b, 1, none⟩ = some (.int .u32 h.gen) := by
  obtain ⟨vs, vo, hT, hl⟩ := n.ex
  obtain ⟨c0, c1, _, _⟩ := hd_cells (hl _ hm).2
  exact ⟨c0, c1⟩
theorem cells_lit {W : World} {b : Nat} {h : Hd} {a c : Int} (k : W.cell? ⟨b, 0, none⟩ = some (.int .u32 h.slot) ∧ W.cell? ⟨b, 1, none⟩ = some (.int .u32 h.gen)) (e1 : (h.slot : Int) = a) (e2 : (h.gen : Int) = c) : W.cell? ⟨b, 0, none⟩ = some (.int .u32 a) ∧ W.cell? ⟨b, 1, none⟩ = some (.int .u32 c) := by rw [← e1, ← e2]; exact k
theorem new_now (w : World) : Calls Try.prog 9 #[.int .i64 2] w fun e w' => e = .returned (.tuple #[.pointer (some ⟨w.heap.size, 0, none⟩), .int .i64 0]) ∧ Now w.heap.size t0 w w' [] := by
  refine (new_ok 2 w (by omega) (by omega)).mono ?_
  rintro e w' ⟨rfl, hT, hb⟩
  exact ⟨rfl, ⟨_, _, hT, fun p hp => absurd hp (by simp)⟩, Nat.le_refl _, hb⟩
set_option maxHeartbeats 4000000 in
set_option maxRecDepth 100000 in
theorem awake_any (w : World) : Calls Try.prog 7 #[] w fun e w' => e = .returned (.bool true) ∧ Below w.heap.size w w' := by
  have N0 := new_now w
  go_enter Try.func7, Try.ntmps7
  go_wp2_with fail
  refine N0.mono ?_
  rintro e w1 ⟨rfl, n1⟩
  have C1 := Lib.hid (n1.take takes1)
  clear N0 n1
  go_wp2_with fail
  refine C1.out.mono ?_
  rintro e w2 ⟨rfl, n2⟩
  have C2 := Lib.hid ((n2.alloc ⟨1, 1⟩).take takes2)
  clear C1 n2
  go_wp2_with fail
  refine C2.out.mono ?_
  rintro e w3 ⟨rfl, n3⟩
  have C3 := Lib.hid ((n3.alloc ⟨2, 1⟩).full)
  clear C2 n3
  go_wp2_with fail
  refine C3.out.mono ?_
  rintro e w4 ⟨rfl, n4⟩
  have N4 : Hid (Now w.heap.size t2 w (w4.alloc (.cells #[.int .u32 0, .int .u32 0] 33)) _) := n4.alloc ⟨0, 0⟩
  have C4 := Lib.hid N4.out.free
  obtain ⟨c0, c1⟩ := cells_lit (a := 1) (c := 1) (N4.out.cells (b := w2.heap.size) (h := ⟨1, 1⟩) (by simp)) rfl rfl
  clear C3 n4
  go_wp2_with fail
  refine C4.out.mono ?_
  rintro e w5 ⟨rfl, n5⟩
  have N5 := Lib.hid n5
  have C5 := Lib.hid n5.again
  clear c0 c1
  obtain ⟨c0, c1⟩ := cells_lit (a := 1) (c := 1) (N5.out.cells (b := w2.heap.size) (h := ⟨1, 1⟩) (by simp)) rfl rfl
  clear C4 n5
  go_wp2_with fail
  refine C5.out.mono ?_
  rintro e w6 ⟨rfl, n6⟩
  have C6 := Lib.hid (n6.take takes4)
  clear c0 c1 C5 n6
  go_wp2_with fail
  refine C6.out.mono ?_
  rintro e w7 ⟨rfl, n7⟩
  have N7 : Hid (Now w.heap.size t4 w (w7.alloc (.cells #[.int .u32 1, .int .u32 2] 33)) _) := n7.alloc ⟨1, 2⟩
  have C7 := Lib.hid N7.out.get
  obtain ⟨c0, c1⟩ := cells_lit (a := 1) (c := 2) (N7.out.cells (b := w7.heap.size) (h := ⟨1, 2⟩) (by simp)) rfl rfl
  clear C6 n7
  go_wp2_with fail
  refine C7.out.mono ?_
  rintro e w8 ⟨rfl, n8⟩
  have N8 := Lib.hid n8
  have C8 := Lib.hid n8.serial
  clear c0 c1
  obtain ⟨c0, c1⟩ := cells_lit (a := 1) (c := 2) (N8.out.cells (b := w7.heap.size) (h := ⟨1, 2⟩) (by simp)) rfl rfl
  clear C7 n8
  go_wp2_with fail
  refine C8.out.mono ?_
  rintro e w9 ⟨rfl, n9⟩
  have N9 := Lib.hid n9
  clear c0 c1
  obtain ⟨c0, c1⟩ := cells_lit (a := 1) (c := 2) (N9.out.cells (b := w7.heap.size) (h := ⟨1, 2⟩) (by simp)) rfl rfl
  obtain ⟨d0, d1⟩ := cells_lit (a := 1) (c := 1) (N9.out.cells (b := w2.heap.size) (h := ⟨1, 1⟩) (by simp)) rfl rfl
  obtain ⟨e0, e1⟩ := cells_lit (a := 2) (c := 1) (N9.out.cells (b := w3.heap.size) (h := ⟨2, 1⟩) (by simp)) rfl rfl
  clear C8 n9
  go_wp2
  go_ret
  exact ⟨rfl, N9.out.below⟩
end Go.Proofs.Ytijlnlcjlkanaaa.Stm
