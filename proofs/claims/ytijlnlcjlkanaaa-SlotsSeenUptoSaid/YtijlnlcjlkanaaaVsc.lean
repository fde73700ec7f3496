/- SlotsSeen: the loop that lays the things. -/
import Derived.Test.YtijlnlcjlkanaaaVsb
set_option linter.unusedVariables false
namespace Go.Proofs.Ytijlnlcjlkanaaa.Vsc
open Sta (Hd hdE Step)
open Go.RowKit Go.Shelf Rwo Vta Vtb Vtc Vtd Vtg Vte Vtj Vtk Vtl Vtn Vud Vsa Vsb

abbrev thing (s : ByteArray) (b : Nat) : Th := ⟨s, some ⟨b, 0, none⟩, 1, 1⟩
/-- What the loop that lays the things keeps. -/
structure L1 (w0 : World) (bq ba bh bl bo bi g : Nat) (vl vO vi : Value) (l : List ByteArray) (k : Nat) (hs : List Hd) (xs : List Th) (vs vo vh : Value) (t : Tab) (w : World) : Prop where
  cur : Cur w0 bq ba bh bl bo bi g vl vO vi hs xs vs vo vh t w
  fine : Fine t k
  tl : tells t = hs.zip xs
  oh : t.ord = hs
  lh : hs.length = k
  lx : xs.length = k
  th : ∀ j, j < k → ∃ b, b < w.heap.size ∧ xs.getD j th0 = thing (l.getD j .empty) b
section
variable {w0 w W w' : World} {bq ba bh bl bo bi g b : Nat} {vl vO vi vs vo vh vs' vo' vh' : Value} {l : List ByteArray} {k : Nat} {hs : List Hd} {xs : List Th} {t t' : Tab} {y : Hd}
theorem Cur.addx {a : ByteArray} (c : Cur w0 bq ba bh bl bo bi g vl vO vi hs xs vs vo vh t w) (hb : Boxed w b 3 (.int .i64 xs.length)) : Cur w0 bq ba bh bl bo bi g vl vO vi hs (xs ++ [thing a b]) vs vo vh t w := by
  refine ⟨c.a, c.q, c.h, c.l, c.o, c.i, c.tab, c.told, c.d1, fun j hj k hk => ?_, c.lg, c.lh, c.below⟩
  rw [getD_app] at hk
  rw [List.length_append] at hj
  by_cases h1 : j < xs.length
  · rw [if_pos h1] at hk; exact c.xs j h1 k hk
  · have h2 : j = xs.length := by simp at hj; omega
    subst h2
    rw [if_neg h1, if_pos rfl] at hk
    have h3 : b = k := by simpa using hk
    subst h3
    exact hb
theorem L1.took (s : L1 w0 bq ba bh bl bo bi g vl vO vi l k hs xs vs vo vh t w) {a : ByteArray} (hb : Below w.heap.size w W) (hbox : Boxed W b 3 (.int .i64 k)) (hT : TabAt g vs' vo' t' w') (hS : Step g vs vo vs' vo' W w') :
    Cur w0 bq ba bh bl bo bi g vl vO vi hs (xs ++ [thing a b]) vs' vo' vh t' w' :=
  (Cur.addx (a := a) (s.cur.quiet hb) (by rw [s.lx]; exact hbox)).step hT hS
theorem L1.next (s : L1 w0 bq ba bh bl bo bi g vl vO vi l k hs xs vs vo vh t w) (hk : takeT t (thing (l.getD k .empty) b) = some (t', y)) (c : Cur w0 bq ba bh bl bo bi g vl vO vi (hs ++ [y]) (xs ++ [thing (l.getD k .empty) b]) vs' vo' vh' t' w') (hb : b < w'.heap.size) (hz : w.heap.size ≤ w'.heap.size) :
    L1 w0 bq ba bh bl bo bi g vl vO vi l (k + 1) (hs ++ [y]) (xs ++ [thing (l.getD k .empty) b]) vs' vo' vh' t' w' := by
  obtain ⟨h1, h2, h3, h4⟩ := s.fine.take hk
  refine ⟨c, h1, ?_, ?_, ?_, ?_, ?_⟩
  · rw [h2, s.tl, List.zip_append (by rw [s.lh, s.lx])]; rfl
  · rw [h4, s.oh]
  · rw [List.length_append, s.lh]; rfl
  · rw [List.length_append, s.lx]; rfl
  · intro j hj
    rw [getD_app, s.lx]
    by_cases h5 : j < k
    · rw [if_pos h5]
      obtain ⟨b', hb', e⟩ := s.th j h5
      exact ⟨b', by omega, e⟩
    · have h6 : j = k := by omega
      subst h6
      rw [if_neg h5, if_pos rfl]
      exact ⟨b, hb, rfl⟩
abbrev iB (k : Nat) : Obj := .cells #[.int .i64 (k : Int)] 3
abbrev hB (y : Hd) : Obj := .cells #[.int .u32 y.slot, .int .u32 y.gen] 33
abbrev hB0 : Obj := .cells #[.int .u32 0, .int .u32 0] 33
/-- The slot that is taken does not hang on the thing. -/
theorem Fine.rooms {t : Tab} {k : Nat} (f : Fine t k) (hk : k < 500) : ∃ (F : Th → Tab) (y : Hd), ∀ x, takeT t x = some (F x, y) := by
  cases hr : Vtl.room t with
  | none =>
    have := room_none f.ok hr
    have := f.c; have := f.m
    omega
  | some p =>
    refine ⟨fun x => laidIn p.1 p.2 x, ⟨p.2 + 1, (p.1.sl.getD p.2 ⟨0, 0, th0⟩).gen + 1⟩, fun x => ?_⟩
    unfold takeT
    rw [hr]
    rfl
/-- Behind Take: its handle lies in a box. -/
structure Laid (w0 : World) (bq ba bh bl bo bi g : Nat) (vl vO vi : Value) (hs : List Hd) (xs : List Th) (vs vo vh : Value) (t : Tab) (y : Hd) (bH bx : Nat) (wr W : World) : Prop where
  cur : Cur w0 bq ba bh bl bo bi g vl vO vi hs xs vs vo vh t W
  box : W.heap[bH]? = some (hB y)
  lt : bx < W.heap.size
  size : wr.heap.size ≤ W.heap.size
theorem Cur.handle (c : Cur w0 bq ba bh bl bo bi g vl vO vi hs xs vs vo vh t w) {bH : Nat} {y0 : Hd} (hb : w.heap[bH]? = some (hB y0)) (hw : w0.heap.size ≤ bH) (ns : vs.ownBlock ≠ some bH) (no : vo.ownBlock ≠ some bH) (nh : vh.ownBlock ≠ some bH) (j : Nat) (u : Value) :
    Cur w0 bq ba bh bl bo bi g vl vO vi hs xs vs vo vh t (w.setCell ⟨bH, j, none⟩ u) := by
  have hsz := (Below.refl 0 w).setCell (p := ⟨bH, j, none⟩) (Nat.zero_le _) u
  have kp : ∀ {k : Nat} {cs : Array Value} {U : TypeId}, w.heap[k]? = some (.cells cs U (0, 0)) → U ≠ 33 → (w.setCell ⟨bH, j, none⟩ u).heap[k]? = some (.cells cs U (0, 0)) := fun {k cs U} e h1 => (sc_other (Vsb.blk_ne e hb h1)).trans e
  exact ⟨kp c.a (by decide), kp c.q (by decide), kp c.h (by decide), kp c.l (by decide), kp c.o (by decide), kp c.i (by decide),
    ⟨kp c.tab.blk (by decide), c.tab.sl.kept fun k hk => sc_other (fun e => ns (e ▸ hk)), c.tab.ord.kept fun k hk => sc_other (fun e => no (e ▸ hk)), Nat.lt_of_lt_of_le c.tab.lt hsz.size⟩,
    c.told.kept fun k hk => sc_other (fun e => nh (e ▸ hk)), c.d1, fun j hj k hk => kp (c.xs j hj k hk) (by decide), c.lg, c.lh, c.below.setCell (p := ⟨bH, j, none⟩) hw u⟩
theorem laid_last (s : L1 w0 bq ba bh bl bo bi g vl vO vi l k hs xs vs vo vh t w) {a : ByteArray} {w5 : World} {vs5 vo5 : Value} (hT : TabAt g vs5 vo5 t' w5) (hS : Step g vs vo vs5 vo5 (w.alloc (iB k)).drew w5) :
    Cur w0 bq ba bh bl bo bi g vl vO vi hs (xs ++ [thing a w.heap.size]) vs5 vo5 vh t' w5 ∧ Laid w0 bq ba bh bl bo bi g vl vO vi hs (xs ++ [thing a w.heap.size]) vs5 vo5 vh t' y w5.heap.size w.heap.size w (w5.alloc (hB y)) := by
  have c := s.took (a := a) (Vsb.below_new w (iB k)).drew (Boxed.new w 3 (.int .i64 (k : Int))) hT hS
  have hz := hS.size
  have hz2 : (w.alloc (iB k)).drew.heap.size = w.heap.size + 1 := by simp
  have hz3 : (w5.alloc (hB y)).heap.size = w5.heap.size + 1 := by simp
  exact ⟨c, c.quiet (Vsb.below_new w5 _), heap_alloc_new w5 _, by omega, by omega⟩
/-- The box was there before Take was called. -/
theorem laid_put {a : ByteArray} {w5 W : World} {vs5 vo5 : Value} {bH bx : Nat} (c0 : Cur w0 bq ba bh bl bo bi g vl vO vi hs xs vs vo vh t W) (c : Cur w0 bq ba bh bl bo bi g vl vO vi hs (xs ++ [thing a bx]) vs5 vo5 vh t' w5) (hS : Step g vs vo vs5 vo5 W w5)
    (hb : W.heap[bH]? = some hB0) (ng : bH ≠ g) (ns : vs.ownBlock ≠ some bH) (no : vo.ownBlock ≠ some bH) (nh : vh.ownBlock ≠ some bH) (hw : w0.heap.size ≤ bH) (hx : bx < W.heap.size) (hz : w.heap.size ≤ W.heap.size) :
    Laid w0 bq ba bh bl bo bi g vl vO vi hs (xs ++ [thing a bx]) vs5 vo5 vh t' y bH bx w ((w5.setCell ⟨bH, 0, none⟩ (.int .u32 y.slot)).setCell ⟨bH, 1, none⟩ (.int .u32 y.gen)) := by
  have hlt := (Array.getElem?_eq_some_iff.1 hb).1
  have h5 : w5.heap[bH]? = some hB0 := (hS.far bH hlt ng ns no).trans hb
  have ns5 : vs5.ownBlock ≠ some bH := fun e => (hS.nvs bH e).elim ns (fun x => by omega)
  have no5 : vo5.ownBlock ≠ some bH := fun e => (hS.nvo bH e).elim no (fun x => by omega)
  have h6 : (w5.setCell ⟨bH, 0, none⟩ (.int .u32 y.slot)).heap[bH]? = some (.cells #[.int .u32 y.slot, .int .u32 (0 : Nat)] 33) := heap_setCell_same _ bH 0 #[.int .u32 (0 : Nat), .int .u32 (0 : Nat)] _ _ h5
  have c6 := Cur.handle c (y0 := ⟨0, 0⟩) h5 hw ns5 no5 nh 0 (.int .u32 y.slot)
  have hz5 := hS.size
  have hzz : ((w5.setCell ⟨bH, 0, none⟩ (.int .u32 y.slot)).setCell ⟨bH, 1, none⟩ (.int .u32 y.gen)).heap.size = w5.heap.size := by simp
  exact ⟨Cur.handle c6 (y0 := ⟨y.slot, 0⟩) h6 hw ns5 no5 nh 1 (.int .u32 y.gen), heap_setCell_same _ bH 1 #[.int .u32 y.slot, .int .u32 (0 : Nat)] _ _ h6, by omega, by omega⟩
theorem laid_mid (s : L1 w0 bq ba bh bl bo bi g vl vO vi l k hs xs vs vo vh t w) {a : ByteArray} {w5 : World} {vs5 vo5 : Value} (hT : TabAt g vs5 vo5 t' w5) (hS : Step g vs vo vs5 vo5 ((w.alloc (iB k)).alloc hB0).drew w5) :
    Cur w0 bq ba bh bl bo bi g vl vO vi hs (xs ++ [thing a w.heap.size]) vs5 vo5 vh t' w5 ∧ Laid w0 bq ba bh bl bo bi g vl vO vi hs (xs ++ [thing a w.heap.size]) vs5 vo5 vh t' y (w.heap.size + 1) w.heap.size w ((w5.setCell ⟨w.heap.size + 1, 0, none⟩ (.int .u32 y.slot)).setCell ⟨w.heap.size + 1, 1, none⟩ (.int .u32 y.gen)) ∧ w5.heap[w.heap.size + 1]? = some hB0 := by
  have k1 := Vsb.below_new w (iB k)
  have k2 := Vsb.below_new (w.alloc (iB k)) hB0
  have k12 := (k1.trans (k2.mono k1.size)).drew
  have z1 : (w.alloc (iB k)).heap.size = w.heap.size + 1 := by simp
  have z2 : ((w.alloc (iB k)).alloc hB0).drew.heap.size = w.heap.size + 2 := by simp
  have hn : ((w.alloc (iB k)).alloc hB0).drew.heap[w.heap.size + 1]? = some hB0 := by rw [← z1]; exact heap_alloc_new (w.alloc (iB k)) hB0
  have c := s.took (a := a) (b := w.heap.size) k12 ((k2.block w.heap.size (by omega)).trans (Boxed.new w 3 (.int .i64 (k : Int)))) hT hS
  have hb0 := s.cur.below.size
  have ng := s.cur.tab.lt
  exact ⟨c, laid_put (s.cur.quiet k12) c hS hn (by omega) (fun e => by have := (s.cur.tab.sl.lt e).2; omega) (fun e => by have := (s.cur.tab.ord.lt e).2; omega) (fun e => by have := (s.cur.told.lt e).2; omega) (by omega) (by omega) (by omega), (hS.far _ (Array.getElem?_eq_some_iff.1 hn).1 (by omega) (fun e => by have := (s.cur.tab.sl.lt e).2; omega) (fun e => by have := (s.cur.tab.ord.lt e).2; omega)).trans hn⟩
theorem laid_first (s : L1 w0 bq ba bh bl bo bi g vl vO vi l k hs xs vs vo vh t w) {a : ByteArray} {w5 : World} {vs5 vo5 : Value} (hT : TabAt g vs5 vo5 t' w5) (hS : Step g vs vo vs5 vo5 ((w.alloc hB0).alloc (iB k)).drew w5) :
    Cur w0 bq ba bh bl bo bi g vl vO vi hs (xs ++ [thing a (w.heap.size + 1)]) vs5 vo5 vh t' w5 ∧ Laid w0 bq ba bh bl bo bi g vl vO vi hs (xs ++ [thing a (w.heap.size + 1)]) vs5 vo5 vh t' y w.heap.size (w.heap.size + 1) w ((w5.setCell ⟨w.heap.size, 0, none⟩ (.int .u32 y.slot)).setCell ⟨w.heap.size, 1, none⟩ (.int .u32 y.gen)) ∧ w5.heap[w.heap.size]? = some hB0 := by
  have k1 := Vsb.below_new w hB0
  have k2 := Vsb.below_new (w.alloc hB0) (iB k)
  have k12 := (k1.trans (k2.mono k1.size)).drew
  have z1 : (w.alloc hB0).heap.size = w.heap.size + 1 := by simp
  have z2 : ((w.alloc hB0).alloc (iB k)).drew.heap.size = w.heap.size + 2 := by simp
  have hn : ((w.alloc hB0).alloc (iB k)).drew.heap[w.heap.size]? = some hB0 := (k2.block w.heap.size (by omega)).trans (heap_alloc_new w hB0)
  have hx : Boxed ((w.alloc hB0).alloc (iB k)).drew (w.heap.size + 1) 3 (.int .i64 (k : Int)) := by rw [← z1]; exact Boxed.new (w.alloc hB0) 3 (.int .i64 (k : Int))
  have c := s.took (a := a) (b := w.heap.size + 1) k12 hx hT hS
  have hb0 := s.cur.below.size
  have ng := s.cur.tab.lt
  exact ⟨c, laid_put (s.cur.quiet k12) c hS hn (by omega) (fun e => by have := (s.cur.tab.sl.lt e).2; omega) (fun e => by have := (s.cur.tab.ord.lt e).2; omega) (fun e => by have := (s.cur.told.lt e).2; omega) (by omega) (by omega) (by omega), (hS.far _ (Array.getElem?_eq_some_iff.1 hn).1 (by omega) (fun e => by have := (s.cur.tab.sl.lt e).2; omega) (fun e => by have := (s.cur.tab.ord.lt e).2; omega)).trans hn⟩
end
theorem cur_start {w w1 w2 : World} {vl vO vi : Value}
    (hb1 : Below (((w.alloc (.cells #[vl] 45)).alloc (.cells #[vO] 30)).alloc (.cells #[vi] 45)).heap.size (((w.alloc (.cells #[vl] 45)).alloc (.cells #[vO] 30)).alloc (.cells #[vi] 45)) w1)
    (hT : TabAt w1.heap.size (.slice none 0 0) (.slice none 0 0) ⟨[], 500, 0, 0, []⟩ w2) (hb2 : Below w1.heap.size w1 w2) :
    Cur w w2.heap.size w2.heap.size (w2.heap.size + 1) w.heap.size (w.heap.size + 1) (w.heap.size + 1 + 1) w1.heap.size vl vO vi [] [] (.slice none 0 0) (.slice none 0 0) (.slice none 0 0) ⟨[], 500, 0, 0, []⟩ ((w2.alloc (.cells #[.pointer (some ⟨w1.heap.size, 0, none⟩)] 46)).alloc (.cells #[.slice none 0 0] 29)) := by
  have k1 := Vsb.below_new w (.cells #[vl] 45)
  have k2 := Vsb.below_new (w.alloc (.cells #[vl] 45)) (.cells #[vO] 30)
  have k3 := Vsb.below_new ((w.alloc (.cells #[vl] 45)).alloc (.cells #[vO] 30)) (.cells #[vi] 45)
  have x1 := Boxed.new w 45 vl
  have x2 := Boxed.new (w.alloc (.cells #[vl] 45)) 30 vO
  have x3 := Boxed.new ((w.alloc (.cells #[vl] 45)).alloc (.cells #[vO] 30)) 45 vi
  have z1 : (w.alloc (.cells #[vl] 45)).heap.size = w.heap.size + 1 := by simp
  have z2 : ((w.alloc (.cells #[vl] 45)).alloc (.cells #[vO] 30)).heap.size = w.heap.size + 2 := by simp
  have z3 : (((w.alloc (.cells #[vl] 45)).alloc (.cells #[vO] 30)).alloc (.cells #[vi] 45)).heap.size = w.heap.size + 3 := by simp
  rw [z1] at x2
  rw [z2] at x3
  have k13 := (k1.trans (k2.mono k1.size)).trans (k3.mono (by omega))
  have k14 := k13.trans (hb1.mono k13.size)
  have k15 := k14.trans (hb2.mono k14.size)
  have k6 := Vsb.below_new w2 (.cells #[.pointer (some ⟨w1.heap.size, 0, none⟩)] 46)
  have k7 := Vsb.below_new (w2.alloc (.cells #[.pointer (some ⟨w1.heap.size, 0, none⟩)] 46)) (.cells #[.slice none 0 0] 29)
  have k67 := k6.trans (k7.mono k6.size)
  have x6 := Boxed.new w2 46 (.pointer (some ⟨w1.heap.size, 0, none⟩))
  have x7 := Boxed.new (w2.alloc (.cells #[.pointer (some ⟨w1.heap.size, 0, none⟩)] 46)) 29 (.slice none 0 0)
  have z6 : (w2.alloc (.cells #[.pointer (some ⟨w1.heap.size, 0, none⟩)] 46)).heap.size = w2.heap.size + 1 := by simp
  rw [z6] at x7
  have h3 := hb1.size
  have h4 := hb2.size
  have kk : ∀ {b : Nat} {T : TypeId} {v : Value}, Boxed (((w.alloc (.cells #[vl] 45)).alloc (.cells #[vO] 30)).alloc (.cells #[vi] 45)) b T v → Boxed ((w2.alloc (.cells #[.pointer (some ⟨w1.heap.size, 0, none⟩)] 46)).alloc (.cells #[.slice none 0 0] 29)) b T v := fun h =>
    Vsb.boxed_below (Vsb.boxed_below (Vsb.boxed_below h hb1) hb2) k67
  exact ⟨Vsb.boxed_below x6 k7, Vsb.boxed_below x6 k7, x7, kk (Vsb.boxed_below (Vsb.boxed_below x1 k2) k3), kk (Vsb.boxed_below x2 k3), kk x3, hT.below k67, Own.nil _ _, fun b e => (by cases e), fun j hj => absurd hj (by simp), by omega, by omega, k15.trans (k67.mono k15.size)⟩
theorem l1_start {w0 w : World} {bq ba bh bl bo bi g : Nat} {vl vO vi vs vo vh : Value} (l : List ByteArray) (c : Cur w0 bq ba bh bl bo bi g vl vO vi [] [] vs vo vh ⟨[], 500, 0, 0, []⟩ w) : L1 w0 bq ba bh bl bo bi g vl vO vi l 0 [] [] vs vo vh ⟨[], 500, 0, 0, []⟩ w :=
  ⟨c, Fine.start, rfl, rfl, rfl, rfl, fun j hj => absurd hj (by omega)⟩
end Go.Proofs.Ytijlnlcjlkanaaa.Vsc
