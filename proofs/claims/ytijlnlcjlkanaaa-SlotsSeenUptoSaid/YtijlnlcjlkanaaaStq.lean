/- SlotsNever: the table and its three lists in memory. -/
import Derived.Test.YtijlnlcjlkanaaaSto
import Derived.Test.YtijlnlcjlkanaaaSlp
import Derived.Test.YtijlnlcjlkanaaaStp
set_option linter.unusedVariables false
namespace Go.Proofs.Ytijlnlcjlkanaaa.Stq
open Go.RowKit Rwo Sta Stb Stc Stg Ste Rwp Sti Stj Stk Stl Stn Sto Slo Slp

/-- The table and the lists, each in blocks of its own. -/
structure Cur (w0 : World) (g : Nat) (vs vo vt vx vg : Value) (t : Tab) (ts : List Hd) (xs gs : List Int) (w : World) : Prop where
  tab : TabAt g vs vo t w
  told : Own hdE 33 (g + 1) vt ts w
  things : Own i64E 3 (g + 1) vx xs w
  gone : Own i64E 3 (g + 1) vg gs w
  d1 : ∀ b, vt.ownBlock = some b → vo.ownBlock ≠ some b
  d2 : ∀ b, vx.ownBlock = some b → vg.ownBlock ≠ some b
  le : w0.heap.size ≤ g
  below : Below w0.heap.size w0 w
/-- A row changes, and nothing else that was there. -/
structure RowStep (v v' : Value) (w w' : World) : Prop where
  os : w'.os = w.os
  tape : w'.tape = w.tape
  output : w'.output = w.output
  size : w.heap.size ≤ w'.heap.size
  far : ∀ b, b < w.heap.size → v.ownBlock ≠ some b → w'.heap[b]? = w.heap[b]?
  nv : ∀ b, v'.ownBlock = some b → v.ownBlock = some b ∨ w.heap.size ≤ b
theorem RowStep.below {v v' : Value} {w w' : World} (h : RowStep v v' w w') {B : Nat} (hw : B ≤ w.heap.size) (h1 : ∀ b, v.ownBlock = some b → B ≤ b) : Below B w w' :=
  ⟨h.os, h.tape, h.output, h.size, fun b hb => h.far b (by omega) (fun e => absurd (h1 b e) (by omega))⟩
variable {w0 w w' : World} {g : Nat} {vs vo vt vx vg : Value} {t : Tab} {ts : List Hd} {xs gs : List Int}
theorem Cur.quiet (c : Cur w0 g vs vo vt vx vg t ts xs gs w) (h : Below w.heap.size w w') : Cur w0 g vs vo vt vx vg t ts xs gs w' :=
  ⟨c.tab.below h, c.told.below h (Nat.le_refl _), c.things.below h (Nat.le_refl _), c.gone.below h (Nat.le_refl _), c.d1, c.d2, c.le, c.below.trans (h.mono c.below.size)⟩
theorem Cur.step (c : Cur w0 g vs vo vt vx vg t ts xs gs w) {vs' vo' : Value} {t' : Tab} (hT : TabAt g vs' vo' t' w') (h : Step g vs vo vs' vo' w w') : Cur w0 g vs' vo' vt vx vg t' ts xs gs w' := by
  refine ⟨hT, c.told.kept fun b hb => ?_, c.things.kept fun b hb => ?_, c.gone.kept fun b hb => ?_, fun b hb e => ?_, c.d2, c.le, ?_⟩
  · exact h.far b (c.told.lt hb).2 (by have := (c.told.lt hb).1; omega) (Own.apart c.told c.tab.sl (by decide) hb) (c.d1 b hb)
  · exact h.far b (c.things.lt hb).2 (by have := (c.things.lt hb).1; omega) (Own.apart c.things c.tab.sl (by decide) hb) (Own.apart c.things c.tab.ord (by decide) hb)
  · exact h.far b (c.gone.lt hb).2 (by have := (c.gone.lt hb).1; omega) (Own.apart c.gone c.tab.sl (by decide) hb) (Own.apart c.gone c.tab.ord (by decide) hb)
  · rcases h.nvo b e with h1 | h1
    · exact c.d1 b hb h1
    · have := (c.told.lt hb).2; omega
  · exact c.below.trans (h.below c.le c.below.size (fun b e => by have := (c.tab.sl.lt e).1; have := c.le; omega) (fun b e => by have := (c.tab.ord.lt e).1; have := c.le; omega))
/-- The table, where another row changes. -/
theorem tab_row {v v' : Value} (hT : TabAt g vs vo t w) (h : RowStep v v' w w') (hg : v.ownBlock ≠ some g) (h1 : ∀ b, v.ownBlock = some b → vs.ownBlock ≠ some b) (h2 : ∀ b, v.ownBlock = some b → vo.ownBlock ≠ some b) : TabAt g vs vo t w' :=
  ⟨(h.far g hT.lt hg).trans hT.blk, hT.sl.kept fun b hb => h.far b (hT.sl.lt hb).2 (fun e => h1 b e hb), hT.ord.kept fun b hb => h.far b (hT.ord.lt hb).2 (fun e => h2 b e hb), Nat.lt_of_lt_of_le hT.lt h.size⟩
theorem Cur.putTold (c : Cur w0 g vs vo vt vx vg t ts xs gs w) {vt' : Value} {ts' : List Hd} (hO : Own hdE 33 (g + 1) vt' ts' w') (h : RowStep vt vt' w w') : Cur w0 g vs vo vt' vx vg t ts' xs gs w' := by
  have hl := c.le
  have hg : vt.ownBlock ≠ some g := fun e => by have := (c.told.lt e).1; omega
  refine ⟨tab_row c.tab h hg (fun b hb => Own.apart c.told c.tab.sl (by decide) hb) c.d1, hO, c.things.kept fun b hb => h.far b (c.things.lt hb).2 (Own.apart c.things c.told (by decide) hb), c.gone.kept fun b hb => h.far b (c.gone.lt hb).2 (Own.apart c.gone c.told (by decide) hb), fun b hb e => ?_, c.d2, hl, c.below.trans (h.below c.below.size fun b e => by have := (c.told.lt e).1; omega)⟩
  rcases h.nv b hb with h1 | h1
  · exact c.d1 b h1 e
  · have := (c.tab.ord.lt e).2; omega
theorem Cur.putThings (c : Cur w0 g vs vo vt vx vg t ts xs gs w) {vx' : Value} {xs' : List Int} (hO : Own i64E 3 (g + 1) vx' xs' w') (h : RowStep vx vx' w w') : Cur w0 g vs vo vt vx' vg t ts xs' gs w' := by
  have hl := c.le
  have hg : vx.ownBlock ≠ some g := fun e => by have := (c.things.lt e).1; omega
  refine ⟨tab_row c.tab h hg (fun b hb => Own.apart c.things c.tab.sl (by decide) hb) (fun b hb => Own.apart c.things c.tab.ord (by decide) hb), c.told.kept fun b hb => h.far b (c.told.lt hb).2 (Own.apart c.told c.things (by decide) hb), hO, c.gone.kept fun b hb => h.far b (c.gone.lt hb).2 (fun e => c.d2 b e hb), c.d1, fun b hb e => ?_, hl, c.below.trans (h.below c.below.size fun b e => by have := (c.things.lt e).1; omega)⟩
  rcases h.nv b hb with h1 | h1
  · exact c.d2 b h1 e
  · have := (c.gone.lt e).2; omega
theorem Cur.putGone (c : Cur w0 g vs vo vt vx vg t ts xs gs w) {vg' : Value} {gs' : List Int} (hO : Own i64E 3 (g + 1) vg' gs' w') (h : RowStep vg vg' w w') : Cur w0 g vs vo vt vx vg' t ts xs gs' w' := by
  have hl := c.le
  have hg : vg.ownBlock ≠ some g := fun e => by have := (c.gone.lt e).1; omega
  refine ⟨tab_row c.tab h hg (fun b hb => Own.apart c.gone c.tab.sl (by decide) hb) (fun b hb => Own.apart c.gone c.tab.ord (by decide) hb), c.told.kept fun b hb => h.far b (c.told.lt hb).2 (Own.apart c.told c.gone (by decide) hb), c.things.kept fun b hb => h.far b (c.things.lt hb).2 (c.d2 b hb), hO, c.d1, fun b hb e => ?_, hl, c.below.trans (h.below c.below.size fun b e => by have := (c.gone.lt e).1; omega)⟩
  rcases h.nv b e with h1 | h1
  · exact c.d2 b hb h1
  · have := (c.things.lt hb).2; omega
/-- A number of a row is written. -/
theorem store_int {B b cp n j : Nat} {l : List Int} {x : Int} (h : Own i64E 3 B (.slice (some ⟨b, 0, none⟩) n cp) l w) (hj : j < l.length) :
    Own i64E 3 B (.slice (some ⟨b, 0, none⟩) n cp) (l.set j x) (w.setCell ⟨b, j, none⟩ (.int .i64 x)) ∧ RowStep (.slice (some ⟨b, 0, none⟩) n cp) (.slice (some ⟨b, 0, none⟩) n cp) w (w.setCell ⟨b, j, none⟩ (.int .i64 x)) := by
  have hb := (Below.refl 0 w).setCell (p := ⟨b, j, none⟩) (Nat.zero_le _) (.int .i64 x)
  refine ⟨?_, ⟨hb.os, hb.tape, hb.output, hb.size, fun b' h' hn => ?_, fun _ e => .inl e⟩⟩
  · have := h.store j 0 (.int .i64 x) x hj (by show 0 < 1; omega) rfl
    rw [show j * i64E.z + 0 = j from Nat.mul_one j] at this
    exact this
  · exact heap_setCell_other w ⟨b, j, none⟩ b' _ (fun e => hn (by rw [e]; rfl))
theorem int_at {B b cp n j : Nat} {l : List Int} {x : Int} (h : Own i64E 3 B (.slice (some ⟨b, 0, none⟩) n cp) l w) (hj : j < l.length) (hx : l.getD j 0 = x) :
    w.cell? ⟨b, j, none⟩ = some (.int .i64 x) ∧ w.frozen? ⟨b, j, none⟩ = false := by
  have := h.cell j 0 hj (by show 0 < 1; omega)
  rw [show j * i64E.z + 0 = j from Nat.mul_one j] at this
  exact ⟨this.trans (by rw [← hx]; rfl), h.frozen j⟩
/-- Behind an append. -/
theorem row_step {B : Nat} {v v' : Value} {W : World} (hb : Below B W w') (hW : W.os = w.os ∧ W.tape = w.tape ∧ W.output = w.output) (far : ∀ b, b < w.heap.size → v.ownBlock ≠ some b → w'.heap[b]? = w.heap[b]?) (hs : w.heap.size < w'.heap.size) (nv : ∀ b, v'.ownBlock = some b → v.ownBlock = some b ∨ w.heap.size ≤ b) : RowStep v v' w w' :=
  ⟨hb.os.trans hW.1, hb.tape.trans hW.2.1, hb.output.trans hW.2.2, Nat.le_of_lt hs, far, nv⟩
/-- An op of the round lies in a block that is none of the others'. -/
structure OpAt (g : Nat) (vs vo vt vx vg : Value) (r : Nat) (o : Ins) (w : World) : Prop where
  blk : w.heap[r]? = some (.cells #[.int .i64 o.kind, .int .i64 o.x, .int .i64 o.which, .int .i64 o.early, .int .u32 o.slot, .int .u32 o.gen, .bool o.hand] 35 (0, 0))
  lt : r < w.heap.size
  ng : r ≠ g
  ns : vs.ownBlock ≠ some r
  no : vo.ownBlock ≠ some r
  nt : vt.ownBlock ≠ some r
  nx : vx.ownBlock ≠ some r
  nd : vg.ownBlock ≠ some r
variable {r : Nat} {o : Ins}
theorem OpAt.new (c : Cur w0 g vs vo vt vx vg t ts xs gs w) (o : Ins) : OpAt g vs vo vt vx vg w.heap.size o (w.alloc (.cells #[.int .i64 o.kind, .int .i64 o.x, .int .i64 o.which, .int .i64 o.early, .int .u32 o.slot, .int .u32 o.gen, .bool o.hand] 35)) :=
  ⟨heap_alloc_new w _, by rw [alloc_size]; exact Nat.lt_succ_self _, by have := c.tab.lt; omega, fun e => by have := (c.tab.sl.lt e).2; omega, fun e => by have := (c.tab.ord.lt e).2; omega, fun e => by have := (c.told.lt e).2; omega, fun e => by have := (c.things.lt e).2; omega, fun e => by have := (c.gone.lt e).2; omega⟩
theorem OpAt.step (h : OpAt g vs vo vt vx vg r o w) {vs' vo' : Value} (k : Step g vs vo vs' vo' w w') : OpAt g vs' vo' vt vx vg r o w' :=
  ⟨(k.far r h.lt h.ng h.ns h.no).trans h.blk, Nat.lt_of_lt_of_le h.lt k.size, h.ng, fun e => (k.nvs r e).elim h.ns (fun x => by have := h.lt; omega), fun e => (k.nvo r e).elim h.no (fun x => by have := h.lt; omega), h.nt, h.nx, h.nd⟩
theorem OpAt.below (h : OpAt g vs vo vt vx vg r o w) (k : Below w.heap.size w w') : OpAt g vs vo vt vx vg r o w' :=
  ⟨(k.block r h.lt).trans h.blk, Nat.lt_of_lt_of_le h.lt k.size, h.ng, h.ns, h.no, h.nt, h.nx, h.nd⟩
theorem OpAt.told (h : OpAt g vs vo vt vx vg r o w) {vt' : Value} (k : RowStep vt vt' w w') : OpAt g vs vo vt' vx vg r o w' :=
  ⟨(k.far r h.lt h.nt).trans h.blk, Nat.lt_of_lt_of_le h.lt k.size, h.ng, h.ns, h.no, fun e => (k.nv r e).elim h.nt (fun x => by have := h.lt; omega), h.nx, h.nd⟩
theorem OpAt.cells (h : OpAt g vs vo vt vx vg r o w) : w.cell? ⟨r, 0, none⟩ = some (.int .i64 o.kind) ∧ w.cell? ⟨r, 1, none⟩ = some (.int .i64 o.x) ∧ w.cell? ⟨r, 2, none⟩ = some (.int .i64 o.which) := by
  refine ⟨?_, ?_, ?_⟩
  all_goals (rw [cell_of_row w r _ _ _ _ h.blk]; rfl)
theorem infoInt : (Try.prog.info? 3).map (fun i => (i.zero, i.size, i.bytes)) = some (some (.int .i64 0), 1, 8) := by kernel_rfl
theorem nv_of {b3 n cp B : Nat} {v : Value} (hat : v.ownBlock = some b3 ∨ B ≤ b3) : ∀ b, (Value.slice (some ⟨b3, 0, none⟩) n cp).ownBlock = some b → v.ownBlock = some b ∨ B ≤ b := fun b hb => by
  have e : b3 = b := by simpa [Value.ownBlock] using hb
  rw [← e]; exact hat
theorem Cur.apTold (c : Cur w0 g vs vo vt vx vg t ts xs gs w) {W : World} (hW : W.os = w.os ∧ W.tape = w.tape ∧ W.output = w.output) {b3 cp3 : Nat} {y : Hd} (hO : Own hdE 33 (g + 1) (.slice (some ⟨b3, 0, none⟩) (ts.length + 1) cp3) (ts ++ [y]) w') (hb : Below (g + 1) W w') (hfar : ∀ b, b < w.heap.size → vt.ownBlock ≠ some b → w'.heap[b]? = w.heap[b]?) (hsz : w.heap.size < w'.heap.size) (hat : vt.ownBlock = some b3 ∨ w.heap.size ≤ b3) :
    Cur w0 g vs vo (.slice (some ⟨b3, 0, none⟩) (ts.length + 1) cp3) vx vg t (ts ++ [y]) xs gs w' ∧ RowStep vt (.slice (some ⟨b3, 0, none⟩) (ts.length + 1) cp3) w w' :=
  have h := row_step hb hW hfar hsz (nv_of hat)
  ⟨c.putTold hO h, h⟩
theorem Cur.apThings (c : Cur w0 g vs vo vt vx vg t ts xs gs w) {W : World} (hW : W.os = w.os ∧ W.tape = w.tape ∧ W.output = w.output) {b3 cp3 : Nat} {y : Int} (hO : Own i64E 3 (g + 1) (.slice (some ⟨b3, 0, none⟩) (xs.length + 1) cp3) (xs ++ [y]) w') (hb : Below (g + 1) W w') (hfar : ∀ b, b < w.heap.size → vx.ownBlock ≠ some b → w'.heap[b]? = w.heap[b]?) (hsz : w.heap.size < w'.heap.size) (hat : vx.ownBlock = some b3 ∨ w.heap.size ≤ b3) :
    Cur w0 g vs vo vt (.slice (some ⟨b3, 0, none⟩) (xs.length + 1) cp3) vg t ts (xs ++ [y]) gs w' :=
  c.putThings hO (row_step hb hW hfar hsz (nv_of hat))
theorem Cur.apGone (c : Cur w0 g vs vo vt vx vg t ts xs gs w) {W : World} (hW : W.os = w.os ∧ W.tape = w.tape ∧ W.output = w.output) {b3 cp3 : Nat} {y : Int} (hO : Own i64E 3 (g + 1) (.slice (some ⟨b3, 0, none⟩) (gs.length + 1) cp3) (gs ++ [y]) w') (hb : Below (g + 1) W w') (hfar : ∀ b, b < w.heap.size → vg.ownBlock ≠ some b → w'.heap[b]? = w.heap[b]?) (hsz : w.heap.size < w'.heap.size) (hat : vg.ownBlock = some b3 ∨ w.heap.size ≤ b3) :
    Cur w0 g vs vo vt vx (.slice (some ⟨b3, 0, none⟩) (gs.length + 1) cp3) t ts xs (gs ++ [y]) w' :=
  c.putGone hO (row_step hb hW hfar hsz (nv_of hat))
theorem take_ok {x : Int} {t' : Tab} {h : Hd} (c : Cur w0 g vs vo vt vx vg t ts xs gs w) (hO : OpAt g vs vo vt vx vg r o w) (hs : Small t) (hk : takeT t x = some (t', h)) :
    Calls Try.prog 10 #[.pointer (some ⟨g, 0, none⟩), .int .i64 x] w fun e w' => e = .returned (.tuple #[.agg #[.int .u32 h.slot, .int .u32 h.gen], .int .i64 0]) ∧ ∃ vs' vo', Cur w0 g vs' vo' vt vx vg t' ts xs gs w' ∧ OpAt g vs' vo' vt vx vg r o w' := by
  refine (take_any g vs vo t x w c.tab hs).mono ?_
  intro e w' he
  unfold TakeOut at he
  rw [hk] at he
  obtain ⟨he, vs', vo', hT, hS⟩ := he
  exact ⟨he, vs', vo', c.step hT hS, hO.step hS⟩
theorem take_no {x : Int} (c : Cur w0 g vs vo vt vx vg t ts xs gs w) (hs : Small t) (hk : takeT t x = none) :
    Calls Try.prog 10 #[.pointer (some ⟨g, 0, none⟩), .int .i64 x] w fun e w' => e = .returned (.tuple #[.agg #[.int .u32 0, .int .u32 0], .int .i64 101]) ∧ Cur w0 g vs vo vt vx vg t ts xs gs w' := by
  refine (take_any g vs vo t x w c.tab hs).mono ?_
  intro e w' he
  unfold TakeOut at he
  rw [hk] at he
  exact ⟨he.1, c.quiet he.2⟩
theorem Cur.box (c : Cur w0 g vs vo vt vx vg t ts xs gs w) (hO : OpAt g vs vo vt vx vg r o w) (h : Hd) : Cur w0 g vs vo vt vx vg t ts xs gs (w.alloc (.cells #[.int .u32 h.slot, .int .u32 h.gen] 33)) ∧ OpAt g vs vo vt vx vg r o (w.alloc (.cells #[.int .u32 h.slot, .int .u32 h.gen] 33)) ∧
    (w.alloc (.cells #[.int .u32 h.slot, .int .u32 h.gen] 33)).cell? ⟨w.heap.size, 0, none⟩ = some (.int .u32 h.slot) ∧ (w.alloc (.cells #[.int .u32 h.slot, .int .u32 h.gen] 33)).cell? ⟨w.heap.size, 1, none⟩ = some (.int .u32 h.gen) := by
  have hb := (Below.refl w.heap.size w).alloc (Nat.le_refl _) (.cells #[.int .u32 h.slot, .int .u32 h.gen] 33)
  obtain ⟨a, b, _, _⟩ := Stc.hd_cells (heap_alloc_new w (.cells #[.int .u32 h.slot, .int .u32 h.gen] 33))
  exact ⟨c.quiet hb, hO.below hb, a, b⟩
theorem Cur.setThing {bx cp nn j : Nat} {x : Int} (c : Cur w0 g vs vo vt (.slice (some ⟨bx, 0, none⟩) nn cp) vg t ts xs gs w) (hj : j < xs.length) : Cur w0 g vs vo vt (.slice (some ⟨bx, 0, none⟩) nn cp) vg t ts (xs.set j x) gs (w.setCell ⟨bx, j, none⟩ (.int .i64 x)) :=
  c.putThings (store_int c.things hj).1 (store_int c.things hj).2
theorem Cur.setGone {bd cp nn j : Nat} {x : Int} (c : Cur w0 g vs vo vt vx (.slice (some ⟨bd, 0, none⟩) nn cp) t ts xs gs w) (hj : j < gs.length) : Cur w0 g vs vo vt vx (.slice (some ⟨bd, 0, none⟩) nn cp) t ts xs (gs.set j x) (w.setCell ⟨bd, j, none⟩ (.int .i64 x)) :=
  c.putGone (store_int c.gone hj).1 (store_int c.gone hj).2
/-- What the round reads of the lists and of its op. -/
structure Reads (bt bx bd r j : Nat) (y : Hd) (X G : Int) (o : Ins) (w : World) : Prop where
  t0 : w.cell? ⟨bt, j * 2, none⟩ = some (.int .u32 y.slot)
  t1 : w.cell? ⟨bt, j * 2 + 1, none⟩ = some (.int .u32 y.gen)
  x : w.cell? ⟨bx, j, none⟩ = some (.int .i64 X)
  fx : w.frozen? ⟨bx, j, none⟩ = false
  g : w.cell? ⟨bd, j, none⟩ = some (.int .i64 G)
  fg : w.frozen? ⟨bd, j, none⟩ = false
  o0 : w.cell? ⟨r, 0, none⟩ = some (.int .i64 o.kind)
  o1 : w.cell? ⟨r, 1, none⟩ = some (.int .i64 o.x)
  o2 : w.cell? ⟨r, 2, none⟩ = some (.int .i64 o.which)
theorem reads {bt bx bd n1 n2 n3 c1 c2 c3 j : Nat} {y : Hd} {X G : Int} (c : Cur w0 g vs vo (.slice (some ⟨bt, 0, none⟩) n1 c1) (.slice (some ⟨bx, 0, none⟩) n2 c2) (.slice (some ⟨bd, 0, none⟩) n3 c3) t ts xs gs w) (hO : OpAt g vs vo (.slice (some ⟨bt, 0, none⟩) n1 c1) (.slice (some ⟨bx, 0, none⟩) n2 c2) (.slice (some ⟨bd, 0, none⟩) n3 c3) r o w)
    (hj : j < ts.length) (hjx : j < xs.length) (hjg : j < gs.length) (hy : ts.getD j ⟨0, 0⟩ = y) (hx : xs.getD j 0 = X) (hg : gs.getD j 0 = G) : Reads bt bx bd r j y X G o w := by
  obtain ⟨a0, a1⟩ := hd_at c.told j hj hy
  obtain ⟨b0, b1⟩ := int_at c.things hjx hx
  obtain ⟨d0, d1⟩ := int_at c.gone hjg hg
  obtain ⟨e0, e1, e2⟩ := hO.cells
  exact ⟨a0, a1, b0, b1, d0, d1, e0, e1, e2⟩
end Go.Proofs.Ytijlnlcjlkanaaa.Stq
