/- SlotsSeen: the ranges: their rule, what they keep. -/
import Derived.Test.YtijlnlcjlkanaaaVsc
set_option linter.unusedVariables false
namespace Go.Proofs.Ytijlnlcjlkanaaa.Vse
open Sta (Hd hdE Step)
open Sud (Kept kept_t kept_b)
open Go.RowKit Go.Shelf Rwo Vta Vtb Vtc Vtd Vtg Vte Vtj Vtk Vtl Vtn Vud Vsa Vsb Vsc

set_option maxHeartbeats 1000000 in
set_option maxRecDepth 100000 in
/-- All hands back a closure over the table's pointer. -/
theorem all_any (p : Option Addr) (w : World) :
    Calls Try.prog 19 #[.pointer p] w fun e w' => e = .returned (.func (.func 36) #[] #[.pointer (some ⟨w.heap.size, 0, none⟩)]) ∧ w' = w.alloc (.cells #[.pointer p] 46) := by
  have hmf : ∀ (fn : Fn) (first cap : Array Value) (w : World), (Instr.makeFunc fn first cap).run Try.prog w = .ok (.func fn first cap) w := fun _ _ _ _ => rfl
  go_enter Try.func19, Try.ntmps19
  go_wp2
  go_ret
  exact ⟨rfl, rfl⟩
section
variable {F : Fence} {n : Nat} {P : Program}
/-- The loop's two variables, each in a box of its own. -/
def Ax2 {α : Type} (b1 b2 : α → Array Value) (T1 T2 : TypeId) (f : Array Value → α → Nat → Nat → Array Value) (lo : Nat) (tm : Array Value) (x : α) (a' : Act) (W : World) : Prop :=
  ∃ B1 B2, lo ≤ B1 ∧ lo ≤ B2 ∧ W.heap[B1]? = some (.cells (b1 x) T1 (0, 0)) ∧ W.heap[B2]? = some (.cells (b2 x) T2 (0, 0)) ∧ a' = { tmps := f tm x B1 B2, defers := [] }
theorem ax2_own {α : Type} {b1 b2 : α → Array Value} {T1 T2 : TypeId} {f : Array Value → α → Nat → Nat → Array Value} {lo B : Nat} {tm : Array Value} (x : α) (a' : Act) : OwnFrom B (fun (_ : Unit) W => Ax2 b1 b2 T1 T2 f lo tm x a' W) := by
  rintro s W W' row ⟨B1, B2, h1, h2, h3, h4, h5⟩ hg hr
  have k := CK.of_grown hg (fun r e => (hr r e).2)
  exact ⟨B1, B2, h1, h2, k.2 _ _ _ _ h3, k.2 _ _ _ _ h4, h5⟩
/-- A range over a function that is not left early. -/
theorem range_all {α : Type} {g : Operand} {ps : Array Tmp} {assign body : Code} {Q : Exit → Act → World → Prop} {a : Act} {w : World}
    (hro : F.round = none) (h1 : 1 ≤ n) {gf : Nat} {lb : Array Value} (hg : a.eval g = .func (.func gf) #[] lb) (hFg : F.fn gf) (eg : ∀ args w, (callFunc gf args).run P w = .ok (.enter gf args) w)
    {encs : α → Array Value} {Kp : World → World → Prop} {S Sp : List α → Prop} {N : Nat} (hseq : SeqStopsK F (n - 1) P gf lb encs Kp S Sp N w)
    (hKt : ∀ {A B C : World}, Kp A B → Kp B C → Kp A C) (hKb : ∀ (W : World) (l : Nat) (o o' : Obj), w.heap.size ≤ l → W.heap[l]? = some o → o.isCells = false → o.isWalk = false → Kp W (W.putObj l o')) (hps : ∀ x, (encs x).size = ps.size)
    (I : List α → World → Prop) (hI : OwnFrom w.heap.size I) (h0 : I [] w) (b1 b2 : α → Array Value) (T1 T2 : TypeId) (f : Array Value → α → Nat → Nat → Array Value) (lo : Nat)
    (hassign : ∀ (l : Nat) (pre : List α) (x : α) (W : World) (K : Act → World → Prop), I pre W → (∀ B1 B2 W', KeepsFrom w.heap.size W W' → Kp W W' → I pre W' → lo ≤ B1 → lo ≤ B2 → W'.heap[B1]? = some (.cells (b1 x) T1 (0, 0)) → W'.heap[B2]? = some (.cells (b2 x) T2 (0, 0)) → K { tmps := f a.tmps x B1 B2, defers := [] } W') →
      assign.wpIn (F.inRound l) (n - 1 - 1) P (Exit.then K (fun _ _ _ => False)) { tmps := (ps.zip (encs x)).foldl (fun t (p, v) => t.setIfInBounds p v) a.tmps, defers := [] } W)
    (hbody : ∀ (l : Nat) (pre : List α) (x : α) (B1 B2 : Nat) (W : World), w.heap.size ≤ l → (∃ r, W.heap[l]? = some (.loop r)) → I pre W → lo ≤ B1 → lo ≤ B2 → W.heap[B1]? = some (.cells (b1 x) T1 (0, 0)) → W.heap[B2]? = some (.cells (b2 x) T2 (0, 0)) → pre.length < N →
      body.wpIn (F.inRound l) (n - 1 - 1) P (ownPostG w.heap.size Kp I (fun _ _ _ => False) (pre ++ [x]) W) { tmps := f a.tmps x B1 B2, defers := [] } W)
    (rest : ∀ (D : Nat) (xs : List α) (W : World), w.heap.size ≤ D → S xs → I xs W → W.heap[D]? = some (.deferred (some [])) → Q .normal { a with defers := { target := .collected D, args := #[] } :: a.defers } W) :
    (Code.rangeFunc g ps assign body).wpIn F n P Q a w := by
  refine wpIn_rangeFunc_ownH hro h1 hg hFg eg hseq hKt hKb (Below.refl _ _) hps I (fun _ _ _ => False) hI (fun c => fun s W W' row hs hg hr => hs) h0 (Ax2 b1 b2 T1 T2 f lo a.tmps) ax2_own ?_ ?_ ?_ ?_
  · intro l pre x W K hi hK
    exact hassign l pre x W K hi fun B1 B2 W' h1 h2 h3 h4 h5 h6 h7 => hK _ _ h1 h2 h3 ⟨B1, B2, h4, h5, h6, h7, rfl⟩
  · rintro l pre x a' W hl hr hi ⟨B1, B2, h4, h5, h6, h7, rfl⟩ hlt
    exact hbody l pre x B1 B2 W hl hr hi h4 h5 h6 h7 hlt
  · intro D xs W hD hS hi hdf
    exact rest D xs W hD hS hi hdf
  · rintro D c pre W hD hSp hx hdf
    exact hx.elim
end
section
variable {w0 w W W' : World} {bq ba bh bl bo bi g bn bk B9 : Nat} {vl vO vi vs vo vh vs' vo' : Value} {hs : List Hd} {xs : List Th} {t t' : Tab} {T : List (Hd × Th)}
/-- What stands fast of the boxes of n and ok. -/
structure Far (w0 : World) (xs : List Th) (g bn bk B9 : Nat) : Prop where
  n : w0.heap.size ≤ bn ∧ bn < B9
  k : w0.heap.size ≤ bk ∧ bk < B9
  ne : bn ≠ bk
  g : g < B9
  xn : ∀ j, j < xs.length → (xs.getD j th0).p ≠ some ⟨bn, 0, none⟩
  xk : ∀ j, j < xs.length → (xs.getD j th0).p ≠ some ⟨bk, 0, none⟩
/-- What the first range keeps. -/
def R1 (w0 : World) (bq ba bh bl bo bi g bn bk B9 : Nat) (vl vO vi vh : Value) (hs : List Hd) (xs : List Th) (T : List (Hd × Th)) (pre : List {p : Hd × Th // p ∈ T}) (W : World) : Prop :=
  ∃ vs vo t, Cur w0 bq ba bh bl bo bi g vl vO vi hs xs vs vo vh t W ∧ Fine t 200 ∧ (pre = [] → Fine t 100 ∧ (∀ b, vs.ownBlock = some b → b < B9) ∧ ∀ b, vo.ownBlock = some b → b < B9) ∧ Boxed W bn 3 (.int .i64 (pre.length : Nat)) ∧ Boxed W bk 4 (.bool (okx T pre))
theorem r1_own (B : Nat) (hB : w0.heap.size ≤ B) : OwnFrom B (R1 w0 bq ba bh bl bo bi g bn bk B9 vl vO vi vh hs xs T) := by
  rintro s W W' row ⟨vs, vo, t, c, f, p, hn, hk⟩ hg hr
  have k := CK.of_grown hg (fun r e => (hr r e).2)
  exact ⟨vs, vo, t, c.ck k ((ownFrom_below (β := Unit) (Nat.le_refl _) hB) () W W' row c.below hg hr), f, p, k.2 _ _ _ _ hn, k.2 _ _ _ _ hk⟩
theorem R1.quiet {pre : List {p : Hd × Th // p ∈ T}} (h : R1 w0 bq ba bh bl bo bi g bn bk B9 vl vO vi vh hs xs T pre W) (hb : Below W.heap.size W W') : R1 w0 bq ba bh bl bo bi g bn bk B9 vl vO vi vh hs xs T pre W' := by
  obtain ⟨vs, vo, t, c, f, p, hn, hk⟩ := h
  exact ⟨vs, vo, t, c.quiet hb, f, p, Vsb.boxed_below hn hb, Vsb.boxed_below hk hb⟩
/-- Within a round: Ws: where it began. -/
structure Mid (w0 : World) (bq ba bh bl bo bi g bn bk B9 : Nat) (vl vO vi vh : Value) (hs : List Hd) (xs : List Th) (Ws : World) (m : Nat) (o : Bool) (k : Nat) (vs vo : Value) (t : Tab) (W : World) : Prop where
  cur : Cur w0 bq ba bh bl bo bi g vl vO vi hs xs vs vo vh t W
  fine : Fine t k
  n : Boxed W bn 3 (.int .i64 (m : Nat))
  k : Boxed W bk 4 (.bool o)
  from_ : KeepsFrom B9 Ws W
  kept : Kept B9 Ws W
  rs : ∀ b, vs.ownBlock = some b → b < B9 ∨ Ws.heap.size ≤ b
  ro : ∀ b, vo.ownBlock = some b → b < B9 ∨ Ws.heap.size ≤ b
variable {Ws : World} {m k k' : Nat} {o : Bool}
theorem kept_below {B : Nat} {W W' : World} (h : Below W.heap.size W W') : Kept B W W' := ⟨h.size, fun b o _ ho _ => (h.block b (Array.getElem?_eq_some_iff.1 ho).1).trans ho⟩
theorem from_below {B : Nat} {W W' : World} (h : Below W.heap.size W W') : KeepsFrom B W W' := ⟨h.size, fun b o _ ho _ => (h.block b (Array.getElem?_eq_some_iff.1 ho).1).trans ho⟩
theorem Mid.quiet (s : Mid w0 bq ba bh bl bo bi g bn bk B9 vl vO vi vh hs xs Ws m o k vs vo t W) (hb : Below W.heap.size W W') : Mid w0 bq ba bh bl bo bi g bn bk B9 vl vO vi vh hs xs Ws m o k vs vo t W' :=
  ⟨s.cur.quiet hb, s.fine, Vsb.boxed_below s.n hb, Vsb.boxed_below s.k hb, s.from_.trans (from_below hb), kept_t s.kept (kept_below hb), s.rs, s.ro⟩
theorem Mid.step (fa : Far w0 xs g bn bk B9) (s : Mid w0 bq ba bh bl bo bi g bn bk B9 vl vO vi vh hs xs Ws m o k vs vo t W) (hf : Fine t' k') (hT : TabAt g vs' vo' t' W') (hS : Step g vs vo vs' vo' W W') : Mid w0 bq ba bh bl bo bi g bn bk B9 vl vO vi vh hs xs Ws m o k' vs' vo' t' W' := by
  refine ⟨s.cur.step hT hS, hf, step_keeps s.cur.tab hS s.n, step_keeps s.cur.tab hS s.k, ?_, ?_, ?_, ?_⟩
  · exact s.from_.trans ⟨hS.size, fun b o _ ho hc => step_others s.cur.tab hS ho hc⟩
  · refine ⟨Nat.le_trans s.kept.1 hS.size, fun b o hb ho hc => ?_⟩
    have h1 := s.kept.2 b o hb ho hc
    have h2 := (Array.getElem?_eq_some_iff.1 ho).1
    have hg := fa.g
    exact (hS.far b (Array.getElem?_eq_some_iff.1 h1).1 (by omega) (fun e => by have := s.rs b e; omega) (fun e => by have := s.ro b e; omega)).trans h1
  · intro b e
    rcases hS.nvs b e with h1 | h1
    · exact s.rs b h1
    · have := s.kept.1; omega
  · intro b e
    rcases hS.nvo b e with h1 | h1
    · exact s.ro b h1
    · have := s.kept.1; omega
/-- The box of ok is written. -/
theorem Mid.setOk (fa : Far w0 xs g bn bk B9) (s : Mid w0 bq ba bh bl bo bi g bn bk B9 vl vO vi vh hs xs Ws m o k vs vo t W) (o' : Bool) : Mid w0 bq ba bh bl bo bi g bn bk B9 vl vO vi vh hs xs Ws m o' k vs vo t (W.setCell ⟨bk, 0, none⟩ (.bool o')) :=
  ⟨s.cur.setBox s.k fa.k.1 (.inr rfl) fa.xk, s.fine, Vsb.boxed_other s.n fa.ne, Vsb.boxed_set s.k, s.from_.trans ((KeepsOthers.setCell W _ _).from _), kept_t s.kept (Vsb.kept_set fa.k.2), s.rs, s.ro⟩
def MidE (w0 : World) (bq ba bh bl bo bi g bn bk B9 : Nat) (vl vO vi vh : Value) (hs : List Hd) (xs : List Th) (Ws : World) (m : Nat) (o : Bool) (k : Nat) (W : World) : Prop := ∃ vs vo t, Mid w0 bq ba bh bl bo bi g bn bk B9 vl vO vi vh hs xs Ws m o k vs vo t W
/-- Free, within a round. -/
theorem Mid.free (fa : Far w0 xs g bn bk B9) (s : Mid w0 bq ba bh bl bo bi g bn bk B9 vl vO vi vh hs xs Ws m o k vs vo t W) (hk : k ≤ 1000) (y : Hd) (hy : y.slot < 4294967296) (hb : Below W.heap.size W W') :
    Calls Try.prog 20 #[.pointer (some ⟨g, 0, none⟩), .agg #[.int .u32 y.slot, .int .u32 y.gen]] W' fun e w' => (∃ c : Int, e = .returned (.int .i64 c)) ∧ MidE w0 bq ba bh bl bo bi g bn bk B9 vl vO vi vh hs xs Ws m o k w' := by
  have s' := s.quiet hb
  have hsm := Lib.hid (s'.fine.small (by omega))
  cases hl : lives t y with
  | true =>
    obtain ⟨i, h1, h2, h3, h4⟩ := s'.fine.first hl
    refine (free_yes g vs vo t y.slot y.gen i W' (Lib.hid s'.cur.tab) hsm (Lib.hid hl) h4 h1 (Lib.hid h2) (Lib.hid h3)).mono ?_
    rintro e w' ⟨he, vo', hT, hS⟩
    exact ⟨⟨_, he⟩, _, _, _, s'.step fa (s'.fine.free hl h1 h2) hT hS⟩
  | false =>
    refine (free_no g vs vo t y.slot y.gen W' (Lib.hid s'.cur.tab) hsm hy (Lib.hid hl)).mono ?_
    rintro e w' ⟨he, hb'⟩
    exact ⟨⟨_, he⟩, _, _, _, s'.quiet hb'⟩
/-- Set, within a round. -/
theorem Mid.set (fa : Far w0 xs g bn bk B9) (s : Mid w0 bq ba bh bl bo bi g bn bk B9 vl vO vi vh hs xs Ws m o k vs vo t W) (hk : k ≤ 1000) (y : Hd) (hy : y.slot < 4294967296) (x : Th) (hb : Below W.heap.size W W') :
    Calls Try.prog 21 #[.pointer (some ⟨g, 0, none⟩), .agg #[.int .u32 y.slot, .int .u32 y.gen], .agg #[.string x.a, .slice x.p x.n x.c]] W' fun e w' => (∃ c : Int, e = .returned (.int .i64 c)) ∧ MidE w0 bq ba bh bl bo bi g bn bk B9 vl vO vi vh hs xs Ws m o k w' := by
  have s' := s.quiet hb
  have hsm := Lib.hid (s'.fine.small (by omega))
  cases hl : lives t y with
  | true =>
    refine (set_yes g vs vo t y.slot y.gen x W' (Lib.hid s'.cur.tab) hsm (Lib.hid hl)).mono ?_
    rintro e w' ⟨he, hT, hS⟩
    exact ⟨⟨_, he⟩, _, _, _, s'.step fa (s'.fine.set (lives_lt hl).1) hT hS⟩
  | false =>
    refine (set_no g vs vo t y.slot y.gen x W' (Lib.hid s'.cur.tab) hsm hy (Lib.hid hl)).mono ?_
    rintro e w' ⟨he, hb'⟩
    exact ⟨⟨_, he⟩, _, _, _, s'.quiet hb'⟩
/-- Take, within a round. -/
theorem Mid.take (fa : Far w0 xs g bn bk B9) (s : Mid w0 bq ba bh bl bo bi g bn bk B9 vl vO vi vh hs xs Ws m o k vs vo t W) (hk : k < 500) (x : Th) (hb : Below W.heap.size W W') :
    Calls Try.prog 18 #[.pointer (some ⟨g, 0, none⟩), .agg #[.string x.a, .slice x.p x.n x.c]] W' fun e w' => (∃ y : Hd, e = .returned (.tuple #[.agg #[.int .u32 y.slot, .int .u32 y.gen], .int .i64 0])) ∧ ∃ vs' vo' t', Mid w0 bq ba bh bl bo bi g bn bk B9 vl vO vi vh hs xs Ws m o (k + 1) vs' vo' t' w' ∧ Step g vs vo vs' vo' W' w' := by
  have s' := s.quiet hb
  have hsm := s'.fine.small (by omega)
  obtain ⟨t', y, hty⟩ := s'.fine.room hk x
  refine (take_ok g vs vo t x W' s'.cur.tab hsm hty).mono ?_
  rintro e w' ⟨he, vs', vo', hT, hS⟩
  exact ⟨⟨y, he⟩, _, _, _, s'.step fa (s'.fine.take hty).1 hT hS, hS⟩
theorem Mid.handle (fa : Far w0 xs g bn bk B9) (s : Mid w0 bq ba bh bl bo bi g bn bk B9 vl vO vi vh hs xs Ws m o k vs vo t W) {bH : Nat} {y0 : Hd} (hb : W.heap[bH]? = some (hB y0)) (hw : Ws.heap.size ≤ bH) (h0 : w0.heap.size ≤ bH) (ns : vs.ownBlock ≠ some bH) (no : vo.ownBlock ≠ some bH) (nh : vh.ownBlock ≠ some bH) (j : Nat) (u : Value) :
    Mid w0 bq ba bh bl bo bi g bn bk B9 vl vO vi vh hs xs Ws m o k vs vo t (W.setCell ⟨bH, j, none⟩ u) := by
  have hz := ((Below.refl 0 W).setCell (p := ⟨bH, j, none⟩) (Nat.zero_le _) u).size
  refine ⟨Cur.handle s.cur hb h0 ns no nh j u, s.fine, (sc_other (Vsb.blk_ne s.n hb (by decide))).trans s.n, (sc_other (Vsb.blk_ne s.k hb (by decide))).trans s.k, s.from_.trans ((KeepsOthers.setCell W _ _).from _), ⟨Nat.le_trans s.kept.1 hz, fun b p hb2 hp hc => ?_⟩, s.rs, s.ro⟩
  have := (Array.getElem?_eq_some_iff.1 hp).1
  exact (sc_other (by omega)).trans (s.kept.2 b p hb2 hp hc)
/-- The handle's box was there before Take was called. -/
theorem Mid.put (fa : Far w0 xs g bn bk B9) {w5 : World} {y : Hd} {bH : Nat} (s0 : Mid w0 bq ba bh bl bo bi g bn bk B9 vl vO vi vh hs xs Ws m o k vs vo t W) (s : Mid w0 bq ba bh bl bo bi g bn bk B9 vl vO vi vh hs xs Ws m o k' vs' vo' t' w5) (hS : Step g vs vo vs' vo' W' w5)
    (hb : W'.heap[bH]? = some hB0) (hH : W.heap.size ≤ bH) (hz : W.heap.size ≤ W'.heap.size) :
    Mid w0 bq ba bh bl bo bi g bn bk B9 vl vO vi vh hs xs Ws m o k' vs' vo' t' ((w5.setCell ⟨bH, 0, none⟩ (.int .u32 y.slot)).setCell ⟨bH, 1, none⟩ (.int .u32 y.gen)) ∧ w5.heap[bH]? = some hB0 := by
  have hlt := (Array.getElem?_eq_some_iff.1 hb).1
  have ns : vs.ownBlock ≠ some bH := fun e => by have := (s0.cur.tab.sl.lt e).2; omega
  have no : vo.ownBlock ≠ some bH := fun e => by have := (s0.cur.tab.ord.lt e).2; omega
  have nh : vh.ownBlock ≠ some bH := fun e => by have := (s0.cur.told.lt e).2; omega
  have h5 : w5.heap[bH]? = some hB0 := (hS.far bH hlt (by have := s0.cur.tab.lt; omega) ns no).trans hb
  have ns5 : vs'.ownBlock ≠ some bH := fun e => (hS.nvs bH e).elim ns (fun x => by omega)
  have no5 : vo'.ownBlock ≠ some bH := fun e => (hS.nvo bH e).elim no (fun x => by omega)
  have h6 : (w5.setCell ⟨bH, 0, none⟩ (.int .u32 y.slot)).heap[bH]? = some (.cells #[.int .u32 y.slot, .int .u32 (0 : Nat)] 33) := heap_setCell_same _ bH 0 #[.int .u32 (0 : Nat), .int .u32 (0 : Nat)] _ _ h5
  have w1 : Ws.heap.size ≤ bH := Nat.le_trans s0.kept.1 hH
  have w2 : w0.heap.size ≤ bH := Nat.le_trans s0.cur.below.size hH
  exact ⟨Mid.handle fa (Mid.handle fa s (y0 := ⟨0, 0⟩) h5 w1 w2 ns5 no5 nh 0 _) (y0 := ⟨y.slot, 0⟩) h6 w1 w2 ns5 no5 nh 1 _, h5⟩
/-- A round begins: ok and n are written. -/
theorem mid_start (fa : Far w0 xs g bn bk B9) {pre : List {p : Hd × Th // p ∈ T}} {x : {p : Hd × Th // p ∈ T}} {o' : Bool} (hp : pre = []) (h : R1 w0 bq ba bh bl bo bi g bn bk B9 vl vO vi vh hs xs T pre W) :
    ∃ vs vo t, Mid w0 bq ba bh bl bo bi g bn bk B9 vl vO vi vh hs xs W 1 o' 100 vs vo t ((W.setCell ⟨bk, 0, none⟩ (.bool o')).setCell ⟨bn, 0, none⟩ (.int .i64 1)).drew := by
  obtain ⟨vs, vo, t, c, f, p, hn, hk⟩ := h
  obtain ⟨p1, p2, p3⟩ := p hp
  have c1 := c.setBox (u := .bool o') hk fa.k.1 (.inr rfl) fa.xk
  have hn1 := Vsb.boxed_other (u := .bool o') hn fa.ne
  have hk1 := Vsb.boxed_set (u := .bool o') hk
  have c2 := c1.setBox (u := .int .i64 1) hn1 fa.n.1 (.inl rfl) fa.xn
  exact ⟨vs, vo, t, c2.quiet (Below.refl _ _).drew, p1, Vsb.boxed_set hn1, Vsb.boxed_other hk1 (fun e => fa.ne e.symm), (((KeepsOthers.setCell W _ _).trans (KeepsOthers.setCell _ _ _)).trans (KeepsOthers.drew _)).from _, kept_t (kept_t (Vsb.kept_set fa.k.2) (Vsb.kept_set fa.n.2)) ⟨Nat.le_refl _, fun _ _ _ h _ => h⟩, fun b e => .inl (p2 b e), fun b e => .inl (p3 b e)⟩
theorem Cur.setq {bq' : Nat} (c : Cur w0 bq ba bh bl bo bi g vl vO vi hs xs vs vo vh t w) (h : Boxed w bq' 46 (.pointer (some ⟨g, 0, none⟩))) : Cur w0 bq' ba bh bl bo bi g vl vO vi hs xs vs vo vh t w :=
  ⟨c.a, h, c.h, c.l, c.o, c.i, c.tab, c.told, c.d1, c.xs, c.lg, c.lh, c.below⟩
/-- The first range begins. -/
theorem r1_start {l : List ByteArray} {wr W3 : World} (s : L1 w0 bq ba bh bl bo bi g vl vO vi l k hs xs vs vo vh t wr) (hk : k ≤ 100) (hW : W3 = ((wr.alloc (.cells #[.int .i64 0] 3)).alloc (.cells #[.bool true] 4)).alloc (.cells #[.pointer (some ⟨g, 0, none⟩)] 46)) (T : List (Hd × Th)) :
    Far w0 xs g wr.heap.size (wr.heap.size + 1) W3.heap.size ∧ R1 w0 (wr.heap.size + 2) ba bh bl bo bi g wr.heap.size (wr.heap.size + 1) W3.heap.size vl vO vi vh hs xs T [] W3 ∧ Boxed W3 (wr.heap.size + 2) 46 (.pointer (some ⟨g, 0, none⟩)) ∧ Below wr.heap.size wr W3 ∧ W3.heap.size = wr.heap.size + 3 := by
  have k1 := Vsb.below_new wr (.cells #[.int .i64 0] 3)
  have k2 := Vsb.below_new (wr.alloc (.cells #[.int .i64 0] 3)) (.cells #[.bool true] 4)
  have k3 := Vsb.below_new ((wr.alloc (.cells #[.int .i64 0] 3)).alloc (.cells #[.bool true] 4)) (.cells #[.pointer (some ⟨g, 0, none⟩)] 46)
  have x1 := Boxed.new wr 3 (.int .i64 0)
  have x2 := Boxed.new (wr.alloc (.cells #[.int .i64 0] 3)) 4 (.bool true)
  have x3 := Boxed.new ((wr.alloc (.cells #[.int .i64 0] 3)).alloc (.cells #[.bool true] 4)) 46 (.pointer (some ⟨g, 0, none⟩))
  have z1 : (wr.alloc (.cells #[.int .i64 0] 3)).heap.size = wr.heap.size + 1 := by simp
  have z2 : ((wr.alloc (.cells #[.int .i64 0] 3)).alloc (.cells #[.bool true] 4)).heap.size = wr.heap.size + 2 := by simp
  have z3 : W3.heap.size = wr.heap.size + 3 := by rw [hW]; simp
  rw [z1] at x2
  rw [z2] at x3
  have kk : Below wr.heap.size wr W3 := by rw [hW]; exact (k1.trans (k2.mono k1.size)).trans (k3.mono (by omega))
  have c := s.cur
  have hlt := c.tab.lt
  have h0 := c.below.size
  have hx : ∀ j, j < xs.length → ∀ b, (xs.getD j th0).p = some ⟨b, 0, none⟩ → b < wr.heap.size := fun j hj b e => (c.xs j hj b e).lt
  refine ⟨⟨⟨by omega, by omega⟩, ⟨by omega, by omega⟩, by omega, by omega, fun j hj e => by have := hx j hj _ e; omega, fun j hj e => by have := hx j hj _ e; omega⟩, ⟨vs, vo, t, Cur.setq (c.quiet kk) (by rw [hW]; exact x3), s.fine.mono (by omega), fun _ => ⟨s.fine.mono hk, fun b e => by have := (c.tab.sl.lt e).2; omega, fun b e => by have := (c.tab.ord.lt e).2; omega⟩, ?_, ?_⟩, ?_, kk, z3⟩
  · rw [hW]; exact Vsb.boxed_below (Vsb.boxed_below x1 k2) k3
  · rw [hW, okx_nil]; exact Vsb.boxed_below x2 k3
  · rw [hW]; exact x3
theorem tells_fst (t : Tab) : (tells t).map (·.1) = t.ord := by
  unfold tells
  rw [List.map_map]
  exact List.map_id'' (fun _ => rfl) t.ord
theorem L1.nth {l : List ByteArray} (s : L1 w0 bq ba bh bl bo bi g vl vO vi l k hs xs vs vo vh t w) {j : Nat} (hj : j < (tells t).length) : j < k ∧ (tells t)[j] = (hs.getD j ⟨0, 0⟩, xs.getD j th0) := by
  have h1 : (tells t).length = k := by rw [← s.lh, ← s.oh, ← tells_fst t, List.length_map]
  have h2 : j < hs.length := by rw [s.lh]; omega
  have h3 : j < xs.length := by rw [s.lx]; omega
  refine ⟨by omega, ?_⟩
  have e1 : hs.getD j ⟨0, 0⟩ = hs[j] := by rw [List.getD_eq_getElem?_getD, List.getElem?_eq_getElem h2]; rfl
  have e2 : xs.getD j th0 = xs[j] := by rw [List.getD_eq_getElem?_getD, List.getElem?_eq_getElem h3]; rfl
  have h4 : (tells t)[j]? = some (hs.getD j ⟨0, 0⟩, xs.getD j th0) := by
    rw [s.tl, e1, e2, List.getElem?_zip_eq_some]
    exact ⟨List.getElem?_eq_getElem h2, List.getElem?_eq_getElem h3⟩
  exact (List.getElem?_eq_some_iff.1 h4).2
/-- A later round, at its end. -/
theorem r1_next (fa : Far w0 xs g bn bk B9) {pre : List {p : Hd × Th // p ∈ T}} {x : {p : Hd × Th // p ∈ T}} {o' : Bool} (ho : okx T (pre ++ [x]) = o') (h : R1 w0 bq ba bh bl bo bi g bn bk B9 vl vO vi vh hs xs T pre W) :
    KeepsFrom B9 W ((W.setCell ⟨bk, 0, none⟩ (.bool o')).setCell ⟨bn, 0, none⟩ (.int .i64 ((pre.length : Int) + 1))).drew ∧ Kept B9 W ((W.setCell ⟨bk, 0, none⟩ (.bool o')).setCell ⟨bn, 0, none⟩ (.int .i64 ((pre.length : Int) + 1))).drew ∧
    R1 w0 bq ba bh bl bo bi g bn bk B9 vl vO vi vh hs xs T (pre ++ [x]) ((W.setCell ⟨bk, 0, none⟩ (.bool o')).setCell ⟨bn, 0, none⟩ (.int .i64 ((pre.length : Int) + 1))).drew := by
  obtain ⟨vs, vo, t, c, f, p, hn, hk⟩ := h
  have c1 := c.setBox (u := .bool o') hk fa.k.1 (.inr rfl) fa.xk
  have hn1 := Vsb.boxed_other (u := .bool o') hn fa.ne
  have hk1 := Vsb.boxed_set (u := .bool o') hk
  have c2 := c1.setBox (u := .int .i64 ((pre.length : Int) + 1)) hn1 fa.n.1 (.inl rfl) fa.xn
  refine ⟨(((KeepsOthers.setCell W _ _).trans (KeepsOthers.setCell _ _ _)).trans (KeepsOthers.drew _)).from _, kept_t (kept_t (Vsb.kept_set fa.k.2) (Vsb.kept_set fa.n.2)) ⟨Nat.le_refl _, fun _ _ _ h _ => h⟩, vs, vo, t, c2.quiet (Below.refl _ _).drew, f, fun e => by simp at e, ?_, ?_⟩
  · have e : (((pre ++ [x]).length : Nat) : Int) = (pre.length : Int) + 1 := by simp
    rw [e]; exact Vsb.boxed_set hn1
  · rw [ho]; exact Vsb.boxed_other hk1 (fun e => fa.ne e.symm)
/-- The first round, at its end. -/
theorem r1_first {x : {p : Hd × Th // p ∈ T}} {o' : Bool} (ho : okx T ([] ++ [x]) = o') (hk : k ≤ 200) (s : Mid w0 bq ba bh bl bo bi g bn bk B9 vl vO vi vh hs xs Ws 1 o' k vs vo t W) :
    KeepsFrom B9 Ws W ∧ Kept B9 Ws W ∧ R1 w0 bq ba bh bl bo bi g bn bk B9 vl vO vi vh hs xs T ([] ++ [x]) W :=
  ⟨s.from_, s.kept, vs, vo, t, s.cur, s.fine.mono hk, fun e => by simp at e, s.n, by rw [ho]; exact s.k⟩
/-- What the second range keeps. -/
structure R2 (w0 : World) (bq ba bh bl bo bi g bk bm D : Nat) (vl vO vi vh : Value) (hs : List Hd) (xs : List Th) (vs vo : Value) (t : Tab) (pre : List {p : Hd × Th // p ∈ tells t}) (W : World) : Prop where
  cur : Cur w0 bq ba bh bl bo bi g vl vO vi hs xs vs vo vh t W
  k : Boxed W bk 4 (.bool true)
  m : Boxed W bm 3 (.int .i64 (pre.length : Nat))
  dfr : W.heap[D]? = some (.deferred (some []))
variable {bm D : Nat}
theorem r2_own (B : Nat) (hB : w0.heap.size ≤ B) (hD : D < B) : OwnFrom B (R2 w0 bq ba bh bl bo bi g bk bm D vl vO vi vh hs xs vs vo t) := by
  intro s W W' row h hg hr
  have k := CK.of_grown hg (fun r e => (hr r e).2)
  exact ⟨h.cur.ck k ((ownFrom_below (β := Unit) (Nat.le_refl _) hB) () W W' row h.cur.below hg hr), k.2 _ _ _ _ h.k, k.2 _ _ _ _ h.m, (hg.block D (Array.getElem?_eq_some_iff.1 h.dfr).1 (fun e => by have := (hr D e.symm).1; omega)).trans h.dfr⟩
theorem R2.quiet {pre : List {p : Hd × Th // p ∈ tells t}} (h : R2 w0 bq ba bh bl bo bi g bk bm D vl vO vi vh hs xs vs vo t pre W) (hb : Below W.heap.size W W') : R2 w0 bq ba bh bl bo bi g bk bm D vl vO vi vh hs xs vs vo t pre W' :=
  ⟨h.cur.quiet hb, Vsb.boxed_below h.k hb, Vsb.boxed_below h.m hb, (hb.block D (Array.getElem?_eq_some_iff.1 h.dfr).1).trans h.dfr⟩
theorem r2_next {B : Nat} {W5 : World} (fa : Far w0 xs g bn bk B9) (hB9 : B9 ≤ B) (hm : w0.heap.size ≤ bm ∧ bm < B) (hmk : bm ≠ bk) (hx : ∀ j, j < xs.length → (xs.getD j th0).p ≠ some ⟨bm, 0, none⟩) {pre : List {p : Hd × Th // p ∈ tells t}} (x : {p : Hd × Th // p ∈ tells t})
    (h : R2 w0 bq ba bh bl bo bi g bk bm D vl vO vi vh hs xs vs vo t pre W) (hb : Below W.heap.size W W5) :
    KeepsFrom B W ((W5.setCell ⟨bk, 0, none⟩ (.bool true)).setCell ⟨bm, 0, none⟩ (.int .i64 ((pre.length : Int) + 1))) ∧ Kept B W ((W5.setCell ⟨bk, 0, none⟩ (.bool true)).setCell ⟨bm, 0, none⟩ (.int .i64 ((pre.length : Int) + 1))) ∧
    R2 w0 bq ba bh bl bo bi g bk bm D vl vO vi vh hs xs vs vo t (pre ++ [x]) ((W5.setCell ⟨bk, 0, none⟩ (.bool true)).setCell ⟨bm, 0, none⟩ (.int .i64 ((pre.length : Int) + 1))) := by
  have h5 := h.quiet hb
  have c1 := h5.cur.setBox (u := .bool true) h5.k fa.k.1 (.inr rfl) fa.xk
  have hm1 := Vsb.boxed_other (u := .bool true) h5.m hmk
  have hk1 := Vsb.boxed_set (u := .bool true) h5.k
  have c2 := c1.setBox (u := .int .i64 ((pre.length : Int) + 1)) hm1 hm.1 (.inl rfl) hx
  have hk2 := fa.k.2
  refine ⟨(from_below hb).trans (((KeepsOthers.setCell W5 _ _).trans (KeepsOthers.setCell _ _ _)).from _), kept_t (kept_below hb) (kept_t (Vsb.kept_set (by omega)) (Vsb.kept_set hm.2)), c2, Vsb.boxed_other hk1 (fun e => hmk e.symm), ?_, ?_⟩
  · have e : (((pre ++ [x]).length : Nat) : Int) = (pre.length : Int) + 1 := by simp
    rw [e]; exact Vsb.boxed_set hm1
  · have n1 : D ≠ bk := fun e => by have := h5.k; unfold Boxed at this; rw [← e, h5.dfr] at this; cases this
    have n2 : D ≠ bm := fun e => by have := h5.m; unfold Boxed at this; rw [← e, h5.dfr] at this; cases this
    exact (sc_other n2).trans ((sc_other n1).trans h5.dfr)
theorem r2_start (c : Cur w0 bq ba bh bl bo bi g vl vO vi hs xs vs vo vh t W) (hk : Boxed W bk 4 (.bool true)) (hd : W.heap[D]? = some (.deferred (some []))) :
    R2 w0 bq ba bh bl bo bi g bk W.heap.size D vl vO vi vh hs xs vs vo t [] (W.alloc (.cells #[.int .i64 0] 3)) := by
  have hb := Vsb.below_new W (.cells #[.int .i64 0] 3)
  exact ⟨c.quiet hb, Vsb.boxed_below hk hb, Boxed.new W 3 (.int .i64 0), (hb.block D (Array.getElem?_eq_some_iff.1 hd).1).trans hd⟩
end
end Go.Proofs.Ytijlnlcjlkanaaa.Vse
