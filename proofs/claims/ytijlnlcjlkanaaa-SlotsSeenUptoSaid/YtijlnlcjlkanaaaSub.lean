/- SlotsNil: the walk. -/
import Derived.Test.YtijlnlcjlkanaaaSua
import Derived.RangeFuncNested
import Derived.RangeFuncBound
import Derived.RangeFuncCalls
import Derived.RangeFuncLeaves
import Derived.RangeFuncFrom
import Derived.Shelf.Abstract
import Derived.Shelf.RegionOpen
import Derived.WalkKit
import Derived.OwnWalkIn
import Derived.TacticsInMore
import Derived.LoopNIn
import Derived.LoopIn
set_option linter.unusedVariables false
namespace Go.Proofs.Ytijlnlcjlkanaaa.Sub
open Go.RowKit Go.Shelf Rwo Sta Stb Stc Stg Ste Stm Sua

attribute [local go_sem] Oper.semAt_some
/-- A handle and a thing, as yield takes them. -/
abbrev encs (p : Hd × Int) : Array Value := #[.agg #[.int .u32 p.1.slot, .int .u32 p.1.gen], .int .i64 p.2]
set_option maxHeartbeats 1000000 in
set_option maxRecDepth 100000 in
/-- Without a table the iterator tells nothing. -/
theorem none_stops (n : Nat) (hn : 1 ≤ n) (b : Nat) (w : World) (hc : w.cell? ⟨b, 0, none⟩ = some (.pointer none)) (hb : b < w.heap.size) :
    SeqStopsK Fence.wide n Try.prog 46 #[.pointer (some ⟨b, 0, none⟩)] encs (Below 0) (fun xs => xs = []) (fun _ => False) 0 w := fun l J Jx W hW _ _ hY h0 => by
  have hc' : W.cell? ⟨b, 0, none⟩ = some (.pointer none) := (hW.cell (p := ⟨b, 0, none⟩) hb).trans hc
  refine callsIn_of_wp Try.func46 rfl trivial ?_ rfl
  simp only [Try.ntmps46, List.size_toArray, List.length_cons, List.length_nil, Nat.reduceAdd, Nat.reduceSub, Array.replicate_succ, Array.replicate_zero, List.push_toArray, List.append_toArray, List.nil_append, List.cons_append]
  gi_wp2
  refine bodyPost_ret (results_none rfl _ _ _) rfl ?_
  exact ⟨⟨_, rfl⟩, .inl ⟨[], rfl, h0⟩⟩
/-- A range over an iterator that tells nothing. -/
theorem range_none {F : Fence} {n : Nat} {P : Program} {α : Type} {g : Operand} {ps : Array Tmp} {body : Code} {Q : Exit → Act → World → Prop} {a : Act} {w : World}
    (hro : F.round = none) (h1 : 1 ≤ n) {gf : Nat} {lb : Array Value} (hg : a.eval g = .func (.func gf) #[] lb) (hFg : F.fn gf) (eg : ∀ args w, (callFunc gf args).run P w = .ok (.enter gf args) w)
    {encs : α → Array Value} (hseq : SeqStopsK F (n - 1) P gf lb encs (Below 0) (fun xs => xs = []) (fun _ => False) 0 w) (hps : ∀ x, (encs x).size = ps.size)
    (I : World → Prop) (hI : OwnFrom w.heap.size (fun (_ : List α) W => I W)) (h0 : I w)
    (hdone : ∀ (D : Nat) (W : World), w.heap.size ≤ D → I W → W.heap[D]? = some (.deferred (some [])) → Q .normal { a with defers := { target := .collected D, args := #[] } :: a.defers } W) :
    (Code.rangeFunc g ps .skip body).wpIn F n P Q a w := by
  refine wpIn_rangeFunc_ownF hro h1 hg hFg eg hseq belowK_t (belowK_b (Nat.zero_le _)) (Below.refl _ _) hps (fun _ W => I W) (fun _ _ _ => False) hI (fun _ _ _ _ _ hs _ _ => hs) h0
    (fun x => { tmps := (ps.zip (encs x)).foldl (fun t (p, v) => t.setIfInBounds p v) a.tmps, defers := [] }) ?_ ?_ ?_ ?_
  · intro l x W K hK
    exact wpIn_skip hK
  · intro l pre x W _ h
    exact absurd h (Nat.not_lt_zero _)
  · rintro D xs W hD _ hi hd
    exact hdone D W hD hi hd
  · rintro D c pre W _ h
    exact h.elim
/-- What the walk knows of a world: the boxes of h and of g. -/
structure Know (r q : Nat) (a b : Nat) (w W : World) : Prop where
  below : Below w.heap.size w W
  r0 : W.cell? ⟨r, 0, none⟩ = some (.int .u32 a)
  r1 : W.cell? ⟨r, 1, none⟩ = some (.int .u32 b)
  q0 : W.cell? ⟨q, 0, none⟩ = some (.int .u32 0)
  q1 : W.cell? ⟨q, 1, none⟩ = some (.int .u32 0)
theorem cell_lt {w : World} {a : Addr} {v : Value} (h : w.cell? a = some v) : a.block < w.heap.size := by
  rcases Nat.lt_or_ge a.block w.heap.size with h' | h'
  · exact h'
  · unfold World.cell? at h
    rw [Array.getElem?_eq_none (by omega)] at h
    simp at h
theorem cell_grow {W W' : World} {p : Addr} {v : Value} (h : Below W.heap.size W W') (k : W.cell? p = some v) : W'.cell? p = some v := (h.cell (p := p) (cell_lt k)).trans k
theorem Know.grow {r q a b : Nat} {w W W' : World} (k : Know r q a b w W) (h : Below W.heap.size W W') : Know r q a b w W' :=
  ⟨k.below.trans (h.mono k.below.size), cell_grow h k.r0, cell_grow h k.r1, cell_grow h k.q0, cell_grow h k.q1⟩
theorem Know.cells {r q a b : Nat} {w W : World} (k : Know r q a b w W) : (W.cell? ⟨r, 0, none⟩ = some (.int .u32 a) ∧ W.cell? ⟨r, 1, none⟩ = some (.int .u32 b)) ∧ W.cell? ⟨q, 0, none⟩ = some (.int .u32 0) ∧ W.cell? ⟨q, 1, none⟩ = some (.int .u32 0) :=
  ⟨⟨k.r0, k.r1⟩, k.q0, k.q1⟩
theorem know_new {r a b : Nat} {w W : World} (hb : Below w.heap.size w W) (h : W.heap[r]? = some (.cells #[.int .u32 a, .int .u32 b] 33 (0, 0))) : Know r W.heap.size a b w (W.alloc (.cells #[.int .u32 0, .int .u32 0] 33)) := by
  have hbx := (Below.refl W.heap.size W).alloc (Nat.le_refl _) (.cells #[.int .u32 0, .int .u32 0] 33)
  obtain ⟨a0, a1, _, _⟩ := Stc.hd_cells h
  obtain ⟨b0, b1, _, _⟩ := Stc.hd_cells (heap_alloc_new W (.cells #[.int .u32 0, .int .u32 0] 33))
  exact ⟨hb.trans (hbx.mono hb.size), cell_grow hbx a0, cell_grow hbx a1, b0, b1⟩
theorem know_own {α : Type} {r q v a b : Nat} {w : World} (B : Nat) (hB : w.heap.size ≤ B) : OwnFrom B (fun (_ : List α) W => Know r q a b w W ∧ W.cell? ⟨v, 0, none⟩ = some (.bool true)) := by
  intro s W W' row hs hg hr
  have hr' : ∀ r, row = some r → ∃ o : Obj, W.heap[r]? = some o ∧ o.isCells = false := fun r e => (hr r e).2
  refine ⟨⟨?_, cell_kept hs.1.r0 hg hr', cell_kept hs.1.r1 hg hr', cell_kept hs.1.q0 hg hr', cell_kept hs.1.q1 hg hr'⟩, cell_kept hs.2 hg hr'⟩
  exact (ownFrom_below (β := List α) (Nat.le_refl _) hB) s W W' row hs.1.below hg hr
/-- The block of the deferred calls, and all else, kept. -/
structure Rest (D r q v a b : Nat) (w W : World) : Prop where
  know : Know r q a b w W
  v : W.cell? ⟨v, 0, none⟩ = some (.bool true)
  d : W.heap[D]? = some (.deferred (some []))
theorem Rest.grow {D r q v a b : Nat} {w W W' : World} (k : Rest D r q v a b w W) (h : Below W.heap.size W W') : Rest D r q v a b w W' :=
  ⟨k.know.grow h, cell_grow h k.v, (h.block D (Array.getElem?_eq_some_iff.1 k.d).1).trans k.d⟩
theorem below_alloc (w : World) (o : Obj) : Below w.heap.size w (w.alloc o) := (Below.refl w.heap.size w).alloc (Nat.le_refl _) o
theorem loop_start {r q a b : Nat} {w w4 : World} (k : Know r q a b w w4) :
    (Know r q a b w ((w4.alloc (.cells #[.bool true] 4)).alloc (.cells #[.pointer none] 25)) ∧ ((w4.alloc (.cells #[.bool true] 4)).alloc (.cells #[.pointer none] 25)).cell? ⟨w4.heap.size, 0, none⟩ = some (.bool true)) ∧
    ((w4.alloc (.cells #[.bool true] 4)).alloc (.cells #[.pointer none] 25)).cell? ⟨w4.heap.size + 1, 0, none⟩ = some (.pointer none) ∧ w4.heap.size + 1 < ((w4.alloc (.cells #[.bool true] 4)).alloc (.cells #[.pointer none] 25)).heap.size := by
  have h1 := below_alloc w4 (.cells #[.bool true] 4)
  have h2 := below_alloc (w4.alloc (.cells #[.bool true] 4)) (.cells #[.pointer none] 25)
  have c1 : (w4.alloc (.cells #[.bool true] 4)).cell? ⟨w4.heap.size, 0, none⟩ = some (.bool true) := by simp
  refine ⟨⟨(k.grow h1).grow h2, cell_grow h2 c1⟩, by simp, by simp⟩
set_option maxHeartbeats 4000000 in
set_option maxRecDepth 100000 in
theorem walk (a b : Nat) (x : Int) (w : World) :
    Calls Try.prog 6 #[.agg #[.int .u32 a, .int .u32 b], .int .i64 x] w fun e w' => e = .returned (.bool true) ∧ Below w.heap.size w w' := by
  refine (callsIn_wide (n := 6)).1 ?_
  refine callsIn_of_wp_marks Try.func6 rfl trivial ?_ rfl
  simp only [Try.ntmps6, List.size_toArray, List.length_cons, List.length_nil, Nat.reduceAdd, Nat.reduceSub, Array.replicate_succ, Array.replicate_zero, List.push_toArray, List.append_toArray, List.nil_append, List.cons_append]
  gi_wp2_with fail
  have HB0 := Lib.hid (below_alloc w (.cells #[.int .u32 a, .int .u32 b] 33))
  have HR0 := Lib.hid (heap_alloc_new w (.cells #[.int .u32 a, .int .u32 b] 33))
  obtain ⟨W0, hW0⟩ : ∃ W0, W0 = w.alloc (.cells #[.int .u32 a, .int .u32 b] 33) := ⟨_, rfl⟩
  rw [← hW0] at HB0 HR0
  rw [← hW0]
  clear hW0
  obtain ⟨r, hr⟩ : ∃ r, r = w.heap.size := ⟨_, rfl⟩
  rw [← hr] at HR0
  rw [← hr]
  have HRW : Hid (r = w.heap.size) := hr
  clear hr
  refine ⟨trivial, (callsIn_wide.2 (awake_any W0)).mono ?_⟩
  rintro e w1 ⟨rfl, hb1⟩
  have HB1 := Lib.hid (HB0.out.trans (hb1.mono HB0.out.size))
  have HR1 := Lib.hid ((hb1.block r (Array.getElem?_eq_some_iff.1 HR0.out).1).trans HR0.out)
  clear hb1 HB0 HR0
  gi_wp2_with fail
  refine ⟨trivial, (callsIn_wide.2 (take_nil x w1)).mono ?_⟩
  rintro e w2 ⟨rfl, hb2⟩
  have K2 := Lib.hid (know_new (HB1.out.trans (hb2.mono HB1.out.size)) ((hb2.block r (Array.getElem?_eq_some_iff.1 HR1.out).1).trans HR1.out))
  clear hb2 HB1 HR1
  obtain ⟨⟨c0, c1⟩, d0, d1⟩ := K2.out.cells
  gi_wp2_with fail
  refine ⟨trivial, (callsIn_wide.2 (get_nil a b _)).mono ?_⟩
  rintro e w3 ⟨rfl, hb3⟩
  have K3 := Lib.hid (K2.out.grow hb3)
  clear c0 c1 d0 d1 hb3 K2
  obtain ⟨⟨c0, c1⟩, d0, d1⟩ := K3.out.cells
  gi_wp2_with fail
  refine ⟨trivial, (callsIn_wide.2 (serial_nil a b w3)).mono ?_⟩
  rintro e w4 ⟨rfl, hb4⟩
  have K4 := Lib.hid (K3.out.grow hb4)
  clear c0 c1 d0 d1 hb4 K3
  gi_wp2_with fail
  refine ⟨trivial, (callsIn_wide.2 (all_any none _)).mono ?_⟩
  rintro e w5 ⟨rfl, rfl⟩
  have hfn := func_nil (w4.heap.size + 1)
  gi_wp2_with fail
  obtain ⟨hL, hc5, hz5⟩ := loop_start K4.out
  have HL := Lib.hid hL
  have HC5 := Lib.hid hc5
  have hz0 : Hid (w.heap.size ≤ _) := hL.1.below.size
  clear hL hc5 hfn K4
  obtain ⟨v, hv⟩ : ∃ v, v = w4.heap.size := ⟨_, rfl⟩
  rw [← hv] at HL HC5 hz5
  rw [← hv]
  obtain ⟨W5, hW5⟩ : ∃ W5, W5 = (w4.alloc (.cells #[.bool true] 4)).alloc (.cells #[.pointer none] 25) := ⟨_, rfl⟩
  rw [← hW5] at HL HC5 hz5 hz0
  rw [← hW5]
  clear hv hW5
  refine range_none rfl (by omega) (gf := 46) (lb := #[.pointer (some ⟨v + 1, 0, none⟩)]) rfl trivial (enters_of Try.func46 (by kernel_rfl) rfl)
    (none_stops 5 (by omega) (v + 1) W5 HC5.out hz5) (fun _ => rfl) (fun W => Know r w2.heap.size a b w W ∧ W.cell? ⟨v, 0, none⟩ = some (.bool true)) (know_own _ hz0.out) HL.out ?_
  intro D W6 hD hK6 hdef
  have HK6 := Lib.hid (Rest.mk hK6.1 hK6.2 hdef)
  have HD : Hid (w.heap.size ≤ D) := Nat.le_trans hz0.out hD
  clear HL HC5 hz5 hz0 hD hdef hK6
  obtain ⟨⟨c0, c1⟩, d0, d1⟩ := HK6.out.know.cells
  gi_wp2_with fail
  refine ⟨trivial, (callsIn_wide.2 (free_nil a b W6)).mono ?_⟩
  rintro e w7 ⟨rfl, hb7⟩
  have HK7 := Lib.hid (HK6.out.grow hb7)
  clear c0 c1 d0 d1 HK6 hb7
  obtain ⟨⟨c0, c1⟩, d0, d1⟩ := HK7.out.know.cells
  gi_wp2_with fail
  refine ⟨trivial, (callsIn_wide.2 (set_nil a b x w7)).mono ?_⟩
  rintro e w8 ⟨rfl, hb8⟩
  have HK8 := Lib.hid (HK7.out.grow hb8)
  clear c0 c1 d0 d1 HK7 hb8
  obtain ⟨⟨c0, c1⟩, d0, d1⟩ := HK8.out.know.cells
  have v0 := HK8.out.v
  gi_wp2_with fail
  refine ⟨trivial, (callsIn_wide.2 (lives_nil a b w8)).mono ?_⟩
  rintro e w9 ⟨rfl, hb9⟩
  have HK9 := Lib.hid (HK8.out.grow hb9)
  clear c0 c1 d0 d1 v0 HK8 hb9
  gi_wp2_with fail
  refine ⟨trivial, (callsIn_wide.2 (count_nil w9)).mono ?_⟩
  rintro e w10 ⟨rfl, rfl⟩
  gi_wp2_with fail
  refine ⟨trivial, (callsIn_wide.2 (born_nil w9)).mono ?_⟩
  rintro e w10 ⟨rfl, rfl⟩
  have HRN := Lib.hid (HK9.out.know.below.trans (belowK_b (w := w) (Nat.le_refl _) w9 D (.deferred (some [])) (.deferred none) HD.out HK9.out.d rfl rfl))
  gi_wp2
  refine ⟨by simp, .inl ⟨_, _, rfl, run_takeDeferred HK9.out.d, ?_⟩⟩
  exact ⟨_, results_tmp rfl _ _ _, rfl, HRN.out⟩
theorem walks (a b : Nat) (x : Int) (w : World) (_ : (Lit.int .i64 x).wf = true) (_ : a < 4294967296) (_ : b < 4294967296) :
    Calls Try.prog 6 #[.agg #[.int .u32 a, .int .u32 b], .int .i64 x] w fun e w' => e = .returned (.bool true) ∧ Below w.heap.size w w' := walk a b x w
end Go.Proofs.Ytijlnlcjlkanaaa.Sub
