/- Spoil of a tree of one's own: it comes back, and what is not the tree's stays. -/
import Derived.Test.YtgodeffkboihlaaGreatDoorTsp
import Derived.Test.YtgodeffkboihlaaGreatDoorTba
import Derived.IntWalk
set_option linter.unusedVariables false
namespace Go.Proofs.YtgodeffkboihlaaGreatDoor.Tsq
open Go.RowKit Tra Trb Rwo Trc Trg Tcn Tst Tsp

def zeroNv : Nv := ⟨nd0, none, 0, 0⟩
/-- Two zero nodes appended. -/
theorem step_two {P : Program} {ops : Array Oper} {o : Oper} {a : Act} {w : World} {K : Act → World → Prop} {Q : Exit → Act → World → Prop} {X : Prop} (hgd : o.guard = none) (s x : Operand) (t : TypeId)
    (ho : o.op = .call { callee := .builtin .append, args := #[s, x], argTypes := #[t, t] })
    (T : TypeId) (z0 : Value) (bytes : Nat) (ht : P.underlying t = some (.slice T)) (hinfo : (P.info? T).map (fun i => (i.zero, i.size, i.bytes)) = some (some z0, 8, bytes)) (hz : z0.cells.size = 8)
    (B : Nat) (v : Value) (l : List Nv) (w0 : World) (hown : Own nE T B v l w0) (hs : a.eval s = v) (c : Nat)
    (H : Nat) (hw : w.heap = w0.heap.push (.cells #[.int .i64 0, .string ⟨#[]⟩, .int .i64 0, .string ⟨#[]⟩, .int .i64 0, .int .i64 0, .int .i64 0, .slice none 0 0, .int .i64 0, .string ⟨#[]⟩, .int .i64 0, .string ⟨#[]⟩, .int .i64 0, .int .i64 0, .int .i64 0, .slice none 0 0] T)) (hx : a.eval x = .slice (some ⟨H, 0, none⟩) 2 c) (hlen : (l.length + 2) * (bytes + 1) ≤ 140737488355328) (hB : B ≤ w0.heap.size ∧ w0.heap.size = H)
    (h : ∀ g cap w', Own nE T B (.slice (some ⟨g, 0, none⟩) (l.length + 2) cap) (l ++ [zeroNv, zeroNv]) w' → Below B w w' → (∀ b, b < w0.heap.size → v.ownBlock ≠ some b → w'.heap[b]? = w0.heap[b]?) → w0.heap.size < w'.heap.size → (v.ownBlock = some g ∨ w0.heap.size ≤ g) → K (a.put o.dst (.slice (some ⟨g, 0, none⟩) (l.length + 2) cap)) w') :
    if Region.wanted o (yielded ops a.tmps) = true then Oper.wp P o a w K Q else X := by
  obtain ⟨hB, rfl⟩ := hB
  obtain ⟨i0, hi, hz0, hz1, hz2⟩ := info_parts hinfo
  have hlt : ∀ b, b < w0.heap.size → w.heap[b]? = w0.heap[b]? := fun b hb => by rw [hw, Array.getElem?_push_lt hb, Array.getElem?_eq_getElem hb]
  have hnew : w.heap[w0.heap.size]? = some (.cells ([zeroNv, zeroNv].flatMap nE.f).toArray T (0, 0)) := by rw [hw, Array.getElem?_push_size]; rfl
  have hsz : w.heap.size = w0.heap.size + 1 := by rw [hw, Array.size_push]
  have hown1 : Own nE T B v l w := hown.kept fun b hb => hlt b (hown.lt hb).2
  have hone : ([zeroNv, zeroNv].flatMap nE.f).length = 2 * nE.z := by rw [flat_length]; rfl
  have hb2 : (l.length + 2) * bytes ≤ 140737488355328 := Nat.le_trans (Nat.mul_le_mul_left _ (Nat.le_succ _)) hlen
  have hb3 : l.length + 2 ≤ maxLen := by
    have h1 : (l.length + 2) * 1 ≤ (l.length + 2) * (bytes + 1) := Nat.mul_le_mul_left _ (by omega)
    unfold maxLen; omega
  refine step_append_lies w hgd s x t ho B T i0 z0 nE.z bytes ht hi hz0 hz1 hz2 hz nE.pos v l.length _ hs hown1 ⟨w0.heap.size, 0, none⟩ 2 c ([zeroNv, zeroNv].flatMap nE.f) hx hone ?_ (flat_one nE _) (by omega) hb3 hb2 (by omega) _ rfl ?_
  · have := World.news_of_block hnew
    simpa using this
  intro g cap w' hown' hg hat _
  refine h g cap w' ?_ ((Below.refl B w).grown hg (by omega) (fun k hk => (hown.lt hk).1)) ?_ ?_ (hat.imp id (fun e => by omega))
  · unfold Own
    rw [List.flatMap_append, List.length_append]
    exact hown'
  · intro b hb hne
    rw [hg.block b (by omega) (fun e => hne e.symm), hlt b hb]
  · have := hg.size; omega
/-- A row's cells, one kid. -/
theorem kid_row {T : TypeId} {B g n cap : Nat} {l : List Nv} {w : World} (h : Own nE T B (.slice (some ⟨g, 0, none⟩) n cap) l w) {j : Nat} (hj : j < l.length) {y : Nv} (hy : l.getD j nv0 = y) :
    (w.cell? ⟨g, j * 8, none⟩ = some (.int .i64 y.d.k) ∧ w.cell? ⟨g, j * 8 + 1, none⟩ = some (.string y.d.text) ∧ w.cell? ⟨g, j * 8 + 2, none⟩ = some (.int .i64 y.d.n) ∧ w.cell? ⟨g, j * 8 + 3, none⟩ = some (.string y.d.ty) ∧
    w.cell? ⟨g, j * 8 + 4, none⟩ = some (.int .i64 y.d.slot) ∧ w.cell? ⟨g, j * 8 + 5, none⟩ = some (.int .i64 y.d.at_) ∧ w.cell? ⟨g, j * 8 + 6, none⟩ = some (.int .i64 y.d.line) ∧ w.cell? ⟨g, j * 8 + 7, none⟩ = some (.slice y.a y.n y.c)) ∧
    (w.frozen? ⟨g, j * 8, none⟩ = false ∧ w.frozen? ⟨g, j * 8 + 1, none⟩ = false ∧ w.frozen? ⟨g, j * 8 + 2, none⟩ = false ∧ w.frozen? ⟨g, j * 8 + 3, none⟩ = false ∧ w.frozen? ⟨g, j * 8 + 4, none⟩ = false ∧ w.frozen? ⟨g, j * 8 + 5, none⟩ = false ∧ w.frozen? ⟨g, j * 8 + 6, none⟩ = false ∧ w.frozen? ⟨g, j * 8 + 7, none⟩ = false) := by
  have c := fun i hi => Own.cell h j i hj hi
  rw [show nE.d = nv0 from rfl, hy] at c
  exact ⟨⟨c 0 (by decide), c 1 (by decide), c 2 (by decide), c 3 (by decide), c 4 (by decide), c 5 (by decide), c 6 (by decide), c 7 (by decide)⟩, h.frozen _, h.frozen _, h.frozen _, h.frozen _, h.frozen _, h.frozen _, h.frozen _, h.frozen _⟩
abbrev moreNv : Nv := ⟨⟨0, ⟨#[109, 111, 114, 101]⟩, 0, ⟨#[]⟩, 0, 0, 0⟩, none, 0, 0⟩
section
variable {B p o g3 q q' : Nat} {S : Nat → Prop} {w w3 : World} {cs : Array Value} {ty : TypeId} {x : Option Addr} {n c : Nat}
theorem end_of {W' : World} (hcs : w.heap[p]? = some (.cells cs ty (0, 0))) (hg3 : g3 < w.heap.size → S g3) (hb : Below B w W') (hfar3 : ∀ b, b < w.heap.size → ¬ S b → w3.heap[b]? = w.heap[b]?) (far : ∀ b, b ≠ g3 → b ≠ p → W'.heap[b]? = w3.heap[b]?)
    (hp : W'.heap[p]? = some (.cells (cs.setIfInBounds (o + 7) (.slice x n c)) ty (0, 0))) : SpPost B S p o w (.returned (.tuple #[])) W' := by
  refine ⟨rfl, hb, fun b hlt hS hbp => ?_, x, n, c, ?_⟩
  · rw [far b (fun e => hS (e ▸ hg3 (e ▸ hlt))) hbp]; exact hfar3 b hlt hS
  · rw [hp, heap_setCell_same w p (o + 7) cs ty _ hcs]
theorem end_a (hcs : w.heap[p]? = some (.cells cs ty (0, 0))) (hg3 : g3 < w.heap.size → S g3) (hgp : g3 ≠ p) (hBg : B ≤ g3) (hBp : B ≤ p) (hSp : ¬ S p) (hb : Below B w w3) (hfar3 : ∀ b, b < w.heap.size → ¬ S b → w3.heap[b]? = w.heap[b]?) :
    SpPost B S p o w (.returned (.tuple #[])) ((putAt (putAt w3 g3 q moreNv) g3 q' moreNv).setCell ⟨p, o + 7, none⟩ (.slice x n c)) := by
  have hplt : p < w.heap.size := (Array.getElem?_eq_some_iff.1 hcs).1
  refine end_of (x := x) (n := n) (c := c) hcs hg3 ((putAt_below (putAt_below hb hBg _ _) hBg _ _).setCell (p := ⟨p, o + 7, none⟩) hBp _) hfar3 (fun b h1 h2 => ?_) ?_
  · rw [far_at _ _ _ _ _ h2, putAt_far _ _ _ _ _ h1, putAt_far _ _ _ _ _ h1]
  · refine heap_setCell_same _ p (o + 7) cs ty _ ?_
    rw [putAt_far _ _ _ _ _ hgp.symm, putAt_far _ _ _ _ _ hgp.symm, hfar3 p hplt hSp]; exact hcs
theorem end_b (hcs : w.heap[p]? = some (.cells cs ty (0, 0))) (hg3 : g3 < w.heap.size → S g3) (hgp : g3 ≠ p) (hBg : B ≤ g3) (hBp : B ≤ p) (hSp : ¬ S p) (hb : Below B w w3) (hfar3 : ∀ b, b < w.heap.size → ¬ S b → w3.heap[b]? = w.heap[b]?) :
    SpPost B S p o w (.returned (.tuple #[])) (putAt ((putAt w3 g3 q moreNv).setCell ⟨p, o + 7, none⟩ (.slice x n c)) g3 q' moreNv) := by
  have hplt : p < w.heap.size := (Array.getElem?_eq_some_iff.1 hcs).1
  refine end_of (x := x) (n := n) (c := c) hcs hg3 (putAt_below ((putAt_below hb hBg _ _).setCell (p := ⟨p, o + 7, none⟩) hBp _) hBg _ _) hfar3 (fun b h1 h2 => ?_) ?_
  · rw [putAt_far _ _ _ _ _ h1, far_at _ _ _ _ _ h2, putAt_far _ _ _ _ _ h1]
  · rw [putAt_far _ _ _ _ _ hgp.symm]
    refine heap_setCell_same _ p (o + 7) cs ty _ ?_
    rw [putAt_far _ _ _ _ _ hgp.symm, hfar3 p hplt hSp]; exact hcs
theorem end_c (hcs : w.heap[p]? = some (.cells cs ty (0, 0))) (hg3 : g3 < w.heap.size → S g3) (hgp : g3 ≠ p) (hBg : B ≤ g3) (hBp : B ≤ p) (hSp : ¬ S p) (hb : Below B w w3) (hfar3 : ∀ b, b < w.heap.size → ¬ S b → w3.heap[b]? = w.heap[b]?) :
    SpPost B S p o w (.returned (.tuple #[])) (putAt (putAt (w3.setCell ⟨p, o + 7, none⟩ (.slice x n c)) g3 q moreNv) g3 q' moreNv) := by
  have hplt : p < w.heap.size := (Array.getElem?_eq_some_iff.1 hcs).1
  refine end_of (x := x) (n := n) (c := c) hcs hg3 (putAt_below (putAt_below (hb.setCell (p := ⟨p, o + 7, none⟩) hBp _) hBg _ _) hBg _ _) hfar3 (fun b h1 h2 => ?_) ?_
  · rw [putAt_far _ _ _ _ _ h1, putAt_far _ _ _ _ _ h1, far_at _ _ _ _ _ h2]
  · rw [putAt_far _ _ _ _ _ hgp.symm, putAt_far _ _ _ _ _ hgp.symm]
    refine heap_setCell_same _ p (o + 7) cs ty _ ?_
    rw [hfar3 p hplt hSp]; exact hcs
end
set_option maxHeartbeats 8000000 in
set_option maxRecDepth 100000 in
theorem spoil_none (B p o : Nat) (S : Nat → Prop) (a : Option Addr) (c : Nat) (w : World) (hoB : Own nE 25 B (.slice a 0 c) [] w) (hS : ∀ b, (Value.slice a 0 c).ownBlock = some b → S b) (hSp : ¬ S p) (hSB : ∀ b, S b → B ≤ b) (hBp : B ≤ p) (hBw : B ≤ w.heap.size)
    (cs : Array Value) (ty : TypeId) (hcs : w.heap[p]? = some (.cells cs ty (0, 0))) (hc : w.cell? ⟨p, o + 7, none⟩ = some (.slice a 0 c)) :
    Calls Tryz.prog 22 #[.pointer (some ⟨p, o, none⟩)] w (SpPost B S p o w) := by
  have hplt : p < w.heap.size := (Array.getElem?_eq_some_iff.1 hcs).1
  have hfz : w.frozen? ⟨p, o + 7, none⟩ = false := Lib.frozen_of_heap hcs _
  have HO := Lib.hid hoB
  have hown : (Value.slice a 0 c).ownBlock ≠ some p := fun e => hSp (hS p e)
  have HOW := Lib.hid hown
  have HSS := Lib.hid hS
  have HSB := Lib.hid hSB
  have HSP := Lib.hid hSp
  have HCS := Lib.hid hcs
  clear hoB hown hS hSB hSp hcs
  go_enter Tryz.func22, Tryz.ntmps22
  go_wp2
  go_loopw [2] (fun i wr => ∃ k : Nat, k = 0 ∧ i = .int .i64 k ∧ wr = w) (fun i _ => 0)
  case atStart => exact ⟨0, rfl, rfl, rfl⟩
  case round =>
    obtain ⟨k, rfl, rfl, rfl⟩ := hrel
    go_wp2_with fail
    go_region_law ((refine step_two (by rfl) _ _ _ (by rfl) 25 _ 96 Tryz.underlying23 Tba.infoNd (by rfl) B _ [] wr HO.out (by rfl) _ wr.heap.size (by rfl) (by rfl) (by decide) ⟨hBw, by rfl⟩ ?_
                    intro g3 cp3 w3 hO3 hb3 hfar hsz3 hat
                    have hk0 := kid_row hO3 (j := 0) (y := zeroNv) (by simp) rfl
                    have hk1 := kid_row hO3 (j := 1) (y := zeroNv) (by simp) rfl
                    simp only [Nat.zero_mul, Nat.zero_add, Nat.one_mul, Nat.reduceAdd] at hk0 hk1
                    obtain ⟨⟨c0, c1, c2, c3, c4, c5, c6, c7⟩, f0, f1, f2, f3, f4, f5, f6, f7⟩ := hk0
                    obtain ⟨⟨d0, d1, d2, d3, d4, d5, d6, d7⟩, e0, e1, e2, e3, e4, e5, e6, e7⟩ := hk1
                    have hpb3 : w3.heap[p]? = wr.heap[p]? := hfar p hplt HOW.out
                    have hpc3 := (World.cell?_of_block (a := ⟨p, o + 7, none⟩) hpb3).trans hc
                    have hpf3 : w3.frozen? ⟨p, o + 7, none⟩ = false := Lib.frozen_of_heap (hpb3.trans HCS.out) _
                    have hg3p : g3 ≠ p := by
                      rcases hat with h | h
                      · exact fun e => HOW.out (e ▸ h)
                      · omega
                    have hpg3 : p ≠ g3 := fun e => hg3p e.symm
                    have hbw3 : Below B wr w3 := by first | exact ((Below.refl B wr).alloc hBw _).trans hb3 | exact (((Below.refl B wr).drew).alloc hBw _).trans hb3 | exact (((Below.refl B wr).alloc hBw _).drew).trans hb3
                    have HB3 := Lib.hid hbw3
                    have HG3 : Hid (B ≤ g3 ∧ (g3 < wr.heap.size → S g3)) := by
                      rcases hat with h | h
                      · have h9 := HSS.out g3 h
                        exact ⟨HSB.out g3 h9, fun _ => h9⟩
                      · exact ⟨by omega, fun h2 => by omega⟩
                    have HFA : Hid (∀ b, b < wr.heap.size → ¬ S b → w3.heap[b]? = wr.heap[b]?) := fun b hlt2 hS2 => hfar b hlt2 (fun e => hS2 (HSS.out b e))
                    clear hpb3 hfar hb3 hsz3 hat hO3 hbw3
                    have i4 : IntKind.i64.wrap 1 = 1 := by decide))
    all_goals
      clear i4
      go_end0
      first
        | with_reducible exact end_a (q := 0) (q' := 8) HCS.out HG3.out.2 hg3p HG3.out.1 hBp HSP.out HB3.out HFA.out
        | with_reducible exact end_b (q := 0) (q' := 8) HCS.out HG3.out.2 hg3p HG3.out.1 hBp HSP.out HB3.out HFA.out
        | with_reducible exact end_c (q := 0) (q' := 8) HCS.out HG3.out.2 hg3p HG3.out.1 hBp HSP.out HB3.out HFA.out
set_option maxHeartbeats 8000000 in
set_option maxRecDepth 100000 in
theorem spoil_any : ∀ (t : Tr) (B p o : Nat) (S : Nat → Prop) (a : Option Addr) (c : Nat) (w : World), Sep 25 false w S t (t.d.val a t.kids.length c) → ¬ S p → (∀ b, S b → B ≤ b) → B ≤ p → B ≤ w.heap.size →
    (∃ cs ty, w.heap[p]? = some (.cells cs ty (0, 0))) → w.cell? ⟨p, o + 7, none⟩ = some (.slice a t.kids.length c) → Fit t →
    Calls Tryz.prog 22 #[.pointer (some ⟨p, o, none⟩)] w (SpPost B S p o w) := by
  refine tree_ind fun d ks ih => ?_
  intro B p o S a c w hsep hSp hSB hBp hBw hcs hc hF
  have hlen := fit_len hF
  simp only [Tr.d, Tr.kids] at hsep hc
  obtain ⟨cs, ty, hcs⟩ := hcs
  have hplt : p < w.heap.size := (Array.getElem?_eq_some_iff.1 hcs).1
  have hfz : w.frozen? ⟨p, o + 7, none⟩ = false := Lib.frozen_of_heap hcs _
  have HF := Lib.hid hF
  have HI := Lib.hid ih
  clear ih hF
  cases hsep with
  | mk _ R _ _ _ _ n xs ho hl hS hR hd hk =>
  unfold rowOf at ho
  simp only [Bool.false_eq_true, if_false] at ho
  by_cases hks : ks = []
  · subst hks
    obtain rfl : xs = [] := List.length_eq_zero_iff.1 hl
    have hoB : Own nE 25 B (.slice a n c) [] w := by
      refine ⟨ho.1, ho.2.imp id ?_⟩
      rintro ⟨g', cap', cur', hv, h0, h1, h2⟩
      refine ⟨g', cap', cur', hv, ?_, h1, h2⟩
      rw [hv] at hS
      exact hSB g' (hS g' rfl)
    have hn0 : n = 0 := by
      obtain ⟨A, c', e⟩ := ho.shape
      simp only [Value.slice.injEq] at e; exact e.2.1
    subst hn0
    exact spoil_none B p o S a c w hoB hS hSp hSB hBp hBw cs ty hcs hc
  · have hxs : xs ≠ [] := fun e => hks (by rw [e] at hl; exact List.length_eq_zero_iff.1 hl.symm)
    obtain ⟨g, cap, cur, e, _, hgb, hglt, hgc⟩ := ho.some hxs
    simp only [Value.slice.injEq] at e
    obtain ⟨rfl, rfl, rfl⟩ := e
    have hSg : S g := hS g rfl
    have hpg : p ≠ g := fun e => hSp (e ▸ hSg)
    have hRR : ∀ j, j < ks.length → ∀ b, R j b → S b ∧ g ≠ b := fun j hj b hr => ⟨(hR j hj b hr).1, fun e => (hR j hj b hr).2 (by rw [e]; rfl)⟩
    have hst : Sp 25 w B S R g c ks xs 0 xs w := ⟨Below.refl _ _, by rw [hl] at ho; exact ho, hl, fun j _ hj => ⟨rfl, hk j hj⟩, fun _ _ _ => rfl⟩
    have HST := Lib.hid hst
    have HRR := Lib.hid hRR
    have HD := Lib.hid hd
    have HSB := Lib.hid hSB
    have HSP := Lib.hid hSp
    have HCS := Lib.hid hcs
    have hgB : B ≤ g := hSB g hSg
    have HSG := Lib.hid hSg
    have hxl : xs.length = ks.length := hl
    have HXL := Lib.hid hxl
    have hpos : 0 < ks.length := List.length_pos_iff.2 hks
    clear hst hRR hd hSB hSp hcs hSg hS hR hk ho hl hxs hks hgb hgc hxl
    go_enter Tryz.func22, Tryz.ntmps22
    go_wp2
    go_loopw [2] (fun i wr => ∃ (k : Nat) (ys : List Nv), k ≤ ks.length ∧ i = .int .i64 k ∧ Hid (Sp 25 w B S R g c ks xs k ys wr)) (fun i _ => ks.length - (intOf i).toNat)
    case atStart => exact ⟨0, xs, Nat.zero_le _, rfl, HST.out⟩
    case round =>
      obtain ⟨k, ys, hk, rfl, hs⟩ := hrel
      have hpb := hs.out.far p hplt HSP.out
      have hpc : wr.cell? ⟨p, o + 7, none⟩ = some (.slice (some ⟨g, 0, none⟩) ks.length c) := (World.cell?_of_block (a := ⟨p, _, none⟩) hpb).trans hc
      have hpf : wr.frozen? ⟨p, o + 7, none⟩ = false := Lib.frozen_of_heap (hpb.trans HCS.out) _
      have hsz := hs.out.below.size
      have hpw : p < wr.heap.size := by omega
      have HPB := Lib.hid hpb
      clear hpb
      by_cases hlt : k < ks.length
      · have hrow := hs.out.row
        have hky : k < ys.length := by rw [hs.out.len]; exact hlt
        obtain ⟨hye, hsep⟩ := hs.out.rest k (Nat.le_refl _) hlt
        have hFk := fit_kid HF.out hlt
        have HII := HI.out k hlt B g (k * 8) (R k)
        obtain ⟨t, ht⟩ : ∃ t, ks.getD k tr0 = t := ⟨_, rfl⟩
        rw [ht] at HII hsep hFk
        obtain ⟨y, hy⟩ : ∃ y, xs.getD k nv0 = y := ⟨_, rfl⟩
        rw [hy] at hye hsep
        have hgw : g < wr.heap.size := (hrow.lt rfl).2
        obtain ⟨⟨c0, c1, c2, c3, c4, c5, c6, c7⟩, f0, f1, f2, f3, f4, f5, f6, f7⟩ := kid_row hrow hky hye
        have hyv : y.val = t.d.val y.a t.kids.length y.c ∧ y.n = t.kids.length := by
          have := hsep.lies.shape
          obtain ⟨a', c', e⟩ := this
          simp only [Value.agg.injEq] at e
          have e2 := congrArg Array.toList e
          simp only [List.cons.injEq, Value.slice.injEq] at e2
          obtain ⟨e0, e1, e2, e3, e4, e5, e6, ⟨e7, e8, e9⟩, _⟩ := e2
          refine ⟨?_, e8⟩
          show Value.agg _ = Value.agg _
          rw [e0, e1, e2, e3, e4, e5, e6, e8]
        have hblk : ∃ cs ty, wr.heap[g]? = some (.cells cs ty (0, 0)) := by
          obtain ⟨g', cap', cur', e, _, h, _⟩ := hrow.some (by intro e; rw [e] at hky; simp at hky)
          simp only [Value.slice.injEq, Option.some.injEq, Addr.mk.injEq] at e
          obtain ⟨⟨rfl, _, _⟩, _⟩ := e
          exact ⟨_, _, h⟩
        have HC : Calls Tryz.prog 22 #[.pointer (some ⟨g, k * 8, none⟩)] wr (SpPost B (R k) g (k * 8) wr) :=
          HII y.a y.c wr (by rw [← hyv.1]; exact hsep) (fun h => (HRR.out k hlt g h).2 rfl) (fun b hb => HSB.out b (HRR.out k hlt b hb).1) hgB (by omega) hblk (by rw [← hyv.2]; exact c7) hFk
        have HCC := Lib.hid HC
        clear HII hsep hFk ht hy hye hyv hblk HC hrow
        clear c0 c1 c2 c3 c4 c5 c6 c7 f0 f1 f2 f3 f4 f5 f6 f7
        go_wp2_with fail
        refine HCC.out.mono ?_
        rintro e w1 ⟨rfl, hb1, hfar, x, n', c', hrow⟩
        obtain ⟨ho1, hs1⟩ := hs.out.next hlt HSG.out hgB HRR.out HD.out (by omega) hb1 hfar hrow
        have HS1 := Lib.hid hs1
        obtain ⟨⟨c0, c1, c2, c3, c4, c5, c6, c7⟩, f0, f1, f2, f3, f4, f5, f6, f7⟩ := kid_row ho1 (by simpa using hky) (set_getD hky _)
        have hpb1 : w1.heap[p]? = wr.heap[p]? := hfar p hpw (fun h => HSP.out (HRR.out k hlt p h).1) hpg
        have hpc1 : w1.cell? ⟨p, o + 7, none⟩ = some (.slice (some ⟨g, 0, none⟩) ks.length c) := (World.cell?_of_block (a := ⟨p, _, none⟩) hpb1).trans hpc
        clear hb1 hfar hrow ho1 hs1 hpb1 hpc hpf
        go_wp2_with fail
        go_roundw
        case rel => exact ⟨k + 1, _, by omega, by go_num, HS1.out⟩
        case measure => simp [intOf]; omega
      · obtain rfl : k = ks.length := by omega
        have ho := hs.out.row
        have hyl : ys.length = ks.length := hs.out.len
        have hoB : Own nE 25 B (.slice (some ⟨g, 0, none⟩) ks.length c) ys wr := by
          refine ⟨ho.1, ho.2.imp id ?_⟩
          rintro ⟨g', cap', cur', hv, h0, h1, h2⟩
          refine ⟨g', cap', cur', hv, ?_, h1, h2⟩
          simp only [Value.slice.injEq, Option.some.injEq, Addr.mk.injEq] at hv
          obtain ⟨⟨rfl, _⟩, _⟩ := hv
          exact hgB
        have HO := Lib.hid hoB
        have hBr : B ≤ wr.heap.size := by omega
        have hgr : g < wr.heap.size := (ho.lt rfl).2
        clear ho hoB
        have hgp : g ≠ p := fun e => hpg e.symm
        go_wp2_with fail
        go_region_law ((refine step_two (by rfl) _ _ _ (by rfl) 25 _ 96 Tryz.underlying23 Tba.infoNd (by rfl) B _ ys wr HO.out (by rfl) _ wr.heap.size (by rfl) (by rfl) (by omega) ⟨hBr, by rfl⟩ ?_
                        intro g3 cp3 w3 hO3 hb3 hfar hsz3 hat
                        have hl2 : (ys ++ [zeroNv, zeroNv]).length = ks.length + 2 := by simp [hyl]
                        have hk0 := kid_row hO3 (j := ks.length) (y := zeroNv) (by omega) (by rw [← hyl]; simp [List.getD_eq_getElem?_getD])
                        have hk1 := kid_row hO3 (j := ks.length + 1) (y := zeroNv) (by omega) (by rw [← hyl]; simp [List.getD_eq_getElem?_getD])
                        obtain ⟨⟨c0, c1, c2, c3, c4, c5, c6, c7⟩, f0, f1, f2, f3, f4, f5, f6, f7⟩ := hk0
                        obtain ⟨⟨d0, d1, d2, d3, d4, d5, d6, d7⟩, e0, e1, e2, e3, e4, e5, e6, e7⟩ := hk1
                        have hpb3 : w3.heap[p]? = wr.heap[p]? := hfar p hpw (fun e => hgp (by simpa [Value.ownBlock] using e))
                        have hpc3 := (World.cell?_of_block (a := ⟨p, o + 7, none⟩) hpb3).trans hpc
                        have hpf3 : w3.frozen? ⟨p, o + 7, none⟩ = false := Lib.frozen_of_heap (hpb3.trans (HPB.out.trans HCS.out)) _
                        have hg3p : g3 ≠ p := by
                          rcases hat with h | h
                          · have : g = g3 := by simpa [Value.ownBlock] using h
                            exact this ▸ hgp
                          · omega
                        have hpg3 : p ≠ g3 := fun e => hg3p e.symm
                        have hbw3 : Below B wr w3 := by first | exact ((Below.refl B wr).alloc hBr _).trans hb3 | exact (((Below.refl B wr).drew).alloc hBr _).trans hb3 | exact (((Below.refl B wr).alloc hBr _).drew).trans hb3
                        have HB3 := Lib.hid (hs.out.below.trans hbw3)
                        have HG3 : Hid (B ≤ g3 ∧ (g3 < w.heap.size → S g3)) := by
                          rcases hat with h | h
                          · have e : g = g3 := by simpa [Value.ownBlock] using h
                            exact ⟨e ▸ hgB, fun _ => e ▸ HSG.out⟩
                          · exact ⟨by omega, fun h2 => by omega⟩
                        have HFA : Hid (∀ b, b < w.heap.size → ¬ S b → w3.heap[b]? = w.heap[b]?) := fun b hlt2 hS2 => by
                          rw [hfar b (by omega) (fun e => hS2 (by have e2 : g = b := by simpa [Value.ownBlock] using e
                                                                  exact e2 ▸ HSG.out))]
                          exact hs.out.far b hlt2 hS2
                        clear hpb3 hfar hb3 hsz3 hat hO3 hl2 hbw3
                        have i0 : (ks.length : Int) < (ks.length : Int) + 2 := by omega
                        have i1 : (ks.length : Int) + 1 < (ks.length : Int) + 2 := by omega
                        have i2 : (0 : Int) ≤ (ks.length : Int) + 1 := by omega
                        have i3 : ((ks.length : Int) + 1).toNat = ks.length + 1 := by omega
                        have i4 : IntKind.i64.wrap ((ks.length : Int) + 1) = (ks.length : Int) + 1 := IntWalk.i64_in _ (by omega)))
        all_goals
          clear i0 i1 i2 i3 i4
          go_end0
          first
            | with_reducible exact end_a HCS.out HG3.out.2 hg3p HG3.out.1 hBp HSP.out HB3.out HFA.out
            | with_reducible exact end_b HCS.out HG3.out.2 hg3p HG3.out.1 hBp HSP.out HB3.out HFA.out
            | with_reducible exact end_c HCS.out HG3.out.2 hg3p HG3.out.1 hBp HSP.out HB3.out HFA.out
end Go.Proofs.YtgodeffkboihlaaGreatDoor.Tsq
