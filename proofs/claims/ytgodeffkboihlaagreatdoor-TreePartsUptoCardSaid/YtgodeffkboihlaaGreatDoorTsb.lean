/- The reference's Same. -/
import Derived.Test.YtgodeffkboihlaaGreatDoorTsa
import Derived.StillTailTactics
set_option linter.unusedVariables false
namespace Go.Proofs.YtgodeffkboihlaaGreatDoor.Tsb
open Go.RowKit Tra Trb Trf Trd Tcn Trh Tsa

/-- The reference's Same where the nodes and the lengths are alike: the loop. -/
theorem below_boxes2 (w : World) (d d' : Nd) (a a' : Option Addr) (n n' c c' : Nat) : Below w.heap.size w ((box w d a n c).alloc (.cells (d'.row a' n' c').toArray 25)) := (box_below w d a n c).alloc (by simp) _
theorem boxes_cells (w : World) (d d' : Nd) (a a' : Option Addr) (n n' c c' : Nat) {W : World} (hb : Below ((box w d a n c).alloc (.cells (d'.row a' n' c').toArray 25)).heap.size ((box w d a n c).alloc (.cells (d'.row a' n' c').toArray 25)) W) :
    W.cell? ⟨w.heap.size, 7, none⟩ = some (.slice a n c) ∧ W.cell? ⟨w.heap.size + 1, 7, none⟩ = some (.slice a' n' c') := by
  have h1 : W.heap[w.heap.size]? = some (.cells (d.row a n c).toArray 25 (0, 0)) := by
    rw [hb.block _ (by simp; omega), heap_alloc_old _ _ (by simp)]; exact heap_alloc_new _ _
  have h2 : W.heap[w.heap.size + 1]? = some (.cells (d'.row a' n' c').toArray 25 (0, 0)) := by
    rw [hb.block _ (by simp)]
    have := heap_alloc_new (box w d a n c) (.cells (d'.row a' n' c').toArray 25)
    simpa using this
  constructor
  · rw [Lib.cell_of_heap h1]; rfl
  · rw [Lib.cell_of_heap h2]; rfl
set_option maxHeartbeats 4000000 in
set_option maxRecDepth 100000 in
theorem rsame_any : ∀ (t t' : Tr) (v u : Value) (S S' : Nat → Prop) (w : World), Lies w S t v → Lies w S' t' u → Fit t →
    Calls Tryz.prog 23 #[v, u] w fun e w' => e = .returned (.bool (same t t')) ∧ Below w.heap.size w w' := by
  refine tree_ind fun d ks ih => ?_
  rintro ⟨d', ls⟩ v u S S' w hv hu hF
  obtain ⟨a, c, rfl, hK⟩ := kids_lie hv
  obtain ⟨a', c', rfl, hL⟩ := kids_lie hu
  have HB := Lib.hid (below_boxes w d d' a a' ks.length ls.length c c')
  have HC := fun W hb => boxes_cells w d d' a a' ks.length ls.length c c' (W := W) hb
  have hlen := fit_len hF
  have HK := Lib.hid hK
  have HL := Lib.hid hL
  have HI : Hid (∀ j, j < ks.length → ∀ (v u : Value) (W : World), Lies W S (ks.getD j tr0) v → Lies W S' (ls.getD j tr0) u → Calls Tryz.prog 23 #[v, u] W fun e w' => e = .returned (.bool (same (ks.getD j tr0) (ls.getD j tr0))) ∧ Below W.heap.size W w') :=
    fun j hj v u W h1 h2 => ih j hj _ v u S S' W h1 h2 (fit_kid hF hj)
  clear ih hv hu hF hK hL
  have HY := Lib.hid (@same_yes d d')
  have HN := Lib.hid (@same_no d d')
  have HCC := Lib.hid HC
  clear HC
  obtain ⟨k, s, n, y, s4, s5, s6⟩ := d
  obtain ⟨k', s', n', y', s4', s5', s6'⟩ := d'
  have hm : ∀ W, Calls Tryz.prog 35 #[.int .i64 k] W fun e w' => e = .returned (.bool (marks k)) ∧ W = w' := marked_any k
  have HM := Lib.hid hm
  clear hm
  by_cases e0 : k = k'
  rotate_left
  · have HN2 := Lib.hid (HN.out (fun h => e0 h.1) ks ls)
    have E0 : (k == k') = false := beq_false_of_ne e0
    clear HN HY
    go_enter Tryz.func23, Tryz.ntmps23
    go_wp2_with fail
    refine (HM.out _).mono ?_
    rintro e w1 ⟨rfl, rfl⟩
    go_wp2
    go_ret
    exact ⟨by rw [HN2.out]; rfl, HB.out⟩
  subst e0
  by_cases e1 : s = s'
  rotate_left
  · have HN2 := Lib.hid (HN.out (fun h => e1 h.2.1) ks ls)
    have E1 := ba_ne e1
    clear HN HY
    go_enter Tryz.func23, Tryz.ntmps23
    go_wp2_with fail
    refine (HM.out _).mono ?_
    rintro e w1 ⟨rfl, rfl⟩
    go_wp2
    go_ret
    exact ⟨by rw [HN2.out]; rfl, HB.out⟩
  subst e1
  by_cases e2 : n = n'
  rotate_left
  · have HN2 := Lib.hid (HN.out (fun h => e2 h.2.2.1) ks ls)
    have E2 : (n == n') = false := beq_false_of_ne e2
    clear HN HY
    go_enter Tryz.func23, Tryz.ntmps23
    go_wp2_with fail
    refine (HM.out _).mono ?_
    rintro e w1 ⟨rfl, rfl⟩
    go_wp2
    go_ret
    exact ⟨by rw [HN2.out]; rfl, HB.out⟩
  subst e2
  by_cases hl : ks.length = ls.length
  rotate_left
  · have HN2 : Hid (same (.mk ⟨k, s, n, y, s4, s5, s6⟩ ks) (.mk ⟨k, s, n, y', s4', s5', s6'⟩ ls) = false) := by
      cases hh : same (.mk ⟨k, s, n, y, s4, s5, s6⟩ ks) (.mk ⟨k, s, n, y', s4', s5', s6'⟩ ls) with
      | false => rfl
      | true =>
        simp only [same, Bool.and_eq_true] at hh
        exact absurd (sames_length hh.2) hl
    have hd : ((ks.length : Int) == (ls.length : Int)) = false := beq_false_of_ne (by omega)
    have hd2 : ((ks.length : Int) != (ls.length : Int)) = true := by unfold bne; rw [hd]; rfl
    clear HN HY hl
    go_enter Tryz.func23, Tryz.ntmps23
    go_wp2_with fail
    refine (HM.out _).mono ?_
    rintro e w1 ⟨rfl, rfl⟩
    go_wp2
    go_ret
    exact ⟨by rw [HN2.out]; rfl, HB.out⟩
  by_cases e3 : marks k = false ∧ y ≠ y'
  · obtain ⟨e3, e4⟩ := e3
    have HN2 := Lib.hid (HN.out (fun h => by rcases h.2.2.2 with h | h; · rw [e3] at h; cases h
                                             · exact e4 h) ks ls)
    have E4 := ba_ne e4
    rw [e3] at HM
    rw [← hl] at HB
    clear e3 e4 HN HY
    rw [← hl]
    have HLL := Lib.hid hl
    clear hl
    go_enter Tryz.func23, Tryz.ntmps23
    go_wp2_with fail
    refine (HM.out _).mono ?_
    rintro e w1 ⟨rfl, rfl⟩
    go_wp2
    go_ret
    exact ⟨by rw [HN2.out]; rfl, HB.out⟩
  have e5 : marks k = true ∨ y = y' := by
    cases h : marks k with
    | true => exact .inl rfl
    | false =>
      by_cases h2 : y = y'
      · exact .inr h2
      · exact absurd ⟨h, h2⟩ e3
  have HN2 := Lib.hid (HY.out ⟨rfl, rfl, rfl, e5⟩ ks ls)
  rw [← hl] at HB
  rw [← hl] at HCC
  rw [← hl]
  have HLL := Lib.hid hl
  clear hl HN HY e3
  go_enter Tryz.func23, Tryz.ntmps23
  go_wp2_with fail
  refine (HM.out _).mono ?_
  rintro e w1 ⟨rfl, rfl⟩
  have hor : (marks k = true ∧ (!marks k) = false) ∨ (marks k = false ∧ (!marks k) = true ∧ y = y') := by
    cases h : marks k with
    | true => exact .inl ⟨rfl, rfl⟩
    | false => exact .inr ⟨rfl, rfl, e5.elim (fun h5 => by rw [h] at h5; cases h5) id⟩
  clear e5
  obtain ⟨mk, hmk⟩ : ∃ m, marks k = m := ⟨_, rfl⟩
  rw [hmk] at hor
  have HMK := Lib.hid hmk
  rw [hmk]
  clear hmk HM
  rcases hor with ⟨rfl, _⟩ | ⟨rfl, _, rfl⟩
  all_goals
    go_wp2
    go_loopw [6, 7] (fun i _ wr => ∃ k : Nat, k ≤ ks.length ∧ i = .int .i64 k ∧ Hid (sames (ks.take k) (ls.take k) = true) ∧ Hid (Below w.heap.size w wr) ∧ wr.cell? ⟨w.heap.size, 7, none⟩ = some (.slice a ks.length c) ∧ wr.cell? ⟨w.heap.size + 1, 7, none⟩ = some (.slice a' ks.length c') ∧ w.heap.size + 1 < wr.heap.size) (fun i _ _ => ks.length - (intOf i).toNat)
    case atStart =>
      have := HCC.out _ (Below.refl _ _)
      exact ⟨0, Nat.zero_le _, rfl, by simp [sames, Hid], HB, this.1, this.2, by simp⟩
    case round =>
      obtain ⟨q, hq, rfl, hs, hbw, k7, k7', hsz⟩ := hrel
      by_cases hlt : q < ks.length
      · obtain ⟨b, o, rfl, hA⟩ := (HK.out.kept hbw.out).get hlt
        obtain ⟨b', o', rfl, hA'⟩ := (HL.out.kept hbw.out).get (j := q) (by rw [← HLL.out]; exact hlt)
        have hb := hA.2.1
        have hb' := hA'.2.1
        have IH := HI.out q hlt
        have hS := sames_take_succ HLL.out hlt
        obtain ⟨t, ht⟩ : ∃ t, ks.getD q tr0 = t := ⟨_, rfl⟩
        obtain ⟨u, hu⟩ : ∃ t, ls.getD q tr0 = t := ⟨_, rfl⟩
        rw [ht, hu] at IH hS
        rw [ht] at hA
        rw [hu] at hA'
        rw [hs.out, Bool.true_and] at hS
        have HS := Lib.hid hS
        have HTU := Lib.hid (And.intro ht hu)
        clear ht hu hS
        obtain ⟨x, cx, hx, c0, c1, c2, c3, c4, c5, c6, c7⟩ := hA.cells
        obtain ⟨z, cz, hz, d0, d1, d2, d3, d4, d5, d6, d7⟩ := hA'.cells
        have HX := Lib.hid hx
        have HZ := Lib.hid hz
        have HII := Lib.hid IH
        clear hA hA' hx hz IH
        cases hsm : same t u with
        | true =>
          rw [hsm] at HII HS
          have HN : Hid (sames (ks.take (q + 1)) (ls.take (q + 1)) = true) := HS.out
          clear hsm HS
          go_wp2_with fail
          go_still_tail 10, (by kernel_rfl)
          change wpList _ _ _ _ _ wr.drew
          go_wp2_with fail
          have hq := (Below.refl wr.heap.size wr).drew
          have HQ := Lib.hid hq
          clear hq
          refine (HII.out _ _ _ (HX.out.kept HQ.out) (HZ.out.kept HQ.out)).mono ?_
          rintro e w1 ⟨rfl, hb1⟩
          have hb2 := HQ.out.trans (hb1.mono HQ.out.size)
          have m7 : w1.cell? ⟨w.heap.size, 7, none⟩ = some (.slice (some ⟨b, o, none⟩) ks.length c) := (hb2.cell (p := ⟨w.heap.size, 7, none⟩) (by show w.heap.size < _; omega)).trans k7
          have m7' : w1.cell? ⟨w.heap.size + 1, 7, none⟩ = some (.slice (some ⟨b', o', none⟩) ks.length c') := (hb2.cell (p := ⟨w.heap.size + 1, 7, none⟩) (by show w.heap.size + 1 < _; omega)).trans k7'
          have hsz1 : w.heap.size + 1 < w1.heap.size := Nat.lt_of_lt_of_le hsz hb2.size
          have HB1 := Lib.hid hb2
          clear hb1 hb2 k7 k7' c0 c1 c2 c3 c4 c5 c6 c7 d0 d1 d2 d3 d4 d5 d6 d7
          go_wp2
          go_roundw
          case rel => exact ⟨q + 1, by omega, by go_num, HN, hbw.out.trans (HB1.out.mono hbw.out.size), m7, m7', hsz1⟩
          case measure => simp [intOf]; omega
        | false =>
          rw [hsm] at HII HS
          have HN3 : Hid (sames ks ls = false) := by
            cases hh : sames ks ls with
            | false => rfl
            | true =>
              have h5 := (sames_at HLL.out).1 hh q hlt
              rw [HTU.out.1, HTU.out.2, hsm] at h5; cases h5
          clear hsm HS
          go_wp2_with fail
          go_still_tail 10, (by kernel_rfl)
          change wpList _ _ _ _ _ wr.drew
          go_wp2_with fail
          have hq := (Below.refl wr.heap.size wr).drew
          have HQ := Lib.hid hq
          clear hq
          refine (HII.out _ _ _ (HX.out.kept HQ.out) (HZ.out.kept HQ.out)).mono ?_
          rintro e w1 ⟨rfl, hb1⟩
          have HB1 := Lib.hid (HQ.out.trans (hb1.mono HQ.out.size))
          clear hb1 k7 k7' c0 c1 c2 c3 c4 c5 c6 c7 d0 d1 d2 d3 d4 d5 d6 d7
          go_wp2
          go_ret
          exact ⟨by rw [HN2.out, HN3.out]; rfl, hbw.out.trans (HB1.out.mono hbw.out.size)⟩
      · have HN : Hid (sames ks ls = true) := by
          have h := hs.out
          have e : q = ks.length := by omega
          rw [e, List.take_length, HLL.out, List.take_length] at h; exact h
        go_wp2
        go_ret
        exact ⟨by rw [HN2.out, HN.out]; rfl, hbw.out⟩
end Go.Proofs.YtgodeffkboihlaaGreatDoor.Tsb
