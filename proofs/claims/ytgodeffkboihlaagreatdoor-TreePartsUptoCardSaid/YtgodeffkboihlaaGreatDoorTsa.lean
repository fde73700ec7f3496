/- tree.Same and the reference's Same, of any two trees. -/
import Derived.Test.YtgodeffkboihlaaGreatDoorTrh
import Derived.Lib.Strings
set_option linter.unusedVariables false
namespace Go.Proofs.YtgodeffkboihlaaGreatDoor.Tsa
open Go.RowKit Tra Trb Trf Trd Tcn Trh

set_option maxHeartbeats 4000000 in
set_option maxRecDepth 100000 in
theorem equal_any (ks ls : List Tr) (a a' : Option Addr) (c c' : Nat) (w : World) (S S' : Nat → Prop) (hl : ks.length = ls.length) (hlen : ks.length ≤ 1048576) (hK : Hid (KL w S ks a)) (hL : Hid (KL w S' ls a'))
    (ih : Hid (∀ j, j < ks.length → ∀ (v u : Value) (W : World), Lies W S (ks.getD j tr0) v → Lies W S' (ls.getD j tr0) u → Calls Tryz.prog 19 #[v, u] W fun e w' => e = .returned (.bool (same (ks.getD j tr0) (ls.getD j tr0))) ∧ Below W.heap.size W w')) :
    Calls Tryz.prog 34 #[.slice a ks.length c, .slice a' ls.length c', .func (.func 19) #[] #[]] w fun e w' => e = .returned (.bool (sames ks ls)) ∧ Below w.heap.size w w' := by
  rw [← hl]
  have HL := Lib.hid hl
  clear hl
  go_enter Tryz.func34, Tryz.ntmps34
  go_wp2
  go_loopw [7, 8, 9, 17] (fun _ _ _ i wr => ∃ k : Nat, k ≤ ks.length ∧ i = .int .i64 k ∧ Hid (sames (ks.take k) (ls.take k) = true) ∧ Hid (Below w.heap.size w wr)) (fun _ _ _ i _ => ks.length - (intOf i).toNat)
  case atStart => exact ⟨0, Nat.zero_le _, rfl, by simp [sames, Hid], Below.refl _ _⟩
  case round =>
    obtain ⟨k, hk, rfl, hs, hbw⟩ := hrel
    by_cases hlt : k < ks.length
    · obtain ⟨b, o, rfl, hA⟩ := (hK.out.kept hbw.out).get hlt
      obtain ⟨b', o', rfl, hA'⟩ := (hL.out.kept hbw.out).get (j := k) (by rw [← HL.out]; exact hlt)
      have hb := hA.2.1
      have hb' := hA'.2.1
      have IH := ih.out k hlt
      have hS := sames_take_succ HL.out hlt
      obtain ⟨t, ht⟩ : ∃ t, ks.getD k tr0 = t := ⟨_, rfl⟩
      obtain ⟨u, hu⟩ : ∃ t, ls.getD k tr0 = t := ⟨_, rfl⟩
      rw [ht, hu] at IH hS
      rw [ht] at hA
      rw [hu] at hA'
      rw [hs.out, Bool.true_and] at hS
      have HS := Lib.hid hS
      clear ht hu hS
      obtain ⟨x, cx, hx, c0, c1, c2, c3, c4, c5, c6, c7⟩ := hA.cells
      obtain ⟨y, cy, hy, d0, d1, d2, d3, d4, d5, d6, d7⟩ := hA'.cells
      have HX := Lib.hid hx
      have HY := Lib.hid hy
      have HI := Lib.hid IH
      clear hA hA' hx hy IH
      have h2 := Below.refl wr.heap.size wr
      have HB2 := Lib.hid ((h2.alloc (Nat.le_refl _) (.cells (t.d.row x t.kids.length cx).toArray 25)).alloc (by simp) (.cells (u.d.row y u.kids.length cy).toArray 25))
      clear h2
      cases hsm : same t u with
      | true =>
        rw [hsm] at HI HS
        have HN : Hid (sames (ks.take (k + 1)) (ls.take (k + 1)) = true) := HS.out
        clear hsm HS
        go_wp2_with fail
        refine (HI.out _ _ _ (HX.out.kept HB2.out) (HY.out.kept HB2.out)).mono ?_
        rintro e w1 ⟨rfl, hb1⟩
        have HB1 := Lib.hid (HB2.out.trans (hb1.mono HB2.out.size))
        clear hb1
        go_wp2
        go_roundw
        case rel => exact ⟨k + 1, by omega, by go_num, HN, hbw.out.trans (HB1.out.mono hbw.out.size)⟩
        case measure => simp [intOf]; omega
      | false =>
        rw [hsm] at HI HS
        have HN : Hid (sames ks ls = false) := by
          cases hh : sames ks ls with
          | false => rfl
          | true =>
            have h3 := HS.out
            have h4 : sames (ks.take (k + 1)) (ls.take (k + 1)) = true := (sames_at (by simp [HL.out])).2 fun j hj => by
              rw [List.length_take] at hj
              have hjk : j < k + 1 := by omega
              have e1 : (ks.take (k + 1)).getD j tr0 = ks.getD j tr0 := by simp [List.getD_eq_getElem?_getD, hjk]
              have e2 : (ls.take (k + 1)).getD j tr0 = ls.getD j tr0 := by simp [List.getD_eq_getElem?_getD, hjk]
              rw [e1, e2]; exact (sames_at HL.out).1 hh j (by omega)
            rw [h4] at h3; cases h3
        clear hsm HS
        go_wp2_with fail
        refine (HI.out _ _ _ (HX.out.kept HB2.out) (HY.out.kept HB2.out)).mono ?_
        rintro e w1 ⟨rfl, hb1⟩
        have HB1 := Lib.hid (HB2.out.trans (hb1.mono HB2.out.size))
        clear hb1
        go_wp2
        go_ret
        exact ⟨by rw [HN.out]; rfl, hbw.out.trans (HB1.out.mono hbw.out.size)⟩
    · have HN : Hid (sames ks ls = true) := by
        have h := hs.out
        have e : k = ks.length := by omega
        rw [e, List.take_length, HL.out, List.take_length] at h; exact h
      go_wp2
      go_ret
      exact ⟨by rw [HN.out]; rfl, hbw.out⟩
set_option maxHeartbeats 1000000 in
set_option maxRecDepth 100000 in
theorem equal_differ (ks ls : List Tr) (x y : Option Addr) (c c' : Nat) (f : Value) (w : World) (hl : ks.length ≠ ls.length) :
    Calls Tryz.prog 34 #[.slice x ks.length c, .slice y ls.length c', f] w fun e w' => e = .returned (.bool (sames ks ls)) ∧ Below w.heap.size w w' := by
  have HN : Hid (sames ks ls = false) := by
    cases hh : sames ks ls with
    | false => rfl
    | true => exact absurd (sames_length hh) hl
  have hd : ((ks.length : Int) == (ls.length : Int)) = false := beq_false_of_ne (by omega)
  have hd2 : ((ks.length : Int) != (ls.length : Int)) = true := by unfold bne; rw [hd]; rfl
  clear hl
  go_enter Tryz.func34, Tryz.ntmps34
  go_wp2
  go_ret
  exact ⟨by rw [HN.out]; rfl, Below.refl _ _⟩
theorem ba_ne {a b : ByteArray} (h : a ≠ b) : (a.toList == b.toList) = false := by
  apply beq_false_of_ne
  intro e
  rw [Lib.toList_data, Lib.toList_data] at e
  apply h
  cases a; cases b; simp only [ByteArray.mk.injEq]; exact Array.toList_inj.1 e
theorem same_no {a b : Nd} (h : ¬ (a.k = b.k ∧ a.text = b.text ∧ a.n = b.n ∧ (marks a.k = true ∨ a.ty = b.ty))) (k l : List Tr) : same (.mk a k) (.mk b l) = false := by
  have : sameNd a b = false := by
    cases hh : sameNd a b with
    | false => rfl
    | true =>
      unfold sameNd at hh
      simp only [Bool.and_eq_true, Bool.or_eq_true, decide_eq_true_eq] at hh
      obtain ⟨⟨⟨h1, h2⟩, h3⟩, h4⟩ := hh
      exact absurd ⟨h1, h2, h3, h4⟩ h
  simp only [same, this, Bool.false_and]
theorem same_yes {a b : Nd} (h : a.k = b.k ∧ a.text = b.text ∧ a.n = b.n ∧ (marks a.k = true ∨ a.ty = b.ty)) (k l : List Tr) : same (.mk a k) (.mk b l) = sames k l := by
  have : sameNd a b = true := by
    unfold sameNd
    simp only [Bool.and_eq_true, Bool.or_eq_true, decide_eq_true_eq]
    exact ⟨⟨⟨h.1, h.2.1⟩, h.2.2.1⟩, h.2.2.2⟩
  simp only [same, this, Bool.true_and]
/-- Two boxes, one behind the other. -/
theorem below_boxes (w : World) (d d' : Nd) (a a' : Option Addr) (n n' c c' : Nat) : Below w.heap.size w ((box w d a n c).alloc (.cells (d'.row a' n' c').toArray 25)) := (box_below w d a n c).alloc (by simp) _
set_option maxHeartbeats 4000000 in
set_option maxRecDepth 100000 in
theorem same_any : ∀ (t t' : Tr) (v u : Value) (S S' : Nat → Prop) (w : World), Lies w S t v → Lies w S' t' u → Fit t →
    Calls Tryz.prog 19 #[v, u] w fun e w' => e = .returned (.bool (same t t')) ∧ Below w.heap.size w w' := by
  refine tree_ind fun d ks ih => ?_
  rintro ⟨d', ls⟩ v u S S' w hv hu hF
  obtain ⟨a, c, rfl, hK⟩ := kids_lie hv
  obtain ⟨a', c', rfl, hL⟩ := kids_lie hu
  have HB := Lib.hid (below_boxes w d d' a a' ks.length ls.length c c')
  have hlen := fit_len hF
  have HK := Lib.hid hK
  have HL := Lib.hid hL
  have HI : Hid (∀ j, j < ks.length → ∀ (v u : Value) (W : World), Lies W S (ks.getD j tr0) v → Lies W S' (ls.getD j tr0) u → Calls Tryz.prog 19 #[v, u] W fun e w' => e = .returned (.bool (same (ks.getD j tr0) (ls.getD j tr0))) ∧ Below W.heap.size W w') :=
    fun j hj v u W h1 h2 => ih j hj _ v u S S' W h1 h2 (fit_kid hF hj)
  clear ih hv hu hF hK hL
  have last : ∀ (W : World), Hid (Below w.heap.size w W) → Calls Tryz.prog 34 #[.slice a ks.length c, .slice a' ls.length c', .func (.func 19) #[] #[]] W fun e w' => e = .returned (.bool (sames ks ls)) ∧ Below W.heap.size W w' := by
    intro W hW
    by_cases hl : ks.length = ls.length
    · exact equal_any ks ls a a' c c' W S S' hl hlen (HK.out.kept hW.out) (HL.out.kept hW.out) HI
    · exact equal_differ ks ls a a' c c' _ W hl
  have LAST := Lib.hid last
  clear last HI HK HL
  have HY := Lib.hid (@same_yes d d')
  have HN := Lib.hid (@same_no d d')
  obtain ⟨k, s, n, y, s4, s5, s6⟩ := d
  obtain ⟨k', s', n', y', s4', s5', s6'⟩ := d'
  have hm : ∀ W, Calls Tryz.prog 33 #[.int .i64 k] W fun e w' => e = .returned (.bool (marks k)) ∧ W = w' := marks_any k
  have HM := Lib.hid hm
  clear hm
  by_cases e0 : k = k'
  rotate_left
  · have HN2 := Lib.hid (HN.out (fun h => e0 h.1) ks ls)
    have E0 : (k == k') = false := beq_false_of_ne e0
    clear HN HY
    go_enter Tryz.func19, Tryz.ntmps19
    go_wp2
    go_ret
    exact ⟨by rw [HN2.out]; rfl, HB.out⟩
  subst e0
  by_cases e1 : s = s'
  rotate_left
  · have HN2 := Lib.hid (HN.out (fun h => e1 h.2.1) ks ls)
    have E1 := ba_ne e1
    clear HN HY
    go_enter Tryz.func19, Tryz.ntmps19
    go_wp2
    go_ret
    exact ⟨by rw [HN2.out]; rfl, HB.out⟩
  subst e1
  by_cases e2 : n = n'
  rotate_left
  · have HN2 := Lib.hid (HN.out (fun h => e2 h.2.2.1) ks ls)
    have E2 : (n == n') = false := beq_false_of_ne e2
    clear HN HY
    go_enter Tryz.func19, Tryz.ntmps19
    go_wp2
    go_ret
    exact ⟨by rw [HN2.out]; rfl, HB.out⟩
  subst e2
  cases e3 : marks k with
  | true =>
    have HN2 := Lib.hid (HY.out ⟨rfl, rfl, rfl, .inl e3⟩ ks ls)
    clear HN HY
    rw [e3] at HM
    clear e3
    go_enter Tryz.func19, Tryz.ntmps19
    go_wp2_with fail
    refine (HM.out _).mono ?_
    rintro e w1 ⟨rfl, rfl⟩
    go_wp2_with fail
    refine (LAST.out _ HB).mono ?_
    rintro e w1 ⟨rfl, hb1⟩
    have HB1 := Lib.hid (HB.out.trans (hb1.mono HB.out.size))
    clear hb1
    go_wp2
    go_ret
    exact ⟨by rw [HN2.out]; rfl, HB1.out⟩
  | false =>
    rw [e3] at HM
    by_cases e4 : y = y'
    rotate_left
    · have HN2 := Lib.hid (HN.out (fun h => by rcases h.2.2.2 with h | h; · rw [e3] at h; cases h
                                               · exact e4 h) ks ls)
      have E4 := ba_ne e4
      clear e3 HN HY
      go_enter Tryz.func19, Tryz.ntmps19
      go_wp2_with fail
      refine (HM.out _).mono ?_
      rintro e w1 ⟨rfl, rfl⟩
      go_wp2
      go_ret
      exact ⟨by rw [HN2.out]; rfl, HB.out⟩
    · subst e4
      have HN2 := Lib.hid (HY.out ⟨rfl, rfl, rfl, .inr rfl⟩ ks ls)
      clear e3 HN HY
      go_enter Tryz.func19, Tryz.ntmps19
      go_wp2_with fail
      refine (HM.out _).mono ?_
      rintro e w1 ⟨rfl, rfl⟩
      go_wp2_with fail
      refine (LAST.out _ HB).mono ?_
      rintro e w1 ⟨rfl, hb1⟩
      have HB1 := Lib.hid (HB.out.trans (hb1.mono HB.out.size))
      clear hb1
      go_wp2
      go_ret
      exact ⟨by rw [HN2.out]; rfl, HB1.out⟩
end Go.Proofs.YtgodeffkboihlaaGreatDoor.Tsa
