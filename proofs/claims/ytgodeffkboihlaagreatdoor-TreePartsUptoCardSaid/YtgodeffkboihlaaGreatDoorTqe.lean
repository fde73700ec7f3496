/- tree.switches, tree.selects. Printed by mkswitch.py. -/
import Derived.Test.YtgodeffkboihlaaGreatDoorTqd
set_option linter.unusedVariables false
namespace Go.Proofs.YtgodeffkboihlaaGreatDoor.Tqe
open Go.RowKit Go.Sort Tra Trb Trf Trd Tcn Trh Tha Nam Txa Tpr Tyq Txe Txg Txs Txi Txu Txv Txw Tqb Tpt Tqc Tqd

/-- Where a list goes on behind its first n. -/
def dropA (a : Option Addr) (n c : Nat) : Option Addr := if c = n then a else a.map (·.add (n * 8))
theorem kl_drop {w : World} {S : Nat → Prop} {ks : List Tr} {a : Option Addr} {c : Nat} (h : KL w S ks a) (hc : ks.length ≤ c) (n : Nat) : KL w S (ks.drop n) (dropA a n c) := by
  unfold dropA
  by_cases e : c = n
  · rw [if_pos e]; exact .inl (by rw [List.drop_eq_nil_iff]; omega)
  · rw [if_neg e]
    rcases h with h | ⟨b, o, rfl, h⟩
    · subst h; exact .inl (by simp)
    · have := KL.drop (ks := ks) (w := w) (S := S) (b := b) (o := o) (.inr ⟨b, o, rfl, h⟩) n
      have e : (⟨b, o, none⟩ : Addr).add (n * 8) = ⟨b, o + n * 8, none⟩ := by unfold Addr.add; split <;> simp_all
      rw [Option.map_some, e]; exact this
theorem enters_case : Enters Tryz.prog 105 := enters_of Tryz.func105 (by kernel_rfl) rfl
theorem enters_case2 : Enters Tryz.prog 107 := enters_of Tryz.func107 (by kernel_rfl) rfl
theorem enters_arm : Enters Tryz.prog 108 := enters_of Tryz.func108 (by kernel_rfl) rfl
theorem enters_arm2 : Enters Tryz.prog 109 := enters_of Tryz.func109 (by kernel_rfl) rfl
set_option maxHeartbeats 8000000 in
set_option maxRecDepth 100000 in
theorem caseT_pays (E : Tr → Bool) (t : Tr) (hF : Fit t) (ih : ∀ j, j < t.kids.length → Pays 62 E (t.kids.getD j tr0)) : Pays 107 (caseT E) t := by
  obtain ⟨d, ks⟩ := t
  simp only [Tr.kids] at ih
  intro S b o w hA
  obtain ⟨a, c, hN⟩ := Nod.start hA
  have hlen := fit_len hF
  by_cases h2 : 2 ≤ ks.length
  · obtain ⟨m, hm⟩ : ∃ m, ks.length = m + 1 := ⟨ks.length - 1, by omega⟩
    have hcap := hN.cap
    obtain ⟨kb, ko, rfl⟩ := kl_some hN.kl (by omega)
    have hl1 : ks.length - 1 = m := by omega
    obtain ⟨res, hres⟩ : ∃ x, (ks.take m).all E = x := ⟨_, rfl⟩
    rw [show caseT E (.mk d ks) = res by unfold caseT; simp only [Tr.kids]; rw [hl1, hres]; simp [h2]]
    have H := reg (w := w) (f := 25) (args := #[.slice (some ⟨kb, ko, none⟩) m c, .func (.func 62) #[] #[]]) (v := .bool res) fun W hb => by
      have := all_take enters_expr (p := E) (some ⟨kb, ko, none⟩) c m (by omega) hlen (fun j hj => ih j (by omega)) W (hN.kept hb).kl
      rw [hres] at this; exact this
    obtain ⟨k, tx, n, ty, s4, s5, s6⟩ := d
    obtain ⟨c0, c1, c2, c3, c4, c5, c6, c7⟩ := hN.cells
    obtain ⟨L, hL⟩ : ∃ L, ks.length = L := ⟨_, rfl⟩
    rw [hL] at c7 hm hlen h2 hcap
    have g7 := cell_regrown c7
    have f0 : decide (2 ≤ (L : Int)) = true := by simp; omega
    have f1 : decide (2 ≤ L) = true := by simp; omega
    have hw1 : IntKind.i64.wrap (m : Int) = (m : Int) := IntWalk.i64_in _ (by omega)
    have hsub : (L : Int) - 1 = (m : Int) := by omega
    have hmc : m ≤ c := by omega
    have hm0 : (0 : Int) ≤ (m : Int) := by omega
    have hmci : (m : Int) ≤ (c : Int) := by omega
    have HM := Lib.hid hm
    clear hA hF hN ih hm hL hl1 hres h2
    go_enter Tryz.func107, Tryz.ntmps107
    go_wp2_with fail
    refine wp_region_quiet_below (by kernel_rfl) (by kernel_rfl) ?_
    repeat (go_big_quiet_step (first | exact H.out _ _ | fail))
    refine wpQuiet_nil ?_
    intro w4 hw4
    have hb4 := Drw.cls_below (w := w) hw4
    clear hw4
    cases res
    all_goals
      go_wp2
      go_ret
      exact ⟨rfl, hb4⟩
  · rw [show caseT E (.mk d ks) = false by unfold caseT; simp only [Tr.kids]; simp [show ¬ 2 ≤ ks.length from h2]]
    obtain ⟨k, tx, n, ty, s4, s5, s6⟩ := d
    obtain ⟨c0, c1, c2, c3, c4, c5, c6, c7⟩ := hN.cells
    obtain ⟨L, hL⟩ : ∃ L, ks.length = L := ⟨_, rfl⟩
    rw [hL] at c7 h2 hlen
    have g7 := cell_regrown c7
    have f0 : decide (2 ≤ (L : Int)) = false := by simp; omega
    have f1 : decide (2 ≤ L) = false := by simp; omega
    clear hA hF hN ih hL h2
    go_enter Tryz.func107, Tryz.ntmps107
    go_wp2_with fail
    refine wp_region_quiet_below (by kernel_rfl) (by kernel_rfl) ?_
    repeat (go_big_quiet_step (fail))
    refine wpQuiet_nil ?_
    intro w4 hw4
    have hb4 := Drw.cls_below (w := w) hw4
    clear hw4
    go_wp2
    go_ret
    exact ⟨rfl, hb4⟩
theorem simple_kids {E : Tr → Bool} {s : Tr} (h : simpleT E s = true) (h9 : s.d.k ≠ 9) (h8 : s.d.k ≠ 8) : 0 < s.kids.length := by
  unfold simpleT simpleB at h
  split at h
  · unfold letsB letB at h
    split at h
    · simp at h; omega
    · split at h
      · simp at h; omega
      · cases h
  · split at h
    · unfold letsB letB at h
      split at h
      · simp at h; omega
      · split at h
        · simp at h; omega
        · cases h
    · split at h
      · unfold doB at h; simp at h; omega
      · cases h
set_option maxHeartbeats 8000000 in
set_option maxRecDepth 100000 in
theorem armT_pays (E : Tr → Bool) (t : Tr) (hF : Fit t) (ihs : ∀ j, j < t.kids.length → Pays 66 (simpleT E) (t.kids.getD j tr0)) : Pays 109 (armT E) t := by
  obtain ⟨d, ks⟩ := t
  simp only [Tr.kids] at ihs
  intro S b o w hA
  obtain ⟨a, c, hN⟩ := Nod.start hA
  have hlen := fit_len hF
  by_cases h2 : ks.length = 2
  rotate_left
  · rw [show armT E (.mk d ks) = false by unfold armT; simp [Tr.kids, h2]]
    obtain ⟨k, tx, n, ty, s4, s5, s6⟩ := d
    obtain ⟨c0, c1, c2, c3, c4, c5, c6, c7⟩ := hN.cells
    obtain ⟨L, hL⟩ : ∃ L, ks.length = L := ⟨_, rfl⟩
    rw [hL] at c7 h2 hlen
    have f0 : ((L : Int) != 2) = true := by simp; omega
    have f1 : ((L : Int) == 2) = false := by simp; omega
    clear hA hF hN ihs hL h2
    go_enter Tryz.func109, Tryz.ntmps109
    go_wp2
    go_ret
    exact ⟨rfl, Below.refl _ _⟩
  have hk0 : 0 < ks.length := by omega
  obtain ⟨kb, ko, rfl⟩ := kl_some hN.kl hk0
  obtain ⟨u0, hu0⟩ : ∃ u, kn 0 ks = u := ⟨_, rfl⟩
  have hat : ∀ W, Below w.heap.size w W → At W (fun _ => True) u0 kb ko := fun W hb => by
    have := kl_at (hN.kept hb).kl hk0
    rw [show ks.getD 0 tr0 = u0 from hu0] at this
    simpa using this
  have ih0 := ihs 0 hk0
  rw [show ks.getD 0 tr0 = u0 from hu0] at ih0
  unfold Pays at ih0
  have hFu : Fit u0 := by have := fit_kid hF hk0; rwa [show ks.getD 0 tr0 = u0 from hu0] at this
  have hR : armT E (.mk d ks) = (simpleT E u0 && armB u0) := by unfold armT; simp only [Tr.kids]; rw [hu0]; simp [h2]
  rw [hR]
  obtain ⟨k, tx, n, ty, s4, s5, s6⟩ := d
  obtain ⟨c0, c1, c2, c3, c4, c5, c6, c7⟩ := hN.cells
  rw [h2] at c7
  have HL := Lib.hid h2
  have HN := Lib.hid hN
  have HAT := Lib.hid hat
  cases hs : simpleT E u0
  · rw [hs] at ih0
    have HS := Lib.hid ih0
    rw [Bool.false_and]
    clear hA hF hN ihs h2 hu0 hat ih0 hs hFu hR hk0
    go_enter Tryz.func109, Tryz.ntmps109
    go_wp2_with fail
    refine (HS.out _ _ _ _ (HAT.out _ (Below.refl _ _))).mono ?_
    rintro e w1 ⟨rfl, hb1⟩
    have HB1 := Lib.hid hb1
    have HX := Lib.hid (HN.out.kept hb1)
    clear c0 c1 c2 c3 c4 c5 c6 c7 hb1
    obtain ⟨c0, c1, c2, c3, c4, c5, c6, c7⟩ := HX.out.cells
    rw [HL.out] at c7
    go_wp2
    go_ret
    exact ⟨rfl, HB1.out⟩
  · rw [hs] at ih0
    have HS := Lib.hid ih0
    rw [Bool.true_and]
    have hkids := fun h9 h8 => simple_kids (s := u0) hs h9 h8
    obtain ⟨d0, ks0⟩ := u0
    obtain ⟨k0, tx0, n0, ty0, s40, s50, s60⟩ := d0
    simp only [Tr.d, Tr.kids] at hkids
    have hlen0 := fit_len hFu
    clear hA hF hN ihs h2 hu0 hat ih0 hs hFu hR hk0
    by_cases h9 : k0 = 9
    · subst h9
      rw [show armB (.mk ⟨9, tx0, n0, ty0, s40, s50, s60⟩ ks0) = true from rfl]
      clear hkids
      go_enter Tryz.func109, Tryz.ntmps109
      go_wp2_with fail
      refine (HS.out _ _ _ _ (HAT.out _ (Below.refl _ _))).mono ?_
      rintro e w1 ⟨rfl, hb1⟩
      have HB1 := Lib.hid hb1
      have HX := Lib.hid (HN.out.kept hb1)
      clear c0 c1 c2 c3 c4 c5 c6 c7 hb1
      obtain ⟨c0, c1, c2, c3, c4, c5, c6, c7⟩ := HX.out.cells
      rw [HL.out] at c7
      have HU := Lib.hid (HAT.out _ HB1.out)
      obtain ⟨xa, xc, hl0, kc0, kc1, kc2, kc3, kc4, kc5, kc6, kc7⟩ := HU.out.cells
      simp only [Tr.d, Tr.kids] at kc0 kc7
      have gk0 := cell_regrown kc0
      have gk7 := cell_regrown kc7
      have hkb : kb < w1.heap.size := HU.out.2.1
      go_wp2_with fail
      refine wp_region_quiet_below (by kernel_rfl) (by kernel_rfl) ?_
      repeat (go_big_quiet_step (fail))
      refine wpQuiet_nil ?_
      intro w4 hw4
      have hb4 := Drw.cls_below (w := w1) hw4
      have HB4 := Lib.hid (HB1.out.trans (hb4.mono HB1.out.size))
      clear hw4 hb4
      go_wp2
      go_ret
      exact ⟨rfl, HB4.out⟩
    have e9 : (k0 == 9) = false := beq_false_of_ne h9
    by_cases h8 : k0 = 8
    · subst h8
      rw [show armB (.mk ⟨8, tx0, n0, ty0, s40, s50, s60⟩ ks0) = false from rfl]
      clear hkids h9
      go_enter Tryz.func109, Tryz.ntmps109
      go_wp2_with fail
      refine (HS.out _ _ _ _ (HAT.out _ (Below.refl _ _))).mono ?_
      rintro e w1 ⟨rfl, hb1⟩
      have HB1 := Lib.hid hb1
      have HX := Lib.hid (HN.out.kept hb1)
      clear c0 c1 c2 c3 c4 c5 c6 c7 hb1
      obtain ⟨c0, c1, c2, c3, c4, c5, c6, c7⟩ := HX.out.cells
      rw [HL.out] at c7
      have HU := Lib.hid (HAT.out _ HB1.out)
      obtain ⟨xa, xc, hl0, kc0, kc1, kc2, kc3, kc4, kc5, kc6, kc7⟩ := HU.out.cells
      simp only [Tr.d, Tr.kids] at kc0 kc7
      have gk0 := cell_regrown kc0
      have gk7 := cell_regrown kc7
      have hkb : kb < w1.heap.size := HU.out.2.1
      go_wp2_with fail
      refine wp_region_quiet_below (by kernel_rfl) (by kernel_rfl) ?_
      repeat (go_big_quiet_step (fail))
      refine wpQuiet_nil ?_
      intro w4 hw4
      have hb4 := Drw.cls_below (w := w1) hw4
      have HB4 := Lib.hid (HB1.out.trans (hb4.mono HB1.out.size))
      clear hw4 hb4
      go_wp2
      go_ret
      exact ⟨rfl, HB4.out⟩
    have e8 : (k0 == 8) = false := beq_false_of_ne h8
    have e8' : (k0 != 8) = true := by unfold bne; rw [e8]; rfl
    have hpos := hkids h9 h8
    obtain ⟨m, hm⟩ : ∃ m, ks0.length = m + 1 := ⟨ks0.length - 1, by omega⟩
    obtain ⟨res, hres⟩ : ∃ x, recvB (kn m ks0).d = x := ⟨_, rfl⟩
    rw [show armB (.mk ⟨k0, tx0, n0, ty0, s40, s50, s60⟩ ks0) = res by show (k0 == 9 || (k0 != 8 && recvB (kn (ks0.length - 1) ks0).d)) = res; rw [e9, e8', show ks0.length - 1 = m by omega, hres]; rfl]
    have hw1 : IntKind.i64.wrap (m : Int) = (m : Int) := IntWalk.i64_in _ (by omega)
    have hm0 : (0 : Int) ≤ (m : Int) := by omega
    have HM := Lib.hid hm
    have HRES := Lib.hid hres
    clear hkids h9 h8 hpos hm hres
    go_enter Tryz.func109, Tryz.ntmps109
    go_wp2_with fail
    refine (HS.out _ _ _ _ (HAT.out _ (Below.refl _ _))).mono ?_
    rintro e w1 ⟨rfl, hb1⟩
    have HB1 := Lib.hid hb1
    have HX := Lib.hid (HN.out.kept hb1)
    clear c0 c1 c2 c3 c4 c5 c6 c7 hb1
    obtain ⟨c0, c1, c2, c3, c4, c5, c6, c7⟩ := HX.out.cells
    rw [HL.out] at c7
    have HU := Lib.hid (HAT.out _ HB1.out)
    obtain ⟨xa, xc, hl0, kc0, kc1, kc2, kc3, kc4, kc5, kc6, kc7⟩ := HU.out.cells
    simp only [Tr.d, Tr.kids] at kc0 kc7
    have gk0 := cell_regrown kc0
    have gk7 := cell_regrown kc7
    have hkb : kb < w1.heap.size := HU.out.2.1
    have hkl : KL w1 (fun _ => True) ks0 xa := by
      obtain ⟨a', c', e, hk⟩ := kids_lie hl0
      have e1 : xa = a' := by
        simp only [Value.agg.injEq] at e
        have := congrArg Array.toList e
        simp only [List.cons.injEq, Value.slice.injEq] at this
        exact this.2.2.2.2.2.2.2.1.1
      subst e1; exact hk
    obtain ⟨kb2, ko2, rfl⟩ := kl_some hkl (by rw [HM.out]; omega)
    have hml : m < ks0.length := by rw [HM.out]; omega
    have H := reg (w := w1) (f := 110) (args := #[.pointer (some ⟨kb2, ko2 + m * 8, none⟩)]) (v := .bool res) fun W hb => by
      obtain ⟨ya, yc, -, y0, y1, -⟩ := (kl_at (hkl.kept hb) hml).cells
      have := same_below (receive_any (kn m ks0).d kb2 (ko2 + m * 8) W y0 y1)
      rw [HRES.out] at this; exact this
    obtain ⟨L, hL⟩ : ∃ L, ks0.length = L := ⟨_, rfl⟩
    rw [hL] at kc7 gk7 hml hlen0
    have hsub : (L : Int) - 1 = (m : Int) := by have := HM.out; omega
    have hlt2 : (m : Int) < (L : Int) := by omega
    clear hL hkl hl0
    cases res
    all_goals
      go_wp2_with fail
      refine wp_region_quiet_below (by kernel_rfl) (by kernel_rfl) ?_
      repeat (go_big_quiet_step (first | exact H.out _ _ | fail))
      refine wpQuiet_nil ?_
      intro w4 hw4
      have hb4 := Drw.cls_below (w := w1) hw4
      have HB4 := Lib.hid (HB1.out.trans (hb4.mono HB1.out.size))
      clear hw4 hb4
      go_wp2
      go_ret
      exact ⟨rfl, HB4.out⟩
set_option maxHeartbeats 8000000 in
set_option maxRecDepth 100000 in
theorem selects_any (E P : Tr → Bool) (d : Nd) (ks : List Tr) (hF : Fit (.mk d ks)) (ihb : ∀ j, j < ks.length → ∀ i, i < (ks.getD j tr0).kids.length → Pays 38 (blockT P) ((ks.getD j tr0).kids.getD i tr0))
    (ihs : ∀ j, j < ks.length → ∀ i, i < (ks.getD j tr0).kids.length → Pays 66 (simpleT E) ((ks.getD j tr0).kids.getD i tr0)) (S : Nat → Prop) (b o : Nat) (w : World) (hA : At w S (.mk d ks) b o) :
    Calls Tryz.prog 65 #[.pointer (some ⟨b, o, none⟩)] w fun e w' => e = .returned (.bool (selectsB E P d ks)) ∧ Below w.heap.size w w' := by
  obtain ⟨a, c, hN⟩ := Nod.start hA
  have hlen := fit_len hF
  have HALL := fun W (h : KL W (fun _ => True) ks a) => all_of enters_arm (p := kindT 16) a c hlen (fun j hj => arm_pays _) W h
  have HCL := fun W (h : KL W (fun _ => True) ks a) => clauses_any P (armT E) ks a c hlen (fun j hj => fit_kid hF hj) ihb enters_arm2 (fun j hj => armT_pays E _ (fit_kid hF hj) (ihs j hj)) _ W h
  have H0 := fun W q0 q1 q2 q3 => has_0 d b o W q0 q1 q2 q3
  unfold selectsB
  cases p0 : hasB false false false d
  · rw [p0] at H0
    have HH := Lib.hid H0
    obtain ⟨k, tx, n, ty, s4, s5, s6⟩ := d
    obtain ⟨c0, c1, c2, c3, c4, c5, c6, c7⟩ := hN.cells
    rw [Bool.false_and]
    clear hA hF hN ihs ihb H0 p0 HALL HCL
    go_enter Tryz.func65, Tryz.ntmps65
    go_wp2_with fail
    refine (HH.out _ c0 c1 c2 c3).mono ?_
    rintro e w1 ⟨rfl, rfl⟩
    go_wp2
    go_ret
    exact ⟨rfl, Below.refl _ _⟩
  rw [p0] at H0
  have HH := Lib.hid H0
  have HX := Lib.hid hN
  obtain ⟨r1, h1⟩ : ∃ r, ks.all (kindT 16) = r := ⟨_, rfl⟩
  obtain ⟨r2, h2⟩ : ∃ r, clausesB P (armT E) ks = r := ⟨_, rfl⟩
  rw [h1, h2, Bool.true_and]
  rw [h1] at HALL
  rw [h2] at HCL
  have HA1 := Lib.hid HALL
  have HC1 := Lib.hid HCL
  obtain ⟨k, tx, n, ty, s4, s5, s6⟩ := d
  obtain ⟨c0, c1, c2, c3, c4, c5, c6, c7⟩ := hN.cells
  clear hA hF hN ihs ihb H0 p0 HALL HCL h1 h2
  cases r1
  · go_enter Tryz.func65, Tryz.ntmps65
    go_wp2_with fail
    refine (HH.out _ c0 c1 c2 c3).mono ?_
    rintro e w1 ⟨rfl, rfl⟩
    go_wp2_with fail
    refine (HA1.out _ HX.out.kl).mono ?_
    rintro e w1 ⟨rfl, hb⟩
    have HX1 := Lib.hid (HX.out.kept hb)
    clear hb c0 c1 c2 c3 c4 c5 c6 c7
    go_wp2
    go_ret
    exact ⟨rfl, HX1.out.below⟩
  · cases r2
    all_goals
      go_enter Tryz.func65, Tryz.ntmps65
      go_wp2_with fail
      refine (HH.out _ c0 c1 c2 c3).mono ?_
      rintro e w1 ⟨rfl, rfl⟩
      go_wp2_with fail
      refine (HA1.out _ HX.out.kl).mono ?_
      rintro e w1 ⟨rfl, hb⟩
      have HX1 := Lib.hid (HX.out.kept hb)
      clear hb c0 c1 c2 c3 c4 c5 c6 c7
      obtain ⟨c0, c1, c2, c3, c4, c5, c6, c7⟩ := HX1.out.cells
      go_wp2_with fail
      refine (HC1.out _ HX1.out.kl).mono ?_
      rintro e w2 ⟨rfl, hb⟩
      have HX2 := Lib.hid (HX1.out.kept hb)
      clear hb
      go_wp2
      go_ret
      exact ⟨rfl, HX2.out.below⟩
theorem slice_low (a : Option Addr) (L c n : Nat) (w : World) (hn : n ≤ L) : (Instr.slice 23 (.slice a L c) (some (.int .i64 n)) none none).run Tryz.prog w = .ok (.slice (dropA a n c) (L - n) (c - n)) w := by
  have hz : (Tryz.prog.info? 25).map (fun i => i.size) = some 8 := by kernel_rfl
  obtain ⟨j, hj, hjs⟩ := Option.map_eq_some_iff.1 hz
  simp [Instr.slice, run_underlying Tryz.underlying23, Instr.sliceBounds, Instr.sliceBound, asIntOf, sizeOf, typeInfo, hj, hjs, dropA]
  intro h; omega
set_option maxHeartbeats 8000000 in
set_option maxRecDepth 100000 in
theorem switch_0 (E P : Tr → Bool) (d : Nd) (ks : List Tr) (hn : d.n = 0) (hF : Fit (.mk d ks)) (ih : ∀ j, j < ks.length → Pays 62 E (ks.getD j tr0)) (ihb : ∀ j, j < ks.length → ∀ i, i < (ks.getD j tr0).kids.length → Pays 38 (blockT P) ((ks.getD j tr0).kids.getD i tr0))
    (ihe : ∀ j, j < ks.length → ∀ i, i < (ks.getD j tr0).kids.length → Pays 62 E ((ks.getD j tr0).kids.getD i tr0)) (S : Nat → Prop) (b o : Nat) (w : World) (hA : At w S (.mk d ks) b o) :
    Calls Tryz.prog 64 #[.pointer (some ⟨b, o, none⟩)] w fun e w' => e = .returned (.bool (switchB E P d ks 0)) ∧ Below w.heap.size w w' := by
  obtain ⟨a, c, hN⟩ := Nod.start hA
  have hlen := fit_len hF
  have hcap := hN.cap
  unfold switchB
  rw [show decide (0 ≤ ks.length) = true by simp, Bool.true_and]
  obtain ⟨p0, hp0⟩ : ∃ x, hasB false false true d = x := ⟨_, rfl⟩
  obtain ⟨p1, hp1⟩ : ∃ x, (ks.take 0).all E = x := ⟨_, rfl⟩
  obtain ⟨p2, hp2⟩ : ∃ x, (ks.drop 0).all (kindT 14) = x := ⟨_, rfl⟩
  obtain ⟨p3, hp3⟩ : ∃ x, clausesB P (caseT E) (ks.drop 0) = x := ⟨_, rfl⟩
  have H := reg (w := w) (f := 24) (args := #[.pointer (some ⟨b, o, none⟩), .int .i64 4]) (v := .bool p0) fun W hb => by
    obtain ⟨x0, x1, x2, x3, _⟩ := (hN.kept hb).cells
    have := same_below (has_4 d b o W x0 x1 x2 x3)
    rw [hp0] at this; exact this
  have H2 := reg (w := w) (f := 25) (args := #[.slice a 0 c, .func (.func 62) #[] #[]]) (v := .bool p1) fun W hb => by
    have := all_take enters_expr (p := E) a c 0 (by omega) hlen (fun j hj => ih j (by omega)) W (hN.kept hb).kl
    rw [hp1] at this; exact this
  have hdl : (ks.drop 0).length = ks.length - 0 := by simp
  have hdg : ∀ j, j < (ks.drop 0).length → (ks.drop 0).getD j tr0 = ks.getD (0 + j) tr0 ∧ 0 + j < ks.length := fun j hj => by
    rw [hdl] at hj
    exact ⟨by rw [List.getD_eq_getElem?_getD, List.getElem?_drop, List.getD_eq_getElem?_getD], by omega⟩
  have HALL := fun W (h : KL W (fun _ => True) (ks.drop 0) (dropA a 0 c)) => all_of enters_case (p := kindT 14) (dropA a 0 c) (c - 0) (by omega) (fun j hj => case_pays _) W h
  have HCL := fun W (h : KL W (fun _ => True) (ks.drop 0) (dropA a 0 c)) => clauses_any P (caseT E) (ks.drop 0) (dropA a 0 c) (c - 0) (by omega) (fun j hj => by rw [(hdg j hj).1]; exact fit_kid hF (hdg j hj).2) (fun j hj => by rw [(hdg j hj).1]; exact ihb _ (hdg j hj).2) enters_case2 (fun j hj => by
    have hq := hdg j hj
    rw [hq.1]; exact caseT_pays E _ (fit_kid hF hq.2) (ihe _ hq.2)) _ W h
  have HKD := Lib.hid (fun W (h : KL W (fun _ => True) ks a) => kl_drop h hcap 0)
  rw [hp2, hdl] at HALL
  rw [hp3, hdl] at HCL
  rw [hp0, hp1, hp2, hp3]
  have HA1 := Lib.hid HALL
  have HC1 := Lib.hid HCL
  have HN := Lib.hid hN
  obtain ⟨k, tx, nn, ty, s4, s5, s6⟩ := d
  simp only at hn
  subst hn
  obtain ⟨c0, c1, c2, c3, c4, c5, c6, c7⟩ := hN.cells
  have HRUN : ∀ W, (Instr.slice 23 (.slice a ks.length c) (some (.int .i64 0)) none none).run Tryz.prog W = .ok (.slice (dropA a 0 c) (ks.length - 0) (c - 0)) W := fun W => slice_low a ks.length c 0 W (by omega)
  obtain ⟨L, hL⟩ : ∃ L, ks.length = L := ⟨_, rfl⟩
  have HL := Lib.hid hL
  rw [hL] at c7 hlen hcap HA1 HC1 HRUN
  skip
  have g2 := cell_regrown c2
  have g7 := cell_regrown c7
  have f0 : decide ((L : Int) < 0) = false := by simp
  have f1 : decide (L < 0) = false := by simp
  have hmc : 0 ≤ c := by omega
  have hmci : (0 : Int) ≤ (c : Int) := by omega
  have hlt := hN.lt
  clear hA hF hN ih ihb ihe hL hp0 hp1 hp2 hp3 hdl hdg HALL HCL
  cases p0
  · rw [Bool.false_and]
    go_enter Tryz.func64, Tryz.ntmps64
    go_wp2_with fail
    refine wp_region_quiet_below (by kernel_rfl) (by kernel_rfl) ?_
    repeat (go_big_quiet_step (first | exact H.out _ _ | exact H2.out _ _ | fail))
    refine wpQuiet_nil ?_
    intro w4 hw4
    have hb4 := Drw.cls_below (w := w) hw4
    clear hw4
    go_wp2
    go_ret
    exact ⟨rfl, hb4⟩
  cases p1
  · rw [Bool.true_and, Bool.false_and]
    go_enter Tryz.func64, Tryz.ntmps64
    go_wp2_with fail
    refine wp_region_quiet_below (by kernel_rfl) (by kernel_rfl) ?_
    repeat (go_big_quiet_step (first | exact H.out _ _ | exact H2.out _ _ | fail))
    refine wpQuiet_nil ?_
    intro w4 hw4
    have hb4 := Drw.cls_below (w := w) hw4
    clear hw4
    go_wp2
    go_ret
    exact ⟨rfl, hb4⟩
  rw [Bool.true_and, Bool.true_and]
  cases p2
  · rw [Bool.false_and]
    go_enter Tryz.func64, Tryz.ntmps64
    go_wp2_with fail
    refine wp_region_quiet_below (by kernel_rfl) (by kernel_rfl) ?_
    repeat (go_big_quiet_step (first | exact H.out _ _ | exact H2.out _ _ | fail))
    refine wpQuiet_nil ?_
    intro w4 hw4
    have hb4 := Drw.cls_below (w := w) hw4
    clear hw4
    have HX4 := Lib.hid (HN.out.kept hb4)
    clear c0 c1 c2 c3 c4 c5 c6 c7 g2 g7
    obtain ⟨c0, c1, c2, c3, c4, c5, c6, c7⟩ := HX4.out.cells
    rw [HL.out] at c7
    have g2 := cell_regrown c2
    have g7 := cell_regrown c7
    go_wp2_with fail
    refine wp_region_quiet_below (by kernel_rfl) (by kernel_rfl) ?_
    repeat (go_big_quiet_step (fail))
    refine wpQuiet_nil ?_
    intro w5 hw5
    have hb5 := Drw.cls_below (w := w4) hw5
    have HX5 := Lib.hid (HX4.out.kept hb5)
    clear hw5 hb5 hb4 c0 c1 c2 c3 c4 c5 c6 c7 g2 g7
    go_wp2_with fail
    refine (HA1.out _ (HKD.out _ HX5.out.kl)).mono ?_
    rintro e w6 ⟨rfl, hb6⟩
    have HX6 := Lib.hid (HX5.out.kept hb6)
    clear hb6
    go_wp2
    go_ret
    exact ⟨rfl, HX6.out.below⟩
  rw [Bool.true_and]
  cases p3
  all_goals
    go_enter Tryz.func64, Tryz.ntmps64
    go_wp2_with fail
    refine wp_region_quiet_below (by kernel_rfl) (by kernel_rfl) ?_
    repeat (go_big_quiet_step (first | exact H.out _ _ | exact H2.out _ _ | fail))
    refine wpQuiet_nil ?_
    intro w4 hw4
    have hb4 := Drw.cls_below (w := w) hw4
    clear hw4
    have HX4 := Lib.hid (HN.out.kept hb4)
    clear c0 c1 c2 c3 c4 c5 c6 c7 g2 g7
    obtain ⟨c0, c1, c2, c3, c4, c5, c6, c7⟩ := HX4.out.cells
    rw [HL.out] at c7
    have g2 := cell_regrown c2
    have g7 := cell_regrown c7
    go_wp2_with fail
    refine wp_region_quiet_below (by kernel_rfl) (by kernel_rfl) ?_
    repeat (go_big_quiet_step (fail))
    refine wpQuiet_nil ?_
    intro w5 hw5
    have hb5 := Drw.cls_below (w := w4) hw5
    have HX5 := Lib.hid (HX4.out.kept hb5)
    clear hw5 hb5 hb4 c0 c1 c2 c3 c4 c5 c6 c7 g2 g7
    go_wp2_with fail
    refine (HA1.out _ (HKD.out _ HX5.out.kl)).mono ?_
    rintro e w6 ⟨rfl, hb6⟩
    have HX6 := Lib.hid (HX5.out.kept hb6)
    clear hb6
    go_wp2_with fail
    refine (HC1.out _ (HKD.out _ HX6.out.kl)).mono ?_
    rintro e w7 ⟨rfl, hb7⟩
    have HX7 := Lib.hid (HX6.out.kept hb7)
    clear hb7
    go_wp2
    go_ret
    exact ⟨rfl, HX7.out.below⟩
set_option maxHeartbeats 8000000 in
set_option maxRecDepth 100000 in
theorem switch_1 (E P : Tr → Bool) (d : Nd) (ks : List Tr) (hn : d.n = 1) (hF : Fit (.mk d ks)) (ih : ∀ j, j < ks.length → Pays 62 E (ks.getD j tr0)) (ihb : ∀ j, j < ks.length → ∀ i, i < (ks.getD j tr0).kids.length → Pays 38 (blockT P) ((ks.getD j tr0).kids.getD i tr0))
    (ihe : ∀ j, j < ks.length → ∀ i, i < (ks.getD j tr0).kids.length → Pays 62 E ((ks.getD j tr0).kids.getD i tr0)) (S : Nat → Prop) (b o : Nat) (w : World) (hA : At w S (.mk d ks) b o) :
    Calls Tryz.prog 64 #[.pointer (some ⟨b, o, none⟩)] w fun e w' => e = .returned (.bool (switchB E P d ks 1)) ∧ Below w.heap.size w w' := by
  obtain ⟨a, c, hN⟩ := Nod.start hA
  have hlen := fit_len hF
  have hcap := hN.cap
  unfold switchB
  by_cases hl1 : 1 ≤ ks.length
  rotate_left
  · rw [show decide (1 ≤ ks.length) = false from decide_eq_false hl1, Bool.false_and]
    obtain ⟨k, tx, nn, ty, s4, s5, s6⟩ := d
    simp only at hn
    subst hn
    obtain ⟨c0, c1, c2, c3, c4, c5, c6, c7⟩ := hN.cells
    obtain ⟨L, hL⟩ : ∃ L, ks.length = L := ⟨_, rfl⟩
    rw [hL] at c7 hl1 hlen
    obtain rfl : L = 0 := by omega
    have g2 := cell_regrown c2
    have g7 := cell_regrown c7
    clear hA hF hN ih ihb ihe hL hl1 hcap
    go_enter Tryz.func64, Tryz.ntmps64
    go_wp2_with fail
    refine wp_region_quiet_below (by kernel_rfl) (by kernel_rfl) ?_
    repeat (go_big_quiet_step (fail))
    refine wpQuiet_nil ?_
    intro w4 hw4
    have hb4 := Drw.cls_below (w := w) hw4
    clear hw4
    go_wp2
    go_ret
    exact ⟨rfl, hb4⟩
  rw [show decide (1 ≤ ks.length) = true by simp; omega, Bool.true_and]
  obtain ⟨kb, ko, rfl⟩ := kl_some hN.kl (by omega)
  obtain ⟨p0, hp0⟩ : ∃ x, hasB false false true d = x := ⟨_, rfl⟩
  obtain ⟨p1, hp1⟩ : ∃ x, (ks.take 1).all E = x := ⟨_, rfl⟩
  obtain ⟨p2, hp2⟩ : ∃ x, (ks.drop 1).all (kindT 14) = x := ⟨_, rfl⟩
  obtain ⟨p3, hp3⟩ : ∃ x, clausesB P (caseT E) (ks.drop 1) = x := ⟨_, rfl⟩
  have H := reg (w := w) (f := 24) (args := #[.pointer (some ⟨b, o, none⟩), .int .i64 4]) (v := .bool p0) fun W hb => by
    obtain ⟨x0, x1, x2, x3, _⟩ := (hN.kept hb).cells
    have := same_below (has_4 d b o W x0 x1 x2 x3)
    rw [hp0] at this; exact this
  have H2 := reg (w := w) (f := 25) (args := #[.slice (some ⟨kb, ko, none⟩) 1 c, .func (.func 62) #[] #[]]) (v := .bool p1) fun W hb => by
    have := all_take enters_expr (p := E) (some ⟨kb, ko, none⟩) c 1 (by omega) hlen (fun j hj => ih j (by omega)) W (hN.kept hb).kl
    rw [hp1] at this; exact this
  have hdl : (ks.drop 1).length = ks.length - 1 := by simp
  have hdg : ∀ j, j < (ks.drop 1).length → (ks.drop 1).getD j tr0 = ks.getD (1 + j) tr0 ∧ 1 + j < ks.length := fun j hj => by
    rw [hdl] at hj
    exact ⟨by rw [List.getD_eq_getElem?_getD, List.getElem?_drop, List.getD_eq_getElem?_getD], by omega⟩
  have HALL := fun W (h : KL W (fun _ => True) (ks.drop 1) (dropA (some ⟨kb, ko, none⟩) 1 c)) => all_of enters_case (p := kindT 14) (dropA (some ⟨kb, ko, none⟩) 1 c) (c - 1) (by omega) (fun j hj => case_pays _) W h
  have HCL := fun W (h : KL W (fun _ => True) (ks.drop 1) (dropA (some ⟨kb, ko, none⟩) 1 c)) => clauses_any P (caseT E) (ks.drop 1) (dropA (some ⟨kb, ko, none⟩) 1 c) (c - 1) (by omega) (fun j hj => by rw [(hdg j hj).1]; exact fit_kid hF (hdg j hj).2) (fun j hj => by rw [(hdg j hj).1]; exact ihb _ (hdg j hj).2) enters_case2 (fun j hj => by
    have hq := hdg j hj
    rw [hq.1]; exact caseT_pays E _ (fit_kid hF hq.2) (ihe _ hq.2)) _ W h
  have HKD := Lib.hid (fun W (h : KL W (fun _ => True) ks (some ⟨kb, ko, none⟩)) => kl_drop h hcap 1)
  rw [hp2, hdl] at HALL
  rw [hp3, hdl] at HCL
  rw [hp0, hp1, hp2, hp3]
  have HA1 := Lib.hid HALL
  have HC1 := Lib.hid HCL
  have HN := Lib.hid hN
  obtain ⟨k, tx, nn, ty, s4, s5, s6⟩ := d
  simp only at hn
  subst hn
  obtain ⟨c0, c1, c2, c3, c4, c5, c6, c7⟩ := hN.cells
  have HRUN : ∀ W, (Instr.slice 23 (.slice (some ⟨kb, ko, none⟩) ks.length c) (some (.int .i64 1)) none none).run Tryz.prog W = .ok (.slice (dropA (some ⟨kb, ko, none⟩) 1 c) (ks.length - 1) (c - 1)) W := fun W => slice_low (some ⟨kb, ko, none⟩) ks.length c 1 W (by omega)
  obtain ⟨L, hL⟩ : ∃ L, ks.length = L := ⟨_, rfl⟩
  have HL := Lib.hid hL
  rw [hL] at c7 hlen hcap HA1 HC1 HRUN
  rw [hL] at hl1
  have g2 := cell_regrown c2
  have g7 := cell_regrown c7
  have f0 : decide ((L : Int) < 1) = false := by simp; omega
  have f1 : decide (L < 1) = false := by simp; omega
  have hmc : 1 ≤ c := by omega
  have hmci : (1 : Int) ≤ (c : Int) := by omega
  have hlt := hN.lt
  clear hA hF hN ih ihb ihe hL hp0 hp1 hp2 hp3 hdl hdg HALL HCL
  cases p0
  · rw [Bool.false_and]
    go_enter Tryz.func64, Tryz.ntmps64
    go_wp2_with fail
    refine wp_region_quiet_below (by kernel_rfl) (by kernel_rfl) ?_
    repeat (go_big_quiet_step (first | exact H.out _ _ | exact H2.out _ _ | fail))
    refine wpQuiet_nil ?_
    intro w4 hw4
    have hb4 := Drw.cls_below (w := w) hw4
    clear hw4
    go_wp2
    go_ret
    exact ⟨rfl, hb4⟩
  cases p1
  · rw [Bool.true_and, Bool.false_and]
    go_enter Tryz.func64, Tryz.ntmps64
    go_wp2_with fail
    refine wp_region_quiet_below (by kernel_rfl) (by kernel_rfl) ?_
    repeat (go_big_quiet_step (first | exact H.out _ _ | exact H2.out _ _ | fail))
    refine wpQuiet_nil ?_
    intro w4 hw4
    have hb4 := Drw.cls_below (w := w) hw4
    clear hw4
    go_wp2
    go_ret
    exact ⟨rfl, hb4⟩
  rw [Bool.true_and, Bool.true_and]
  cases p2
  · rw [Bool.false_and]
    go_enter Tryz.func64, Tryz.ntmps64
    go_wp2_with fail
    refine wp_region_quiet_below (by kernel_rfl) (by kernel_rfl) ?_
    repeat (go_big_quiet_step (first | exact H.out _ _ | exact H2.out _ _ | fail))
    refine wpQuiet_nil ?_
    intro w4 hw4
    have hb4 := Drw.cls_below (w := w) hw4
    clear hw4
    have HX4 := Lib.hid (HN.out.kept hb4)
    clear c0 c1 c2 c3 c4 c5 c6 c7 g2 g7
    obtain ⟨c0, c1, c2, c3, c4, c5, c6, c7⟩ := HX4.out.cells
    rw [HL.out] at c7
    have g2 := cell_regrown c2
    have g7 := cell_regrown c7
    go_wp2_with fail
    refine wp_region_quiet_below (by kernel_rfl) (by kernel_rfl) ?_
    repeat (go_big_quiet_step (fail))
    refine wpQuiet_nil ?_
    intro w5 hw5
    have hb5 := Drw.cls_below (w := w4) hw5
    have HX5 := Lib.hid (HX4.out.kept hb5)
    clear hw5 hb5 hb4 c0 c1 c2 c3 c4 c5 c6 c7 g2 g7
    go_wp2_with fail
    refine (HA1.out _ (HKD.out _ HX5.out.kl)).mono ?_
    rintro e w6 ⟨rfl, hb6⟩
    have HX6 := Lib.hid (HX5.out.kept hb6)
    clear hb6
    go_wp2
    go_ret
    exact ⟨rfl, HX6.out.below⟩
  rw [Bool.true_and]
  cases p3
  all_goals
    go_enter Tryz.func64, Tryz.ntmps64
    go_wp2_with fail
    refine wp_region_quiet_below (by kernel_rfl) (by kernel_rfl) ?_
    repeat (go_big_quiet_step (first | exact H.out _ _ | exact H2.out _ _ | fail))
    refine wpQuiet_nil ?_
    intro w4 hw4
    have hb4 := Drw.cls_below (w := w) hw4
    clear hw4
    have HX4 := Lib.hid (HN.out.kept hb4)
    clear c0 c1 c2 c3 c4 c5 c6 c7 g2 g7
    obtain ⟨c0, c1, c2, c3, c4, c5, c6, c7⟩ := HX4.out.cells
    rw [HL.out] at c7
    have g2 := cell_regrown c2
    have g7 := cell_regrown c7
    go_wp2_with fail
    refine wp_region_quiet_below (by kernel_rfl) (by kernel_rfl) ?_
    repeat (go_big_quiet_step (fail))
    refine wpQuiet_nil ?_
    intro w5 hw5
    have hb5 := Drw.cls_below (w := w4) hw5
    have HX5 := Lib.hid (HX4.out.kept hb5)
    clear hw5 hb5 hb4 c0 c1 c2 c3 c4 c5 c6 c7 g2 g7
    go_wp2_with fail
    refine (HA1.out _ (HKD.out _ HX5.out.kl)).mono ?_
    rintro e w6 ⟨rfl, hb6⟩
    have HX6 := Lib.hid (HX5.out.kept hb6)
    clear hb6
    go_wp2_with fail
    refine (HC1.out _ (HKD.out _ HX6.out.kl)).mono ?_
    rintro e w7 ⟨rfl, hb7⟩
    have HX7 := Lib.hid (HX6.out.kept hb7)
    clear hb7
    go_wp2
    go_ret
    exact ⟨rfl, HX7.out.below⟩
set_option maxHeartbeats 8000000 in
set_option maxRecDepth 100000 in
theorem switch_none (d : Nd) (ks : List Tr) (hn : d.n ≠ 0 ∧ d.n ≠ 1) (S : Nat → Prop) (b o : Nat) (w : World) (hA : At w S (.mk d ks) b o) :
    Calls Tryz.prog 64 #[.pointer (some ⟨b, o, none⟩)] w fun e w' => e = .returned (.bool false) ∧ Below w.heap.size w w' := by
  obtain ⟨a, c, hN⟩ := Nod.start hA
  obtain ⟨k, tx, n, ty, s4, s5, s6⟩ := d
  obtain ⟨c0, c1, c2, c3, c4, c5, c6, c7⟩ := hN.cells
  have g2 := cell_regrown c2
  have e0 : (n == 0) = false := beq_false_of_ne hn.1
  have e1 : (n == 1) = false := beq_false_of_ne hn.2
  have e2 : (n != 0) = true := by unfold bne; rw [e0]; rfl
  have e3 : (n != 1) = true := by unfold bne; rw [e1]; rfl
  clear hA hN hn
  go_enter Tryz.func64, Tryz.ntmps64
  go_wp2_with fail
  refine wp_region_quiet_below (by kernel_rfl) (by kernel_rfl) ?_
  repeat (go_big_quiet_step (fail))
  refine wpQuiet_nil ?_
  intro w4 hw4
  have hb4 := Drw.cls_below (w := w) hw4
  clear hw4
  go_wp2
  go_ret
  exact ⟨rfl, hb4⟩
end Go.Proofs.YtgodeffkboihlaaGreatDoor.Tqe
