/- drowselaw21.ReportTexts. -/
import Derived.Test.YtclcbiiijoeplaaDoorRaw
import Derived.Test.YtclcbiiijoeplaaDoorRbs
import Derived.Test.YtclcbiiijoeplaaDoorRsa
set_option linter.unusedVariables false
namespace Go.Proofs.YtclcbiiijoeplaaDoor.Rta
open Go.RowKit Go.Sort Rwo Rpl Rwd Rbk Rpt Rbs Aps

theorem same_one (v u : Value) (l : List Bk) (w : World) (hl : l.length ≤ 4611686018427387904) (hv : Lies w v l) (hu : Lies w u l) :
    Calls Tryd.prog 10 #[v, u] w fun e w' => e = .returned (.bool true) ∧ Below w.heap.size w w' :=
  (Rsa.same_any v u l l w hl hv hu).mono fun e w' ⟨⟨r, he, hr⟩, q, hq⟩ => ⟨by rw [he, hr.2 rfl], by rw [hq]; exact Rln.below_drewN_up (Below.refl _ _) q⟩
set_option maxHeartbeats 4000000 in
set_option maxRecDepth 100000 in
theorem walk (v : Value) (l : List Bk) (w : World) (hf : Hid (FitsB l)) (hv : Hid (Lies w v l)) (hE : Hid (Rev.Env w)) :
    Calls Tryd.prog 3 #[v] w fun e w' => e = .returned (.bool true) ∧ Below w.heap.size w w' := by
  obtain ⟨i0, hi, hz0, hz1, hz2⟩ := info_parts Rre.infoBk
  have hl := hf.out.fits.1
  obtain ⟨X, c, rfl⟩ : ∃ X c, v = .slice X l.length c := by
    rcases hv.out with ⟨rfl, x, c, rfl⟩ | ⟨b, o, c, rfl, _, _⟩
    · exact ⟨x, c, rfl⟩
    · exact ⟨_, c, rfl⟩
  go_enter Tryd.func3, Tryd.ntmps3
  go_wp2_with fail
  refine (Raw.awake_any w hE).mono ?_
  rintro e w1 ⟨rfl, hb1⟩
  have HB1 := Lib.hid hb1
  have HV1 := Lib.hid (hv.out.below hb1)
  have HS : Hid (Src Tryd.prog 4 22 (.slice X l.length c) l.length (l.flatMap bkE.f) w1) := src HV1.out
  clear hb1
  go_wp2_with (at_builtin; refine wpList_app_src _ rfl _ _ 22 22 rfl w1.heap.size 33 i0 _ 4 40 Tryd.underlying22 hi hz0 hz1 hz2 rfl (by decide) _ 0 [] rfl (World.ownsRow_nil w1 _ _ _) (.slice X l.length c) l.length (l.flatMap bkE.f) rfl HS.out (by unfold maxLen; omega) (by omega) (Nat.le_refl _) ?_)
  intro u w2 hown hg
  have hO : Own bkE 33 w1.heap.size u l w2 := by
    unfold Own
    first | exact hown | (have h := hown; rw [Nat.zero_add] at h; exact h)
  have hb2 : Below w1.heap.size w1 w2 := (Below.refl _ _).grown hg (Nat.le_refl _) (fun k hk => by simp [Value.ownBlock] at hk)
  have HU2 := Lib.hid (lies_own hO)
  obtain ⟨A2, cp2, rfl⟩ := hO.shape
  have HV2 := Lib.hid (HV1.out.below hb2)
  have HB2 := Lib.hid (HB1.out.trans (hb2.mono HB1.out.size))
  have HE2 := Lib.hid (hE.out.below HB2.out)
  clear hO hown hg hb2 hi hz0 hz1 hz2 HS
  go_wp2_with fail
  refine (Rtw.text_any _ l w2 HE2.out hf.out.fits HU2.out).mono ?_
  rintro e w3 ⟨rfl, hb3⟩
  have HB3 := Lib.hid (HB2.out.trans (hb3.mono HB2.out.size))
  have HV3 := Lib.hid (HV2.out.below hb3)
  have HU3 := Lib.hid (HU2.out.below hb3)
  clear hb3
  obtain ⟨o, ho⟩ : ∃ o, textL l = o := ⟨_, rfl⟩
  have HO := Lib.hid ho
  rw [ho]
  clear ho
  have C2 : Hid (∀ w', Below w3.heap.size w3 w' → Calls Tryd.prog 9 #[.slice X l.length c] w' fun e w'' => e = routcome o ∧ Below w'.heap.size w' w'') := fun w' hb => by
    have := Rtx.rtext_any _ l w' hf.out.fits (HV3.out.below hb)
    rw [HO.out] at this; exact this
  cases o with
  | none =>
    unfold outcome
    go_wp2_with fail
    refine (C2.out w3 (Below.refl _ _)).mono ?_
    rintro e w4 ⟨rfl, hb4⟩
    have HB4 := Lib.hid (HB3.out.trans (hb4.mono HB3.out.size))
    have HV4 := Lib.hid (HV3.out.below hb4)
    have HU4 := Lib.hid (HU3.out.below hb4)
    clear hb4
    unfold routcome
    go_wp2_with fail
    refine (same_one _ _ l w4 (by omega) HU4.out HV4.out).mono ?_
    rintro e w5 ⟨rfl, hb5⟩
    have HB5 := Lib.hid (HB4.out.trans (hb5.mono HB4.out.size))
    have HV5 := Lib.hid (HV4.out.below hb5)
    clear hb5
    go_wp2_with fail
    go_loopw [10] (fun kv wr => ∃ k : Nat, kv = .int .i64 k ∧ k ≤ l.length ∧ Below w.heap.size w wr) (fun kv _ => l.length - (intOf kv).toNat)
    case atStart => exact ⟨0, rfl, Nat.zero_le _, HB5.out⟩
    case round =>
      obtain ⟨k, rfl, hk, hbw⟩ := hrel
      have hszw := hbw.size
      by_cases hlt : k < l.length
      · rcases hv.out with ⟨h0, _⟩ | ⟨b, of, c', e, hbl, hbk⟩
        · rw [h0] at hlt; simp at hlt
        · simp only [Value.slice.injEq, true_and] at e
          obtain ⟨rfl, rfl⟩ := e
          obtain ⟨on, hon⟩ : ∃ x, (l.getD k bk0).on = x := ⟨_, rfl⟩
          have c3 := ((hbk k hlt).below hbw hbl).c3
          rw [hon] at c3
          obtain ⟨D, hD⟩ : ∃ D, D = wd on := ⟨_, rfl⟩
          have Cw := Rtw.reg (f := 11) (args := #[.int .i64 on]) (v := .string D) (w := wr) fun W' _ => hD ▸ word_any on W'
          have Cr := Rtw.reg (f := 12) (args := #[.int .i64 on]) (v := .string D) (w := wr) fun W' _ => (rword_any on W').mono fun e' w' h => ⟨hD ▸ h.1, h.2 ▸ Below.refl _ _⟩
          have k3 := cell_regrown c3
          have hdd : (D.toList == D.toList) = true := by simp
          clear hD hon hbk
          go_wp2_with fail
          refine wp_region_quiet_below (by kernel_rfl) (by kernel_rfl) ?_
          go_big_quiet_step (fail)
          go_big_quiet_step (fail)
          go_big_quiet_step (fail)
          go_big_quiet_step (fail)
          go_big_quiet_step (fail)
          go_big_quiet_step (exact Cw.out _ _)
          go_big_quiet_step (fail)
          go_big_quiet_step (fail)
          go_big_quiet_step (fail)
          go_big_quiet_step (fail)
          go_big_quiet_step (fail)
          go_big_quiet_step (exact Cr.out _ _)
          go_big_quiet_step (fail)
          refine wpQuiet_nil ?_
          intro w6 hw6
          have hb6 := Drw.cls_below (w := wr) hw6
          clear hw6 k3 c3
          go_wp2
          go_roundw
          case rel => exact ⟨k + 1, by go_num, by omega, hbw.trans (hb6.mono hszw)⟩
          case measure => simp [intOf]; omega
      · go_wp2
        go_ret
        exact ⟨rfl, hbw⟩
  | some s =>
    unfold outcome
    go_wp2_with fail
    refine (C2.out w3 (Below.refl _ _)).mono ?_
    rintro e w4 ⟨rfl, hb4⟩
    have HB4 := Lib.hid (HB3.out.trans (hb4.mono HB3.out.size))
    have HV4 := Lib.hid (HV3.out.below hb4)
    have HU4 := Lib.hid (HU3.out.below hb4)
    clear hb4
    unfold routcome
    go_wp2_with fail
    refine (same_one _ _ l w4 (by omega) HU4.out HV4.out).mono ?_
    rintro e w5 ⟨rfl, hb5⟩
    have HB5 := Lib.hid (HB4.out.trans (hb5.mono HB4.out.size))
    have HV5 := Lib.hid (HV4.out.below hb5)
    clear hb5
    have hss : (s.toList == s.toList) = true := by simp
    go_wp2_with fail
    go_loopw [10] (fun kv wr => ∃ k : Nat, kv = .int .i64 k ∧ k ≤ l.length ∧ Below w.heap.size w wr) (fun kv _ => l.length - (intOf kv).toNat)
    case atStart => exact ⟨0, rfl, Nat.zero_le _, HB5.out⟩
    case round =>
      obtain ⟨k, rfl, hk, hbw⟩ := hrel
      have hszw := hbw.size
      by_cases hlt : k < l.length
      · rcases hv.out with ⟨h0, _⟩ | ⟨b, of, c', e, hbl, hbk⟩
        · rw [h0] at hlt; simp at hlt
        · simp only [Value.slice.injEq, true_and] at e
          obtain ⟨rfl, rfl⟩ := e
          obtain ⟨on, hon⟩ : ∃ x, (l.getD k bk0).on = x := ⟨_, rfl⟩
          have c3 := ((hbk k hlt).below hbw hbl).c3
          rw [hon] at c3
          obtain ⟨D, hD⟩ : ∃ D, D = wd on := ⟨_, rfl⟩
          have Cw := Rtw.reg (f := 11) (args := #[.int .i64 on]) (v := .string D) (w := wr) fun W' _ => hD ▸ word_any on W'
          have Cr := Rtw.reg (f := 12) (args := #[.int .i64 on]) (v := .string D) (w := wr) fun W' _ => (rword_any on W').mono fun e' w' h => ⟨hD ▸ h.1, h.2 ▸ Below.refl _ _⟩
          have k3 := cell_regrown c3
          have hdd : (D.toList == D.toList) = true := by simp
          clear hD hon hbk
          go_wp2_with fail
          refine wp_region_quiet_below (by kernel_rfl) (by kernel_rfl) ?_
          go_big_quiet_step (fail)
          go_big_quiet_step (fail)
          go_big_quiet_step (fail)
          go_big_quiet_step (fail)
          go_big_quiet_step (fail)
          go_big_quiet_step (exact Cw.out _ _)
          go_big_quiet_step (fail)
          go_big_quiet_step (fail)
          go_big_quiet_step (fail)
          go_big_quiet_step (fail)
          go_big_quiet_step (fail)
          go_big_quiet_step (exact Cr.out _ _)
          go_big_quiet_step (fail)
          refine wpQuiet_nil ?_
          intro w6 hw6
          have hb6 := Drw.cls_below (w := wr) hw6
          clear hw6 k3 c3
          go_wp2
          go_roundw
          case rel => exact ⟨k + 1, by go_num, by omega, hbw.trans (hb6.mono hszw)⟩
          case measure => simp [intOf]; omega
      · have hal : l.all may = true ∧ s.data.toList = l.flatMap lineE := by
          have h1 := HO.out
          unfold textL at h1
          by_cases hm : l.all may = true
          · rw [if_pos hm] at h1
            simp only [Option.some.injEq] at h1
            refine ⟨hm, ?_⟩
            rw [← h1]
            show acc l l.length = _
            exact acc_all l
          · rw [if_neg hm] at h1; cases h1
        have HRD : Hid (Rrd.redOf s.data.toList = .rows l) := by
          show _ = _
          rw [hal.2]; exact Rrd.redOf_text hal.1
        have hsz : s.size ≤ 33554432 := by
          rw [← list_size, hal.2]; exact text_bound hf.out hal.1
        have HEw := Lib.hid (hE.out.below hbw)
        have HVw := Lib.hid (hv.out.below hbw)
        clear hal hss
        go_wp2_with fail
        refine (Rea.read_any s wr hsz HEw).mono ?_
        rintro e w7 ⟨v7, hb7, hm7⟩
        rw [HRD.out] at hm7
        obtain ⟨rfl, hO7⟩ := hm7
        have HL7 := Lib.hid (lies_own hO7)
        have HV7 := Lib.hid (HVw.out.below hb7)
        have HB7 := Lib.hid (hbw.trans (hb7.mono hszw))
        clear hb7 hO7
        go_wp2_with fail
        refine (same_one _ _ l w7 (by omega) HL7.out HV7.out).mono ?_
        rintro e w8 ⟨rfl, hb8⟩
        go_wp2
        go_ret
        exact ⟨rfl, HB7.out.trans (hb8.mono HB7.out.size)⟩
end Go.Proofs.YtclcbiiijoeplaaDoor.Rta
