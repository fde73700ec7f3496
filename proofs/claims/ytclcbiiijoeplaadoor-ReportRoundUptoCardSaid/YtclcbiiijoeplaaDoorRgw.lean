/- report.Rings. -/
import Derived.Test.YtclcbiiijoeplaaDoorRgs
import Derived.Test.YtclcbiiijoeplaaDoorRgm
import Derived.WalkMore
import Derived.Scope
import Derived.Deep.LoopGhost
import Derived.Deep.RegionLaw
import Derived.WalkSpells
set_option linter.unusedVariables false
namespace Go.Proofs.YtclcbiiijoeplaaDoor.Rgw
open Go.RowKit Go.Sort Rwo Rcy Rsl Rowz Rmp Rrg Rgp Rgs Rgm

/-- A sleeper's copy laid. -/
abbrev cp (w : World) (ws wg ser on : Int) (ra : Option Addr) (rn rc : Nat) (hs hg : Int) : World := w.alloc (.cells #[.int .u32 ws, .int .u32 wg, .int .i64 ser, .int .i64 on, .slice ra rn rc, .int .u32 hs, .int .u32 hg] 52)
/-- Six ways to know to whom one leads. -/
theorem lead_ways {l : List As} {k : Nat} (hk : k < l.length) {ws wg ser on : Int} {ra : Option Addr} {rn rc : Nat} {hs hg : Int} (ht : l.getD k as0 = ⟨ws, wg, ser, on, ra, rn, rc, hs, hg⟩) :
    (firstOf l hs hg = none ∧ leadsF l k = none) ∨
    (∃ h j, firstOf l hs hg = some h ∧ firstOf l ws wg = some j ∧ j ≠ k ∧ leadsF l k = none) ∨
    (∃ h, firstOf l hs hg = some h ∧ firstOf l ws wg = some k ∧ on ≠ 7 ∧ leadsF l k = none) ∨
    (∃ h, firstOf l hs hg = some h ∧ firstOf l ws wg = some k ∧ on = 7 ∧ hs = 0 ∧ hg = 0 ∧ leadsF l k = none) ∨
    (∃ h, firstOf l hs hg = some h ∧ firstOf l ws wg = some k ∧ on = 7 ∧ ¬ hs = 0 ∧ leadsF l k = some h) ∨
    (∃ h, firstOf l hs hg = some h ∧ firstOf l ws wg = some k ∧ on = 7 ∧ hs = 0 ∧ ¬ hg = 0 ∧ leadsF l k = some h) := by
  have h1 := leads_at hk ht
  dsimp only at h1
  have hw : ∃ j, firstOf l ws wg = some j := by
    cases h : firstOf l ws wg with
    | some j => exact ⟨j, rfl⟩
    | none =>
      exfalso
      unfold firstOf at h
      rw [List.findIdx?_eq_none_iff] at h
      have := h l[k] (List.getElem_mem hk)
      have e : l[k] = l.getD k as0 := by simp [List.getD_eq_getElem?_getD, hk]
      rw [e, ht] at this
      simp [isW] at this
  obtain ⟨j, hj⟩ := hw
  cases hh : firstOf l hs hg with
  | none => rw [hh] at h1; exact .inl ⟨rfl, by rw [h1]; split <;> rfl⟩
  | some h =>
    rw [hh, hj] at h1
    by_cases hjk : j = k
    · subst hjk
      by_cases ho : on = 7
      · by_cases a : hs = 0
        · by_cases b : hg = 0
          · exact .inr (.inr (.inr (.inl ⟨h, rfl, hj, ho, a, b, by rw [h1, if_neg (fun x => x.2.1 ⟨a, b⟩)]⟩)))
          · exact .inr (.inr (.inr (.inr (.inr ⟨h, rfl, hj, ho, a, b, by rw [h1, if_pos ⟨ho, fun x => b x.2, rfl⟩]⟩))))
        · exact .inr (.inr (.inr (.inr (.inl ⟨h, rfl, hj, ho, a, by rw [h1, if_pos ⟨ho, fun x => a x.1, rfl⟩]⟩))))
      · exact .inr (.inr (.inl ⟨h, rfl, hj, ho, by rw [h1, if_neg (fun x => ho x.1)]⟩))
    · exact .inr (.inl ⟨h, j, rfl, hj, hjk, by rw [h1, if_neg (fun x => hjk (by simpa using x.2.2))]⟩)
theorem look_first {l : List As} {b : Nat} {w : World} (h : MapH b (firsts l l.length) w) (s g : Int) : (Instr.lookup 79 (.map (some b)) (hkey s g) true).run Tryd.prog w = .ok (.tuple #[.int .i64 (((firstOf l s g).map Int.ofNat).getD 0), .bool (firstOf l s g).isSome]) w := by
  have := lookH h s g
  rw [firsts_all] at this
  simpa using this
theorem look_first1 {l : List As} {b : Nat} {w : World} (h : MapH b (firsts l l.length) w) (s g : Int) : (Instr.lookup 79 (.map (some b)) (hkey s g) false).run Tryd.prog w = .ok (.int .i64 (((firstOf l s g).map Int.ofNat).getD 0)) w := by
  have := lookH1 h s g
  rw [firsts_all] at this
  exact this
set_option maxHeartbeats 8000000 in
set_option maxRecDepth 100000 in
theorem rings_some (b o c : Nat) (l : List As) (w : World) (hl : l.length ≤ 1048576) (h0 : 0 < l.length) (hL : Hid (Ass w b o l)) (hb : b < w.heap.size) :
    Calls Tryd.prog 17 #[.slice (some ⟨b, o, none⟩) l.length c] w (Post l w) := by
  have hmk := run_mk l.length hl
  have hmm := @run_makeMap Tryd.prog
  go_enter Tryd.func17, Tryd.ntmps17
  go_wp2
  go_step3
  go_wp2
  have hM0 := Lib.hid (MapH.made w)
  have HB0 : Hid (Below w.heap.size w (w.alloc (.map #[] 0))) := (Below.refl _ _).alloc (Nat.le_refl _) _
  go_loopw [25] (fun iv wr => ∃ k : Nat, iv = .int .i64 k ∧ k ≤ l.length ∧ Hid (MapH w.heap.size (firsts l k) wr) ∧ Hid (Below w.heap.size w wr)) (fun iv _ => l.length - (intOf iv).toNat)
  case atStart => exact ⟨0, rfl, Nat.zero_le _, hM0.out, HB0.out⟩
  case round =>
    obtain ⟨k, rfl, hk, HM, HB⟩ := hrel
    clear hM0 HB0
    have hsz := HB.out.size
    by_cases hlt : k < l.length
    · obtain ⟨t, ht⟩ : ∃ t, l.getD k as0 = t := ⟨_, rfl⟩
      have hat := (hL.out k hlt).below HB.out hb
      rw [ht] at hat
      have HT := Lib.hid ht
      clear ht
      obtain ⟨ws, wg, ser, on, ra, rn, rc, hs, hg⟩ := t
      obtain ⟨c0, c1, c2, c3, c4, c5, c6⟩ := hat
      dsimp only at c0 c1 c2 c3 c4 c5 c6
      have HM1 : Hid (MapH w.heap.size (firsts l k) (cp wr ws wg ser on ra rn rc hs hg)) := HM.out.kept (heap_alloc_old _ _ HM.out.lt)
      have HB1 : Hid (Below w.heap.size w (cp wr ws wg ser on ra rn rc hs hg)) := HB.out.alloc hsz _
      have hlk := lookH HM1.out ws wg
      cases hf : findH (firsts l k) ws wg with
      | some v =>
        have HS : Hid (firsts l (k + 1) = firsts l k) := firsts_step_old (by rw [HT.out]; rw [hf]; rfl)
        rw [hf] at hlk
        simp only [Option.getD_some, Option.isSome_some] at hlk
        clear hf
        go_wp2
        go_roundw
        case rel => exact ⟨k + 1, by go_num, by omega, by rw [HS.out]; exact HM1, HB1⟩
        case measure => simp [intOf]; omega
      | none =>
        have HS : Hid (firsts l (k + 1) = firsts l k ++ [((ws, wg), (k : Int))]) := by
          have := firsts_step_new (l := l) (k := k) (by rw [HT.out]; exact hf)
          rw [HT.out] at this; exact this
        rw [hf] at hlk
        simp only [Option.getD_none, Option.isSome_none] at hlk
        obtain ⟨ob, hput, hM2⟩ := putH HM1.out ws wg k hf
        have HM2 : Hid (MapH w.heap.size (firsts l (k + 1)) (setB (cp wr ws wg ser on ra rn rc hs hg) w.heap.size ob)) := by
          show MapH _ _ _
          rw [HS.out]; exact hM2
        have HB2 := Lib.hid (setB_below HB1.out (Nat.le_refl _) ob)
        clear hf hM2
        go_wp2
        go_roundw
        case rel => exact ⟨k + 1, by go_num, by omega, HM2, HB2⟩
        case measure => simp [intOf]; omega
    · have hke : k = l.length := by omega
      subst hke
      obtain ⟨Wa, rfl⟩ : ∃ W : World, W = wr := ⟨_, rfl⟩
      clear hlt hk
      have HZ : Hid (Ints w.heap.size (.slice (some ⟨Wa.heap.size, 0, none⟩) l.length l.length) (half l 0) (Wa.alloc (.cells (madeCells #[.int .i64 0] l.length) 3))) := by
        have := own_zero l.length hl Wa
        rw [Nat.mul_one] at this
        show Ints _ _ _ _
        rw [half_zero]; exact this.base hsz
      have HMZ : Hid (MapH w.heap.size (firsts l l.length) (Wa.alloc (.cells (madeCells #[.int .i64 0] l.length) 3))) := HM.out.kept (heap_alloc_old _ _ HM.out.lt)
      have HBZ : Hid (Below w.heap.size w (Wa.alloc (.cells (madeCells #[.int .i64 0] l.length) 3))) := HB.out.alloc hsz _
      obtain ⟨gl, hgl⟩ : ∃ g, g = Wa.heap.size := ⟨_, rfl⟩
      have hglw : w.heap.size < gl := by have := HM.out.lt; omega
      go_wp2
      rw [← hgl] at HZ
      rw [← hgl]
      clear hgl
      go_loopw [49] (fun iv wr => ∃ k : Nat, iv = .int .i64 k ∧ k ≤ l.length ∧ Hid (Ints w.heap.size (.slice (some ⟨gl, 0, none⟩) l.length l.length) (half l k) wr) ∧ Hid (MapH w.heap.size (firsts l l.length) wr) ∧ Hid (Below w.heap.size w wr)) (fun iv _ => l.length - (intOf iv).toNat)
      case atStart => exact ⟨0, rfl, Nat.zero_le _, HZ.out, HMZ.out, HBZ.out⟩
      case round =>
        clear HZ HMZ HBZ HM HB hsz
        obtain ⟨k, rfl, hk, HI, HM, HB⟩ := hrel
        have hsz := HB.out.size
        by_cases hlt : k < l.length
        · obtain ⟨t, ht⟩ : ∃ t, l.getD k as0 = t := ⟨_, rfl⟩
          have hat := (hL.out k hlt).below HB.out hb
          rw [ht] at hat
          obtain ⟨ws, wg, ser, on, ra, rn, rc, hs, hg⟩ := t
          obtain ⟨c0, c1, c2, c3, c4, c5, c6⟩ := hat
          dsimp only at c0 c1 c2 c3 c4 c5 c6
          have fin : ∀ r, oi (leadsF l k) = r → Hid (Ints w.heap.size (.slice (some ⟨gl, 0, none⟩) l.length l.length) (half l (k + 1)) ((cp wr ws wg ser on ra rn rc hs hg).setCell ⟨gl, k, none⟩ (.int .i64 r)) ∧
              MapH w.heap.size (firsts l l.length) ((cp wr ws wg ser on ra rn rc hs hg).setCell ⟨gl, k, none⟩ (.int .i64 r)) ∧
              Below w.heap.size w ((cp wr ws wg ser on ra rn rc hs hg).setCell ⟨gl, k, none⟩ (.int .i64 r))) := by
            intro r hr
            have h1 := (HI.out.alloc (.cells #[.int .u32 ws, .int .u32 wg, .int .i64 ser, .int .i64 on, .slice ra rn rc, .int .u32 hs, .int .u32 hg] 52))
            have h2 := (Ints.put h1 (j := k) (by rw [half_length (by omega)]; exact hlt) r).1
            rw [← hr, half_step hlt] at h2
            refine ⟨hr ▸ h2, ?_, (HB.out.alloc hsz _).setCell (p := ⟨gl, k, none⟩) (Nat.le_of_lt hglw) _⟩
            exact (HM.out.kept (heap_alloc_old _ _ HM.out.lt)).kept (heap_setCell_other _ ⟨gl, k, none⟩ _ _ (by show w.heap.size ≠ gl; omega))
          have hput := Ints.put (HI.out.alloc (.cells #[.int .u32 ws, .int .u32 wg, .int .i64 ser, .int .i64 on, .slice ra rn rc, .int .u32 hs, .int .u32 hg] 52)) (j := k) (by rw [half_length (by omega)]; exact hlt) 0
          have HM1 : Hid (MapH w.heap.size (firsts l l.length) (cp wr ws wg ser on ra rn rc hs hg)) := HM.out.kept (heap_alloc_old _ _ HM.out.lt)
          have hl1 := look_first HM1.out hs hg
          have hl2 := look_first1 HM1.out ws wg
          obtain ⟨_, hfz, u, hcu⟩ := hput
          have HW := lead_ways hlt ht
          clear ht
          rcases HW with ⟨q1, q2⟩ | ⟨h, j, q1, q3, q4, q2⟩ | ⟨h, q1, q3, q4, q2⟩ | ⟨h, q1, q3, rfl, rfl, rfl, q2⟩ | ⟨h, q1, q3, rfl, q5, q2⟩ | ⟨h, q1, q3, rfl, rfl, q5, q2⟩
          · rw [q1] at hl1
            simp only [Option.map_none, Option.getD_none, Option.isSome_none] at hl1
            have FIN := fin (-1) (by rw [q2]; rfl)
            clear fin q1 q2
            go_wp2
            go_roundw
            case rel => exact ⟨k + 1, by go_num, by omega, FIN.out.1, FIN.out.2.1, FIN.out.2.2⟩
            case measure => simp [intOf]; omega
          · rw [q1] at hl1
            rw [q3] at hl2
            simp only [Option.map_some, Option.getD_some, Option.isSome_some, Int.ofNat_eq_natCast] at hl1 hl2
            have FIN := fin (-1) (by rw [q2]; rfl)
            have hjk : ((j : Int) != (k : Int)) = true := by rw [bne_iff_ne]; omega
            clear fin q1 q2 q3
            go_wp2
            go_roundw
            case rel => exact ⟨k + 1, by go_num, by omega, FIN.out.1, FIN.out.2.1, FIN.out.2.2⟩
            case measure => simp [intOf]; omega
          · rw [q1] at hl1
            rw [q3] at hl2
            simp only [Option.map_some, Option.getD_some, Option.isSome_some, Int.ofNat_eq_natCast] at hl1 hl2
            have FIN := fin (-1) (by rw [q2]; rfl)
            have hjk : ((k : Int) != (k : Int)) = false := by simp
            have ho : (on != 7) = true := by rw [bne_iff_ne]; exact q4
            clear fin q1 q2 q3
            go_wp2
            go_roundw
            case rel => exact ⟨k + 1, by go_num, by omega, FIN.out.1, FIN.out.2.1, FIN.out.2.2⟩
            case measure => simp [intOf]; omega
          · rw [q1] at hl1
            rw [q3] at hl2
            simp only [Option.map_some, Option.getD_some, Option.isSome_some, Int.ofNat_eq_natCast] at hl1 hl2
            have FIN := fin (-1) (by rw [q2]; rfl)
            have hjk : ((k : Int) != (k : Int)) = false := by simp
            clear fin q1 q2 q3
            go_wp2
            go_roundw
            case rel => exact ⟨k + 1, by go_num, by omega, FIN.out.1, FIN.out.2.1, FIN.out.2.2⟩
            case measure => simp [intOf]; omega
          all_goals
            rw [q1] at hl1
            rw [q3] at hl2
            simp only [Option.map_some, Option.getD_some, Option.isSome_some, Int.ofNat_eq_natCast] at hl1 hl2
            have FIN := fin h (by rw [q2]; rfl)
            have hjk : ((k : Int) != (k : Int)) = false := by simp
            clear fin q1 q2 q3
            go_wp2
            go_roundw
            case rel => exact ⟨k + 1, by go_num, by omega, FIN.out.1, FIN.out.2.1, FIN.out.2.2⟩
            case measure => simp [intOf]; omega
        · have hke : k = l.length := by omega
          subst hke
          rw [half_all] at HI
          clear HM hlt hk
          obtain ⟨Wb, rfl⟩ : ∃ W : World, W = wr := ⟨_, rfl⟩
          have hS0 : Hid (St w l gl Wb.heap.size (Wb.heap.size + 1) (List.replicate l.length 0) [] (fun _ => none) ((Wb.alloc (.map #[] 0)).alloc (.cells (madeCells #[.int .i64 0] l.length) 3))) := St.start hglw HI.out HB.out hl
          go_wp2
          go_step3
          go_wp2
          obtain ⟨gm, hgm⟩ : ∃ g, g = Wb.heap.size := ⟨_, rfl⟩
          rw [← hgm] at hS0
          rw [← hgm]
          clear hgm HI HB hsz
          go_loopw [93] (fun iv wr => ∃ (i : Nat) (D : List Int) (m : IM) (R : Nat → Option (List Nat)), iv = .int .i64 i ∧ i ≤ l.length ∧ Hid (St w l gl gm (gm + 1) D m R wr) ∧ Hid (Mk (leadsF l) l.length i D R)) (fun iv _ => l.length - (intOf iv).toNat)
          case atStart => exact ⟨0, _, _, _, rfl, Nat.zero_le _, hS0.out, mk_start _ _⟩
          case round =>
            clear hS0
            obtain ⟨i, D, m, R, rfl, hi, HS, HMK⟩ := hrel
            have HW : Hid (Within (leadsF l) l.length) := leads_within l
            by_cases hlt : i < l.length
            · obtain ⟨wo, rfl⟩ : ∃ W : World, W = wr := ⟨_, rfl⟩
              go_wp2_with fail
              go_loopg [16] l.length (fun g av wq => ∃ (mm : Nat) (at_ : Option Nat) (E : List Int), mm + g = l.length ∧ av = .int .i64 (oi at_) ∧ Hid (St w l gl gm (gm + 1) E m R wq) ∧ Hid (Wk (leadsF l) l.length i D E mm at_))
              case atStart => exact ⟨0, some i, D, by omega, rfl, HS, wk_start HMK.out hlt⟩
              case round =>
                obtain ⟨mm, at_, E, hg, rfl, HSE, HWK⟩ := hrel
                cases at_ with
                | none =>
                  have HX : Hid (Mk (leadsF l) l.length (i + 1) E R) := wk_none HW.out hlt HMK.out HWK.out
                  unfold oi
                  go_wp2
                  go_roundw
                  case rel => exact ⟨i + 1, E, m, R, by go_num, by omega, HSE, HX⟩
                  case measure => simp [intOf]; omega
                | some a =>
                  have ha : a < l.length := it_lt HW.out hlt HWK.out.walk.here
                  obtain ⟨ev, hev⟩ : ∃ x, E.getD a 0 = x := ⟨_, rfl⟩
                  obtain ⟨hmk1, fz, dc⟩ := HSE.out.mark ha ((i : Int) + 1)
                  rw [hev] at dc
                  have HEV := Lib.hid hev
                  clear hev
                  unfold oi
                  by_cases h0v : ev = 0
                  · subst h0v
                    have hroom := (wk_room HW.out hlt HWK.out HEV.out).1
                    have HW2 : Hid (Wk (leadsF l) l.length i D (E.set a ((i : Int) + 1)) (mm + 1) (leadsF l a)) := wk_step HW.out hlt HWK.out HEV.out
                    have lc := hmk1.leadc ha
                    have HS2 := Lib.hid hmk1
                    clear hmk1
                    go_wp2
                    go_roundg (gk - 1)
                    case rel => exact ⟨mm + 1, leadsF l a, _, by omega, rfl, HS2, HW2⟩
                    case measure => omega
                  · have hb0 : (ev == 0) = false := by rw [beq_eq_false_iff_ne]; exact h0v
                    clear hmk1
                    by_cases hne : ev = (i : Int) + 1
                    · have hb1 : (ev != (i : Int) + 1) = false := by rw [hne]; simp
                      obtain ⟨s, HCY⟩ : ∃ s, Hid (Cyc (leadsF l) a (s + 1)) := (wk_on HW.out hlt HMK.out HWK.out (by rw [HEV.out]; exact hne)).2
                      have hnc : ∃ b, leadsF l a = some b := by
                        obtain ⟨b, hb⟩ := cyc_all HCY.out 1
                        exact ⟨b, by simpa [it] using hb⟩
                      obtain ⟨b1, hb1'⟩ := hnc
                      have lc : wr.cell? ⟨gl, a, none⟩ = some (.int .i64 (b1 : Int)) := by
                        have := HSE.out.leadc ha
                        rw [hb1'] at this; exact this
                      have HB1 : Hid (it (leadsF l) a (0 + 1) = some b1) := by show _ = _; rw [it, it]; exact hb1'
                      clear hb1'
                      obtain ⟨wn, rfl⟩ : ∃ W : World, W = wr := ⟨_, rfl⟩
                      go_wp2_with fail
                      go_loopg [17, 18] (s + 1) (fun g lv kv wq => ∃ (j b : Nat), j + g = s + 1 ∧ lv = .int .i64 (leastTo (leadsF l) a j) ∧ kv = .int .i64 b ∧ Hid (it (leadsF l) a (j + 1) = some b) ∧ j ≤ s ∧ wq = wn)
                      case atStart => exact ⟨0, b1, by omega, rfl, rfl, HB1, Nat.zero_le _, rfl⟩
                      case round =>
                        obtain ⟨j, b2, hg2, rfl, rfl, HIT, hj, rfl⟩ := hrel
                        have hb2 : b2 < l.length := it_lt HW.out ha HIT.out
                        clear lc
                        by_cases hba : b2 = a
                        · subst hba
                          have hje : j = s := by
                            rcases Nat.lt_or_ge j s with h' | h'
                            · exact absurd HIT.out (HCY.out.min (j + 1) (by omega) (by omega))
                            · omega
                          subst hje
                          obtain ⟨c0, p, hc0, ⟨q, hq⟩, hcp, hring⟩ := least_ring HCY.out
                          have hc0l : c0 < l.length := it_lt HW.out ha hq
                          have HRING := Lib.hid hring
                          have HCP := Lib.hid hcp
                          have HNEW : Hid (R c0 = none) := wk_new HW.out hlt HMK.out HWK.out (by rw [HEV.out]; exact hne) ⟨q, hq⟩
                          have HMK2 : Hid (Mk (leadsF l) l.length (i + 1) E (fun x => if x = c0 then some (vals (leadsF l) c0 p) else R x)) := wk_ring HW.out hlt HMK.out HWK.out (by rw [HEV.out]; exact hne) hring ⟨q, hq⟩
                          rw [hc0]
                          obtain ⟨sc, hsc⟩ : ∃ x, (l.getD c0 as0).ser = x := ⟨_, rfl⟩
                          have hbw := HSE.out.below
                          have cs : wr.cell? ⟨b, o + c0 * 7 + 2, none⟩ = some (.int .i64 sc) := by
                            rw [← hsc]; exact ((hL.out c0 hc0l).below hbw hb).c2
                          have HSC := Lib.hid hsc
                          have hneq : ((b2 : Int) != (b2 : Int)) = false := by simp
                          obtain ⟨d1, hd1⟩ : ∃ x, leadsF l c0 = some x := by
                            obtain ⟨x, hx⟩ := cyc_all hcp 1
                            exact ⟨x, by simpa [it] using hx⟩
                          have HD1 : Hid (it (leadsF l) c0 (0 + 1) = some d1) := by show _ = _; rw [it, it]; exact hd1
                          have hSG := HSE.out.grow ((Below.refl wr.heap.size wr).alloc (Nat.le_refl _) (.cells #[.int .i64 sc] 3))
                          obtain ⟨ob, hput, hMp⟩ := putI hSG.map (c0 : Int) ⟨some ⟨wr.heap.size, 0, none⟩, 1, 1⟩
                          have hOwn : Ints (gm + 1 + 1) (SV.val ⟨some ⟨wr.heap.size, 0, none⟩, 1, 1⟩) (sers l (vals (leadsF l) c0 (0 + 1))) (wr.alloc (.cells #[.int .i64 sc] 3)) := by
                            have h1 := own_new i64E sc 3 wr
                            have e : sers l (vals (leadsF l) c0 (0 + 1)) = [sc] := by rw [← hsc]; rfl
                            rw [e]; exact h1.base (by have := HSE.out.order; omega)
                          have HP : Hid (St w l gl gm (gm + 1) E (setI m c0 ⟨some ⟨wr.heap.size, 0, none⟩, 1, 1⟩) (fun x => if x = c0 then some (vals (leadsF l) c0 (0 + 1)) else R x) (setB (wr.alloc (.cells #[.int .i64 sc] 3)) gm ob)) := by
                            refine hSG.put hMp hOwn fun x t hxc ht g hg e => ?_
                            have hRx : ∃ k', R x = some k' := by
                              cases hr : R x with
                              | some k' => exact ⟨k', rfl⟩
                              | none => rw [HSE.out.no x hr] at ht; cases ht
                            obtain ⟨k', hr⟩ := hRx
                            obtain ⟨t', h3, h4⟩ := HSE.out.yes x k' hr
                            rw [ht] at h3; cases h3
                            have h5 := (h4.lt hg).2
                            have h6 : wr.heap.size = g := Option.some.inj e
                            omega
                          have lc3 : (setB (wr.alloc (.cells #[.int .i64 sc] 3)) gm ob).cell? ⟨gl, c0, none⟩ = some (.int .i64 (d1 : Int)) := by
                            have := HP.out.leadc hc0l
                            rw [hd1] at this; exact this
                          clear hc0 hcp hring hsc hd1 hSG hMp hOwn hbw hq
                          go_wp2
                          go_loopg [19] p (fun g kv wq => ∃ (j d : Nat) (m2 : IM), j + g = p ∧ kv = .int .i64 d ∧ Hid (it (leadsF l) c0 (j + 1) = some d) ∧ j + 1 ≤ p ∧ Hid (St w l gl gm (gm + 1) E m2 (fun x => if x = c0 then some (vals (leadsF l) c0 (j + 1)) else R x) wq))
                          case atStart => exact ⟨0, d1, _, by omega, rfl, HD1, by have := HCP.out.pos; omega, HP⟩
                          case round =>
                            clear hput lc3 HP cs
                            obtain ⟨jj, d, m2, hg3, rfl, HIT3, hjp, HP⟩ := hrel
                            have hd : d < l.length := it_lt HW.out hc0l HIT3.out
                            by_cases hdc : d = c0
                            · subst hdc
                              have hje : jj + 1 = p := by
                                rcases Nat.lt_or_ge (jj + 1) p with h' | h'
                                · exact absurd HIT3.out (HCP.out.min (jj + 1) (by omega) h')
                                · omega
                              have hq3 : ((d : Int) != (d : Int)) = false := by simp
                              rw [hje] at HP
                              clear hje
                              go_wp2
                              go_roundw
                              case rel => exact ⟨i + 1, E, m2, _, by go_num, by omega, HP, HMK2⟩
                              case measure => simp [intOf]; omega
                            · have hjl : jj + 1 < p := by
                                rcases Nat.lt_or_ge (jj + 1) p with h' | h'
                                · exact h'
                                · exfalso
                                  have e : jj + 1 = p := by omega
                                  have := HCP.out.back
                                  rw [← e, HIT3.out] at this
                                  cases this; exact hdc rfl
                              have hq3 : ((d : Int) != (c0 : Int)) = true := by rw [bne_iff_ne]; omega
                              obtain ⟨d3, hd3⟩ : ∃ x, leadsF l d = some x := by
                                obtain ⟨x, hx⟩ := cyc_all HCP.out (jj + 1 + 1)
                                exact ⟨x, by rw [it_succ HIT3.out] at hx; exact hx⟩
                              have HIT4 : Hid (it (leadsF l) c0 (jj + 1 + 1) = some d3) := by
                                show _ = _
                                rw [it_succ HIT3.out]; exact hd3
                              obtain ⟨sd, hsd⟩ : ∃ x, (l.getD d as0).ser = x := ⟨_, rfl⟩
                              have hbw := HP.out.below
                              have cs : wr.cell? ⟨b, o + d * 7 + 2, none⟩ = some (.int .i64 sd) := by
                                rw [← hsd]; exact ((hL.out d hd).below hbw hb).c2
                              have HV : Hid (sers l (vals (leadsF l) c0 (jj + 1 + 1)) = sers l (vals (leadsF l) c0 (jj + 1)) ++ [sd]) := by
                                show _ = _
                                rw [vals_succ, HIT3.out, ← hsd]
                                simp [sers]
                              obtain ⟨sv, hsv, hsI⟩ := HP.out.yes c0 (vals (leadsF l) c0 (jj + 1)) (by simp)
                              obtain ⟨A5, cp5, e5⟩ := hsI.shape
                              obtain ⟨sa, sn, scp⟩ := sv
                              simp only [Value.slice.injEq] at e5
                              obtain ⟨rfl, e5, rfl⟩ := e5
                              have hvl : (sers l (vals (leadsF l) c0 (jj + 1))).length = jj + 1 := by simp [sers, vals]
                              rw [hvl] at e5
                              subst e5
                              obtain ⟨L5, hL5⟩ : ∃ L, L = sers l (vals (leadsF l) c0 (jj + 1)) := ⟨_, rfl⟩
                              rw [← hL5] at hsI hvl HV
                              have HL5 := Lib.hid hL5
                              have HSI := Lib.hid hsI
                              have HSV := Lib.hid hsv
                              have hlk : (Instr.lookup 81 (.map (some gm)) (.int .i64 (c0 : Int)) false).run Tryd.prog wr.drew = .ok (.slice sa (jj + 1) scp) wr.drew := by
                                have := lookI (HP.out.map.kept (w' := wr.drew) rfl) (c0 : Int)
                                rw [hsv] at this; exact this
                              have hlk2 : (Instr.lookup 81 (.map (some gm)) (.int .i64 (c0 : Int)) false).run Tryd.prog (wr.alloc (.cells #[.int .i64 sd] 3)).drew = .ok (.slice sa (jj + 1) scp) (wr.alloc (.cells #[.int .i64 sd] 3)).drew := by
                                have := lookI (w := (wr.alloc (.cells #[.int .i64 sd] 3)).drew) (HP.out.map.kept (heap_alloc_old wr (.cells #[.int .i64 sd] 3) HP.out.map.lt)) (c0 : Int)
                                rw [hsv] at this; exact this
                              have hgmw : gm + 1 < wr.heap.size := HP.out.order.2.2.2
                              have HP3 := Lib.hid (HP.out.kept3 (c := c0) (k := vals (leadsF l) c0 (jj + 1)) (by simp) hsv)
                              have hpl : p ≤ l.length := cyc_le HW.out hc0l HCP.out
                              have HD3 := Lib.hid hd3
                              clear hd3 hsd hbw hsI hsv hL5
                              go_wp2_with fail
                              go_region_law ((refine Rwo.step_append (E := i64E) (by rfl) _ _ _ (by rfl) 3 _ 8 Tryd.underlying45 infoInt (by rfl) (gm + 1 + 1) _ L5 wr HSI.out (by rfl) sd _ (by rfl) _ wr.heap.size (by rfl) (by rfl) (by omega) ⟨by omega, rfl⟩ ?_; intro g6 cp6 w6 hO6 hb6 hfar6 hsz6 hat6; have hM6 := HP.out.map.kept (hfar6 gm (by omega) (HP3.out gm (by omega))); obtain ⟨ob6, hput6, hMp6⟩ := putI hM6 (c0 : Int) ⟨some ⟨g6, 0, none⟩, jj + 1 + 1, cp6⟩))
                              all_goals
                                have hlen6 : L5.length + 1 = jj + 1 + 1 := by omega
                                have hO7 : Ints (gm + 1 + 1) (SV.val ⟨some ⟨g6, 0, none⟩, jj + 1 + 1, cp6⟩) (sers l (vals (leadsF l) c0 (jj + 1)) ++ [sd]) w6 := by rw [← HL5.out]; rw [hvl] at hO6; exact hO6
                                have hBW : Below (gm + 1 + 1) wr w6 := (((Below.refl (gm + 1 + 1) wr).alloc (by omega) (.cells #[.int .i64 sd] 3)).drew).trans hb6
                                have HEX := Lib.hid (St.extend (x := sd) (k2 := vals (leadsF l) c0 (jj + 1 + 1)) HP.out (by simp) HSV.out hO7 hBW hfar6 (fun g hg => by cases hg; exact hat6) hMp6 (by rw [HV.out, HL5.out]))
                                have HEX2 : Hid (St w l gl gm (gm + 1) E (setI m2 c0 ⟨some ⟨g6, 0, none⟩, jj + 1 + 1, cp6⟩) (fun x => if x = c0 then some (vals (leadsF l) c0 (jj + 1 + 1)) else R x) (setB w6 gm ob6)) :=
                                  HEX.out.congr fun x => by by_cases hx : x = c0 <;> simp [hx]
                                have lc4 : (setB w6 gm ob6).cell? ⟨gl, d, none⟩ = some (.int .i64 (d3 : Int)) := by
                                  have := HEX2.out.leadc hd
                                  rw [HD3.out] at this; exact this
                                clear hO6 hb6 hfar6 hat6 hM6 hMp6 hO7 hBW HEX hput6
                                go_wp2
                                go_roundg (gk - 1)
                                case rel => exact ⟨jj + 1, d3, _, by omega, rfl, HIT4, by omega, HEX2⟩
                                case measure => omega
                        · have hjs : j < s := by
                            rcases Nat.lt_or_ge j s with h' | h'
                            · exact h'
                            · exfalso
                              have e : j = s := by omega
                              subst e
                              have := HCY.out.back
                              rw [HIT.out] at this
                              cases this; exact hba rfl
                          have hq : ((b2 : Int) != (a : Int)) = true := by rw [bne_iff_ne]; omega
                          obtain ⟨b3, hb3⟩ : ∃ b, leadsF l b2 = some b := by
                            obtain ⟨b, hb⟩ := cyc_all HCY.out (j + 1 + 1)
                            exact ⟨b, by rw [it_succ HIT.out] at hb; exact hb⟩
                          have lc2 : wr.cell? ⟨gl, b2, none⟩ = some (.int .i64 (b3 : Int)) := by
                            have := HSE.out.leadc hb2
                            rw [hb3] at this; exact this
                          have HIT2 : Hid (it (leadsF l) a (j + 1 + 1) = some b3) := by
                            show _ = _
                            rw [it_succ HIT.out]; exact hb3
                          have HLE : Hid (leastTo (leadsF l) a (j + 1) = min (leastTo (leadsF l) a j) b2) := by
                            show _ = _
                            rw [leastTo, HIT.out]; rfl
                          clear hb3
                          obtain ⟨le, hle⟩ : ∃ x, leastTo (leadsF l) a j = x := ⟨_, rfl⟩
                          rw [hle] at HLE
                          rw [hle]
                          clear hle
                          by_cases hlb : (b2 : Int) < (le : Int)
                          · have HL2 : Hid (leastTo (leadsF l) a (j + 1) = b2) := by
                              show _ = _
                              rw [HLE.out]; omega
                            clear HLE
                            go_wp2
                            go_roundg (gk - 1)
                            case rel => exact ⟨j + 1, b3, by omega, by rw [HL2.out], rfl, HIT2, by omega, rfl⟩
                            case measure => omega
                          · have HL2 : Hid (leastTo (leadsF l) a (j + 1) = le) := by
                              show _ = _
                              rw [HLE.out]; omega
                            clear HLE
                            go_wp2
                            go_roundg (gk - 1)
                            case rel => exact ⟨j + 1, b3, by omega, by rw [HL2.out], rfl, HIT2, by omega, rfl⟩
                            case measure => omega
                    · have hb1 : (ev != (i : Int) + 1) = true := by rw [bne_iff_ne]; exact hne
                      have HX : Hid (Mk (leadsF l) l.length (i + 1) E R) := wk_old HW.out hlt HMK.out HWK.out (by rw [HEV.out]; exact h0v) (by rw [HEV.out]; exact hne)
                      go_wp2
                      go_roundw
                      case rel => exact ⟨i + 1, E, m, R, by go_num, by omega, HSE, HX⟩
                      case measure => simp [intOf]; omega
            · have hie : i = l.length := by omega
              subst hie
              clear hlt hi
              obtain ⟨Wc, rfl⟩ : ∃ W : World, W = wr := ⟨_, rfl⟩
              have HALL : Hid (∀ a, a < l.length → R a = ringAt (leadsF l) a) := fun a ha => mark_all HMK.out.mark ⟨ha, HMK.out.all a ha⟩
              go_wp2
              go_loopw [20, 175] (fun v iv wq => ∃ (i : Nat) (vs : List SV), iv = .int .i64 i ∧ i ≤ l.length ∧ Hid (RowsI w.heap.size v (out l i) vs wq) ∧ Hid (St w l gl gm (gm + 1) D m R wq) ∧ Hid (∀ j, j < vs.length → ∃ a, a < i ∧ findI m (a : Nat) = some (vs.getD j sv0))) (fun _ iv _ => l.length - (intOf iv).toNat)
              case atStart => exact ⟨0, [], rfl, Nat.zero_le _, RowsI.nil _ _, HS.out, fun j hj => absurd hj (by simp)⟩
              case round =>
                clear HS
                obtain ⟨i, vs, rfl, hi, HRW, HS, HF⟩ := hrel
                obtain ⟨A2, cp2, rfl⟩ := HRW.out.out.shape
                have hbw := HS.out.below
                have hsz := hbw.size
                by_cases hlt : i < l.length
                · have hR := HALL.out i hlt
                  have hlk := lookI HS.out.map (i : Int)
                  cases hr : R i with
                  | none =>
                    have HX : Hid (out l (i + 1) = out l i) := out_none (by rw [← hR]; exact hr)
                    rw [HS.out.no i hr] at hlk
                    simp only [Option.getD_none, sv0] at hlk
                    have HF2 : Hid (∀ j, j < vs.length → ∃ a, a < i + 1 ∧ findI m (a : Nat) = some (vs.getD j sv0)) := fun j hj => by
                      obtain ⟨a, h1, h2⟩ := HF.out j hj
                      exact ⟨a, by omega, h2⟩
                    have hnq : ∀ W, (binOp .neq 45 (.slice none 0 0) (.slice none 0 0)).run Tryd.prog W = .ok (.bool false) W := fun _ => by kernel_rfl
                    clear hr hR
                    go_wp2
                    go_roundw
                    case rel => exact ⟨i + 1, vs, by go_num, by omega, by rw [HX.out]; exact HRW, HS, HF2⟩
                    case measure => simp [intOf]; omega
                  | some k =>
                    have HX : Hid (out l (i + 1) = out l i ++ [sers l k]) := out_some (by rw [← hR]; exact hr)
                    obtain ⟨sv, hsv, hsI⟩ := HS.out.yes i k hr
                    rw [hsv] at hlk
                    simp only [Option.getD_some] at hlk
                    have hkne : sers l k ≠ [] := by
                      have h1 := ringAt_some.1 (by rw [← hR]; exact hr)
                      obtain ⟨p, hp, _, e⟩ := h1.ex
                      intro e2
                      have := congrArg List.length e2
                      rw [e] at this
                      simp [sers, vals] at this
                      have := hp.pos; omega
                    obtain ⟨g5, cp5, e5, hg5, hg6⟩ := shape_some hsI hkne
                    obtain ⟨sa, sn, scp⟩ := sv
                    simp only [Value.slice.injEq] at e5
                    obtain ⟨rfl, rfl, rfl⟩ := e5
                    obtain ⟨n5, hn5⟩ : ∃ n, (sers l k).length = n := ⟨_, rfl⟩
                    rw [hn5] at hsI hsv hlk
                    have hvs : vs.length ≤ i := by rw [HRW.out.len]; exact out_length l i
                    have HAP : Hid (∀ j, j < vs.length → ∀ b, (vs.getD j sv0).val.ownBlock = some b → (SV.val ⟨some ⟨g5, 0, none⟩, n5, scp⟩).ownBlock ≠ some b) := fun j hj b' hb' => by
                      obtain ⟨a, h1, h2⟩ := HF.out j hj
                      exact HS.out.apart a i _ _ (by omega) h2 hsv b' hb'
                    have HF2 : Hid (∀ j, j < (vs ++ ([⟨some ⟨g5, 0, none⟩, n5, scp⟩] : List SV)).length → ∃ a, a < i + 1 ∧ findI m (a : Nat) = some ((vs ++ ([⟨some ⟨g5, 0, none⟩, n5, scp⟩] : List SV)).getD j sv0)) := fun j hj => by
                      rw [getD_snoc]
                      by_cases hjl : j < vs.length
                      · obtain ⟨a, h1, h2⟩ := HF.out j hjl
                        exact ⟨a, by omega, by rw [if_pos hjl]; exact h2⟩
                      · have : j = vs.length := by simp at hj; omega
                        exact ⟨i, by omega, by rw [if_neg hjl, if_pos this]; exact hsv⟩
                    have hnq : ∀ W, (binOp .neq 45 (.slice (some ⟨g5, 0, none⟩) n5 scp) (.slice none 0 0)).run Tryd.prog W = .ok (.bool true) W := fun _ => by kernel_rfl
                    have HSI := Lib.hid (hsI.base (B' := w.heap.size) (by have := HS.out.order; omega))
                    have HOUT := Lib.hid HRW.out.out
                    clear hr hR hsI hsv hkne hn5
                    go_wp2_with (at_builtin; refine wpList_append (E := slE) (by rfl) _ _ _ (by rfl) 45 _ 24 Tryd.underlying42 infoInts (by rfl) w.heap.size _ vs wr HOUT.out (by rfl) ⟨some ⟨g5, 0, none⟩, n5, scp⟩ _ (by rfl) _ wr.heap.size (by rfl) (by rfl) (by omega) ⟨by omega, rfl⟩ ?_; intro g7 cp7 w7 hO7 hb7 hfar7 hsz7 hat7)
                    have HP7 : Hid (RowsI w.heap.size (.slice (some ⟨g7, 0, none⟩) (vs.length + 1) cp7) (out l (i + 1)) (vs ++ ([⟨some ⟨g5, 0, none⟩, n5, scp⟩] : List SV)) w7) := by
                      rw [HX.out]
                      exact RowsI.push (B2 := 0) HRW.out HSI.out HAP.out hO7 hfar7
                    have HS7 : Hid (St w l gl gm (gm + 1) D m R w7) := HS.out.rows HOUT.out hfar7 (((Below.refl _ wr).alloc hsz (.cells #[.slice (some ⟨g5, 0, none⟩) n5 scp] 45)).trans hb7)
                    clear hO7 hb7 hfar7
                    go_wp2
                    go_roundw
                    case rel => exact ⟨i + 1, _, by go_num, by omega, HP7, HS7, HF2⟩
                    case measure => simp [intOf]; omega
                · have hie : i = l.length := by omega
                  subst hie
                  go_wp2
                  try rw [Exit.noGoto_ret]
                  go_ret
                  exact ⟨_, vs, rfl, HRW.out, hbw⟩
end Go.Proofs.YtclcbiiijoeplaaDoor.Rgw
