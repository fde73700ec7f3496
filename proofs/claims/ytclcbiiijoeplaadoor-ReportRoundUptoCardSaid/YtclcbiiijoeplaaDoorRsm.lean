/- drowseref21.leads. -/
import Derived.Test.YtclcbiiijoeplaaDoorRsl
import Derived.Test.YtclcbiiijoeplaaDoorDrw
import Derived.Test.YtclcbiiijoeplaaDoorRln
import Derived.Deep.QuietTactic
import Derived.BigQuiet
import Derived.Lib.Builder
set_option linter.unusedVariables false
namespace Go.Proofs.YtclcbiiijoeplaaDoor.Rsm
open Go.RowKit Go.Sort Rwo Rcy Rsl

def Post (r : Option Nat) (w : World) (e : Ending) (w' : World) : Prop := e = .returned (.int .i64 (oi r)) ∧ Below w.heap.size w w'
set_option maxHeartbeats 4000000 in
set_option maxRecDepth 100000 in
theorem leads_any (b o c : Nat) (l : List As) (i : Nat) (w : World) (hl : l.length ≤ 1048576) (hL : Hid (Ass w b o l)) (hb : b < w.heap.size) (hi : i < l.length) :
    Calls Tryd.prog 29 #[.slice (some ⟨b, o, none⟩) l.length c, .int .i64 i] w (Post (leadsF l i) w) := by
  obtain ⟨t, ht⟩ : ∃ t, l.getD i as0 = t := ⟨_, rfl⟩
  have hat := hL.out i hi
  rw [ht] at hat
  have HF := Lib.hid (leads_at hi ht)
  have HT := Lib.hid ht
  clear ht
  obtain ⟨ws, wg, ser, on, ra, rn, rc, hs, hg⟩ := t
  obtain ⟨c0, c1, c2, c3, c4, c5, c6⟩ := hat
  dsimp only at c0 c1 c2 c3 c4 c5 c6
  dsimp only at HF
  have hcase : (on ≠ 7 ∧ (on == 7) = false ∧ (on != 7) = true) ∨ (on = 7 ∧ hs = 0 ∧ hg = 0) ∨ (on = 7 ∧ ¬ hs = 0 ∧ (hs == 0) = false) ∨ (on = 7 ∧ (hs == 0) = true ∧ ¬ hg = 0 ∧ (hg == 0) = false) := by
    by_cases h1 : on = 7
    · by_cases h2 : hs = 0
      · by_cases h3 : hg = 0
        · exact .inr (.inl ⟨h1, h2, h3⟩)
        · exact .inr (.inr (.inr ⟨h1, by simpa using h2, h3, by simpa using h3⟩))
      · exact .inr (.inr (.inl ⟨h1, h2, by simpa using h2⟩))
    · exact .inl ⟨h1, by simpa using h1, by simpa using h1⟩
  rcases hcase with ⟨h1, h1', h1''⟩ | ⟨h1, h2, h3⟩ | h | h
  · have HN : Hid (leadsF l i = none) := by
      show _ = _
      rw [HF.out, if_neg (fun h => h1 h.1)]
    go_enter Tryd.func29, Tryd.ntmps29
    go_wp2
    go_ret
    exact ⟨by rw [HN.out]; rfl, (Below.refl _ _).alloc (Nat.le_refl _) _⟩
  · have HN : Hid (leadsF l i = none) := by
      show _ = _
      rw [HF.out, if_neg (fun h => h.2.1 ⟨h2, h3⟩)]
    subst h1; subst h2; subst h3
    go_enter Tryd.func29, Tryd.ntmps29
    go_wp2
    go_ret
    exact ⟨by rw [HN.out]; rfl, (Below.refl _ _).alloc (Nat.le_refl _) _⟩
  all_goals
    have HF2 : Hid (leadsF l i = if firstOf l ws wg = some i then firstOf l hs hg else none) := by
      show _ = _
      rw [HF.out]
      by_cases hx : firstOf l ws wg = some i
      · rw [if_pos hx, if_pos ⟨h.1, fun hz => by first | exact h.2.1 hz.1 | exact h.2.2.1 hz.2, hx⟩]
      · rw [if_neg hx, if_neg (fun hz => hx hz.2.2)]
    clear HF
    have hon : on = 7 := h.1
    subst hon
    have hh := h.2
    clear h
    have HB0 : Hid (Below w.heap.size w (w.alloc (.cells #[.int .u32 hs, .int .u32 hg] 49))) := (Below.refl _ _).alloc (Nat.le_refl _) _
    have HX0 := Lib.hid (heap_alloc_new w (.cells #[.int .u32 hs, .int .u32 hg] 49))
    go_enter Tryd.func29, Tryd.ntmps29
    go_wp2
    obtain ⟨W0, hW0⟩ : ∃ W, W = w.alloc (.cells #[.int .u32 hs, .int .u32 hg] 49) := ⟨_, rfl⟩
    rw [← hW0] at HB0 HX0
    rw [← hW0]
    clear hW0 c0 c1 c2 c3 c4 c5 c6
    have cell : Hid (∀ j, j < l.length → AsAt W0 b (o + j * 7) (l.getD j as0)) := fun j hj => (hL.out j hj).below HB0.out hb
    have d0 : W0.cell? ⟨w.heap.size, 0, none⟩ = some (.int .u32 hs) := by rw [Lib.cell_of_heap HX0.out]; rfl
    have d1 : W0.cell? ⟨w.heap.size, 1, none⟩ = some (.int .u32 hg) := by rw [Lib.cell_of_heap HX0.out]; rfl
    have e0 : W0.cell? ⟨b, o + i * 7, none⟩ = some (.int .u32 ws) := by have := (cell.out i hi).c0; rw [HT.out] at this; exact this
    have e1 : W0.cell? ⟨b, o + i * 7 + 1, none⟩ = some (.int .u32 wg) := by have := (cell.out i hi).c1; rw [HT.out] at this; exact this
    go_loopw [6] (fun kv wr => ∃ k q : Nat, kv = .int .i64 k ∧ k ≤ i ∧ wr = W0.drewN q ∧ Hid (∀ j, j < k → isW (l.getD j as0) ws wg = false)) (fun kv _ => i - (intOf kv).toNat)
    case atStart => exact ⟨0, 0, rfl, Nat.zero_le _, rfl, fun j hj => absurd hj (by omega)⟩
    case round =>
      obtain ⟨k, q, rfl, hk, rfl, hN⟩ := hrel
      by_cases hlt : k < i
      · obtain ⟨u, hu⟩ : ∃ u, l.getD k as0 = u := ⟨_, rfl⟩
        have hau := cell.out k (by omega)
        rw [hu] at hau
        have HU := Lib.hid hu
        clear hu
        obtain ⟨us, ug, u3, u4, u5, u6, u7, u8, u9⟩ := u
        have a0 := hau.c0
        have a1 := hau.c1
        dsimp only at a0 a1
        clear hau
        by_cases hs1 : us = ws
        · by_cases hg1 : ug = wg
          · subst hs1; subst hg1
            have HN : Hid (leadsF l i = none) := by
              show _ = _
              have h1 : firstOf l us ug = some k := first_some (by omega) (by rw [HU.out]; simp [isW]) hN.out
              rw [HF2.out, if_neg (by rw [h1]; intro e; cases e; omega)]
            clear hN
            go_wp2_with fail
            go_quiet (fail)
            go_wp2
            go_ret
            exact ⟨by rw [HN.out]; rfl, by first | exact Rln.below_drewN_up HB0.out _ | (simp only [World.drewN_drewN]; exact Rln.below_drewN_up HB0.out _)⟩
          · have HN2 : Hid (∀ j, j < k + 1 → isW (l.getD j as0) ws wg = false) := by
              intro j hj
              by_cases e : j = k
              · rw [e, HU.out]; simp [isW, hg1]
              · exact hN.out j (by omega)
            subst hs1
            clear hN
            go_wp2_with fail
            go_quiet (fail)
            go_wp2
            go_roundw
            case rel => exact ⟨k + 1, _, by go_num, by omega, by first | rfl | exact World.drewN_drewN .., HN2⟩
            case measure => simp [intOf]; omega
        · have HN2 : Hid (∀ j, j < k + 1 → isW (l.getD j as0) ws wg = false) := by
            intro j hj
            by_cases e : j = k
            · rw [e, HU.out]; simp [isW, hs1]
            · exact hN.out j (by omega)
          clear hN
          go_wp2_with fail
          go_quiet (fail)
          go_wp2
          go_roundw
          case rel => exact ⟨k + 1, _, by go_num, by omega, by first | rfl | exact World.drewN_drewN .., HN2⟩
          case measure => simp [intOf]; omega
      · have hke : k = i := by omega
        subst hke
        have hfi : Hid (leadsF l k = firstOf l hs hg) := by
          show _ = _
          have h1 : firstOf l ws wg = some k := first_some hi (by rw [HT.out]; simp [isW]) hN.out
          rw [HF2.out, if_pos h1]
        clear hN hlt
        go_wp2
        go_loopw [7] (fun kv wr => ∃ k q : Nat, kv = .int .i64 k ∧ k ≤ l.length ∧ wr = W0.drewN q ∧ Hid (∀ j, j < k → isW (l.getD j as0) hs hg = false)) (fun kv _ => l.length - (intOf kv).toNat)
        case atStart => exact ⟨0, q, rfl, Nat.zero_le _, rfl, fun j hj => absurd hj (by omega)⟩
        case round =>
          obtain ⟨m, q2, rfl, hm, rfl, hN⟩ := hrel
          by_cases hlt : m < l.length
          · obtain ⟨u, hu⟩ : ∃ u, l.getD m as0 = u := ⟨_, rfl⟩
            have hau := cell.out m hlt
            rw [hu] at hau
            have HU := Lib.hid hu
            clear hu
            obtain ⟨us, ug, u3, u4, u5, u6, u7, u8, u9⟩ := u
            have a0 := hau.c0
            have a1 := hau.c1
            dsimp only at a0 a1
            clear hau
            by_cases hs1 : us = hs
            · by_cases hg1 : ug = hg
              · have HN : Hid (leadsF l k = some m) := by
                  show _ = _
                  rw [hfi.out]
                  exact first_some hlt (by rw [HU.out, hs1, hg1]; simp [isW]) hN.out
                subst hs1; subst hg1
                clear hN hfi
                go_wp2_with fail
                go_quiet (fail)
                go_wp2
                go_ret
                exact ⟨by rw [HN.out]; rfl, by first | exact Rln.below_drewN_up HB0.out _ | (simp only [World.drewN_drewN]; exact Rln.below_drewN_up HB0.out _)⟩
              · have HN2 : Hid (∀ j, j < m + 1 → isW (l.getD j as0) hs hg = false) := by
                  intro j hj
                  by_cases e : j = m
                  · rw [e, HU.out]; simp [isW, hg1]
                  · exact hN.out j (by omega)
                subst hs1
                clear hN
                go_wp2_with fail
                go_quiet (fail)
                go_wp2
                go_roundw
                case rel => exact ⟨m + 1, _, by go_num, by omega, by first | rfl | exact World.drewN_drewN .., HN2⟩
                case measure => simp [intOf]; omega
            · have HN2 : Hid (∀ j, j < m + 1 → isW (l.getD j as0) hs hg = false) := by
                intro j hj
                by_cases e : j = m
                · rw [e, HU.out]; simp [isW, hs1]
                · exact hN.out j (by omega)
              clear hN
              go_wp2_with fail
              go_quiet (fail)
              go_wp2
              go_roundw
              case rel => exact ⟨m + 1, _, by go_num, by omega, by first | rfl | exact World.drewN_drewN .., HN2⟩
              case measure => simp [intOf]; omega
          · have HN : Hid (leadsF l k = none) := by
              show _ = _
              rw [hfi.out]
              exact first_none fun j hj => hN.out j (by omega)
            clear hN hfi
            go_wp2
            go_ret
            exact ⟨by rw [HN.out]; rfl, Rln.below_drewN_up HB0.out _⟩
end Go.Proofs.YtclcbiiijoeplaaDoor.Rsm
