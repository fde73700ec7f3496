/- drowseref02.Quote: for every text of at most 2^45 bytes it answers the text in quotes. -/
import Derived.Test.YtjmgfhbadnechaaDoorApp
import Derived.Test.YtjmgfhbadnechaaDoorQuo
set_option linter.unusedVariables false
namespace Go.Proofs.YtjmgfhbadnechaaDoor.Rqu
open Go.RowKit Quo App

theorem rel (l : List UInt8) (c : UInt8) (e : List UInt8) (h : Plw.esc c = e) : [34] ++ Plw.escs (l ++ [c]) = ([34] ++ Plw.escs l) ++ e := by
  rw [Plw.escs_snoc, h, List.append_assoc]
theorem room (s : ByteArray) (k : Nat) (hs : s.size ≤ 35184372088832) : ([34] ++ Plw.escs (s.data.toList.take k)).length + 4 ≤ 140737488355328 := by
  have := Quo.room s k hs
  rwa [Lib.byteCells_length] at this

set_option maxHeartbeats 4000000 in
set_option maxRecDepth 100000 in
theorem quote_any (s : ByteArray) (w : World) (hs : s.size ≤ 35184372088832) :
    Calls Tryd.prog 43 #[.string s] w fun e w' => e = .returned (.string ⟨(Plw.quote s.data.toList).toArray⟩) ∧ Below w.heap.size w w' := by
  go_enter Tryd.func43, Tryd.ntmps43
  have hI0 : Own w.heap.size (.slice (some ⟨w.heap.size, 0, none⟩) 1 1) [34] (w.alloc (.cells #[.int .u8 34] 5)) := Own.made w.heap.size [34] w _ rfl (Nat.le_refl _) (by unfold maxLen; simp)
  go_wp2
  go_loopw [3, 4] (fun v i wr => ∃ (k : Nat), k ≤ s.size ∧ i = .int .i64 k ∧ Own w.heap.size v ([34] ++ Plw.escs (s.data.toList.take k)) wr ∧ Below w.heap.size w wr) (fun _ i _ => s.size - (intOf i).toNat)
  case atStart => exact ⟨0, Nat.zero_le _, rfl, by simpa [Plw.escs_nil] using hI0, (Below.refl _ w).alloc (Nat.le_refl _) _⟩
  case round =>
    obtain ⟨k, hk, rfl, hI, hbw⟩ := hrel
    clear hI0
    have hroom := room s k hs
    have hsz := hbw.size
    by_cases hlt : k < s.size
    · have hT := Lib.hid (take_snoc s k hlt)
      obtain ⟨A1, c1, rfl⟩ := hI.shape
      cases h92 : ((s[k].toNat : Int) == 92) with
      | true =>
        have hR := Lib.hid (rel (s.data.toList.take k) s[k] [92, s[k]] (esc_92 h92))
        go_wp2_with (at_builtin; refine wpList_app rfl _ _ rfl w.heap.size _ _ wr hI rfl [92, s[k]] _ rfl _ _ rfl rfl (by simp only [List.length_cons, List.length_nil]; omega) hsz ?_; intro v2 w2 hI2 hb2)
        obtain ⟨A2, c2, rfl⟩ := hI2.shape
        go_wp2
        go_roundw
        case rel => exact ⟨k + 1, by omega, by go_num, by rw [hT.out, hR.out]; exact hI2, hbw.trans hb2⟩
        case measure => simp [intOf]; omega
      | false =>
        cases h34 : ((s[k].toNat : Int) == 34) with
        | true =>
          have hR := Lib.hid (rel (s.data.toList.take k) s[k] [92, s[k]] (esc_34 h34))
          go_wp2_with (at_builtin; refine wpList_app rfl _ _ rfl w.heap.size _ _ wr hI rfl [92, s[k]] _ rfl _ _ rfl rfl (by simp only [List.length_cons, List.length_nil]; omega) hsz ?_; intro v2 w2 hI2 hb2)
          obtain ⟨A2, c2, rfl⟩ := hI2.shape
          go_wp2
          go_roundw
          case rel => exact ⟨k + 1, by omega, by go_num, by rw [hT.out, hR.out]; exact hI2, hbw.trans hb2⟩
          case measure => simp [intOf]; omega
        | false =>
          cases h10 : ((s[k].toNat : Int) == 10) with
          | true =>
            have hR := Lib.hid (rel (s.data.toList.take k) s[k] [92, 110] (esc_10 h10))
            go_wp2_with (at_builtin; refine wpList_app rfl _ _ rfl w.heap.size _ _ wr hI rfl [92, 110] _ rfl _ _ rfl rfl (by simp only [List.length_cons, List.length_nil]; omega) hsz ?_; intro v2 w2 hI2 hb2)
            obtain ⟨A2, c2, rfl⟩ := hI2.shape
            go_wp2
            go_roundw
            case rel => exact ⟨k + 1, by omega, by go_num, by rw [hT.out, hR.out]; exact hI2, hbw.trans hb2⟩
            case measure => simp [intOf]; omega
          | false =>
            cases h9 : ((s[k].toNat : Int) == 9) with
            | true =>
              have hR := Lib.hid (rel (s.data.toList.take k) s[k] [92, 116] (esc_9 h9))
              go_wp2_with (at_builtin; refine wpList_app rfl _ _ rfl w.heap.size _ _ wr hI rfl [92, 116] _ rfl _ _ rfl rfl (by simp only [List.length_cons, List.length_nil]; omega) hsz ?_; intro v2 w2 hI2 hb2)
              obtain ⟨A2, c2, rfl⟩ := hI2.shape
              go_wp2
              go_roundw
              case rel => exact ⟨k + 1, by omega, by go_num, by rw [hT.out, hR.out]; exact hI2, hbw.trans hb2⟩
              case measure => simp [intOf]; omega
            | false =>
              have hR := Lib.hid (rel (s.data.toList.take k) s[k] [s[k]] (esc_self h10 h9 h34 h92))
              go_wp2_with (at_builtin; refine wpList_app rfl _ _ rfl w.heap.size _ _ wr hI rfl [s[k]] _ rfl _ _ rfl rfl (by simp only [List.length_cons, List.length_nil]; omega) hsz ?_; intro v2 w2 hI2 hb2)
              obtain ⟨A2, c2, rfl⟩ := hI2.shape
              go_wp2
              go_roundw
              case rel => exact ⟨k + 1, by omega, by go_num, by rw [hT.out, hR.out]; exact hI2, hbw.trans hb2⟩
              case measure => simp [intOf]; omega
    · have hE : Hid (([34] ++ Plw.escs (s.data.toList.take k)) ++ [34] = Plw.quote s.data.toList) := by
        show _ = _
        rw [List.take_of_length_le (by show s.size ≤ k; omega)]
        rfl
      obtain ⟨A1, c1, rfl⟩ := hI.shape
      go_wp2_with (at_builtin; refine wpList_app rfl _ _ rfl w.heap.size _ _ wr hI rfl [34] _ rfl _ _ rfl rfl (by simp only [List.length_cons, List.length_nil]; omega) hsz ?_; intro v2 w2 hI2 hb2; have hS := run_string _ _ _ _ hI2; rw [hE.out] at hS)
      go_wp2
      go_ret
      exact ⟨rfl, hbw.trans hb2⟩
end Go.Proofs.YtjmgfhbadnechaaDoor.Rqu
