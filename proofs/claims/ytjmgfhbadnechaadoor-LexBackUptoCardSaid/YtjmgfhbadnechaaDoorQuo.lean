/- words.Quote: for every text of at most 2^45 bytes it answers the text in quotes. -/
import Derived.Test.YtjmgfhbadnechaaDoorBld
import Derived.Test.YtjmgfhbadnechaaDoorPlw
import Derived.Test.YtjmgfhbadnechaaDoorShelf
import Derived.WalkKit
import Derived.Outline
import Derived.Lib.Hide
set_option linter.unusedVariables false
namespace Go.Proofs.YtjmgfhbadnechaaDoor.Quo
open Go.RowKit

theorem byte_is {c : UInt8} {n : Nat} (hn : n < 256) (h : ((c.toNat : Int) == (n : Int)) = true) : c = UInt8.ofNat n := by
  have h1 : (c.toNat : Int) = n := by simpa using h
  apply UInt8.toNat_inj.mp
  rw [UInt8.toNat_ofNat']
  omega
theorem byte_not {c : UInt8} {n : Nat} (hn : n < 256) (h : ((c.toNat : Int) == (n : Int)) = false) : c ≠ UInt8.ofNat n := by
  rintro rfl
  rw [UInt8.toNat_ofNat'] at h
  simp at h
  omega
theorem take_snoc (s : ByteArray) (k : Nat) (h : k < s.size) : s.data.toList.take (k + 1) = s.data.toList.take k ++ [s[k]] := by
  rw [List.take_succ_eq_append_getElem (by simpa using h)]; rfl
theorem rel {l e : List UInt8} {c : UInt8} (h : Plw.esc c = e) : Lib.byteCells ([34] ++ Plw.escs (l ++ [c])) = Lib.byteCells ([34] ++ Plw.escs l) ++ Lib.byteCells e := by
  rw [Plw.escs_snoc, h, ← List.append_assoc, Lib.byteCells_append]
theorem esc_10 {c : UInt8} (h : ((c.toNat : Int) == 10) = true) : Plw.esc c = [92, 110] := by
  obtain rfl := byte_is (n := 10) (by omega) h; rfl
theorem esc_9 {c : UInt8} (h : ((c.toNat : Int) == 9) = true) : Plw.esc c = [92, 116] := by
  obtain rfl := byte_is (n := 9) (by omega) h; rfl
theorem esc_34 {c : UInt8} (h : ((c.toNat : Int) == 34) = true) : Plw.esc c = [92, c] := by
  obtain rfl := byte_is (n := 34) (by omega) h; rfl
theorem esc_92 {c : UInt8} (h : ((c.toNat : Int) == 92) = true) : Plw.esc c = [92, c] := by
  obtain rfl := byte_is (n := 92) (by omega) h; rfl
theorem esc_self {c : UInt8} (h1 : ((c.toNat : Int) == 10) = false) (h2 : ((c.toNat : Int) == 9) = false) (h3 : ((c.toNat : Int) == 34) = false) (h4 : ((c.toNat : Int) == 92) = false) : Plw.esc c = [c] := by
  have e1 : c ≠ 10 := byte_not (n := 10) (by omega) h1
  have e2 : c ≠ 9 := byte_not (n := 9) (by omega) h2
  have e3 : c ≠ 34 := byte_not (n := 34) (by omega) h3
  have e4 : c ≠ 92 := byte_not (n := 92) (by omega) h4
  unfold Plw.esc
  rw [if_neg e1, if_neg e2, if_neg e3, if_neg e4]
/-- The builder's cells have room for more. -/
theorem room (s : ByteArray) (k : Nat) (hs : s.size ≤ 35184372088832) : (Lib.byteCells ([34] ++ Plw.escs (s.data.toList.take k))).length + 4 ≤ 140737488355328 := by
  rw [Lib.byteCells_length]
  have h := Plw.escs_le (s.data.toList.take k)
  have h2 : (s.data.toList.take k).length ≤ s.data.toList.length := by rw [List.length_take]; omega
  have h3 : s.data.toList.length = s.size := rfl
  simp only [List.length_append, List.length_cons, List.length_nil]
  omega

set_option maxHeartbeats 4000000 in
set_option maxRecDepth 100000 in
theorem quote_any (s : ByteArray) (w : World) (hs : s.size ≤ 35184372088832) :
    Calls Tryd.prog 36 #[.string s] w fun e w' => e = .returned (.string ⟨(Plw.quote s.data.toList).toArray⟩) ∧ Below w.heap.size w w' := by
  go_enter Tryd.func36, Tryd.ntmps36
  have hI0 := Lib.IsBuilderF.of (Lib.fresh_isBuilder 73 5 w)
  go_wp2_with (go_at_call 61; refine (Bld.writeByte w.heap.size w.heap.size _ _ _ hI0 (by simp) (by simp)).mono ?_)
  rintro e w1 ⟨rfl, hI1, hb1, _⟩
  go_wp2
  go_loopw [9] (fun i wr => ∃ (k : Nat), k ≤ s.size ∧ i = .int .i64 k ∧ Bld.Is w.heap.size w.heap.size (Lib.byteCells ([34] ++ Plw.escs (s.data.toList.take k))) wr ∧ Below w.heap.size w wr) (fun i _ => s.size - (intOf i).toNat)
  case atStart =>
    refine ⟨0, Nat.zero_le _, rfl, ?_, ?_⟩
    · simpa [Plw.escs_nil, Lib.byteCells] using hI1
    · exact ((Below.refl _ w).alloc (Nat.le_refl _) _).trans hb1
  case round =>
    obtain ⟨k, hk, rfl, hI, hbw⟩ := hrel
    clear hI0 hI1 hb1
    have hroom := room s k hs
    have hsz := hbw.size
    by_cases hlt : k < s.size
    · go_wp2_with fail
      · have hesc : Plw.esc s[k] = [92, 110] := esc_10 (by assumption)
        have hR := Lib.hid (rel (l := s.data.toList.take k) hesc)
        have hT := Lib.hid (take_snoc s k hlt)
        clear hesc
        refine (Bld.writeString w.heap.size w.heap.size _ _ _ hI (by change _ + 2 ≤ _; omega) hsz).mono ?_
        rintro e w2 ⟨rfl, hI2, hb2, _⟩
        go_wp2
        go_roundw
        case rel => exact ⟨k + 1, by omega, by go_num, by rw [hT.out, hR.out]; exact hI2, hbw.trans hb2⟩
        case measure => simp [intOf]; omega
      · have hesc : Plw.esc s[k] = [92, 116] := esc_9 (by assumption)
        have hR := Lib.hid (rel (l := s.data.toList.take k) hesc)
        have hT := Lib.hid (take_snoc s k hlt)
        clear hesc
        refine (Bld.writeString w.heap.size w.heap.size _ _ _ hI (by change _ + 2 ≤ _; omega) hsz).mono ?_
        rintro e w2 ⟨rfl, hI2, hb2, _⟩
        go_wp2
        go_roundw
        case rel => exact ⟨k + 1, by omega, by go_num, by rw [hT.out, hR.out]; exact hI2, hbw.trans hb2⟩
        case measure => simp [intOf]; omega
      · have hesc : Plw.esc s[k] = [92, s[k]] := esc_34 (by assumption)
        have hR := Lib.hid (rel (l := s.data.toList.take k) hesc)
        have hT := Lib.hid (take_snoc s k hlt)
        clear hesc
        refine (Bld.writeByte w.heap.size w.heap.size _ _ _ hI (by omega) hsz).mono ?_
        rintro e w2 ⟨rfl, hI2, hb2, _⟩
        go_wp2_with fail
        refine (Bld.writeByte w.heap.size w.heap.size _ _ _ hI2 (by simp only [List.length_append, List.length_cons, List.length_nil]; omega) (by have := hb2.size; omega)).mono ?_
        rintro e w3 ⟨rfl, hI3, hb3, _⟩
        go_wp2
        go_roundw
        case rel => exact ⟨k + 1, by omega, by go_num, by rw [hT.out, hR.out]; simpa [Lib.byteCells] using hI3, (hbw.trans hb2).trans hb3⟩
        case measure => simp [intOf]; omega
      · have hesc : Plw.esc s[k] = [92, s[k]] := esc_92 (by assumption)
        have hR := Lib.hid (rel (l := s.data.toList.take k) hesc)
        have hT := Lib.hid (take_snoc s k hlt)
        clear hesc
        refine (Bld.writeByte w.heap.size w.heap.size _ _ _ hI (by omega) hsz).mono ?_
        rintro e w2 ⟨rfl, hI2, hb2, _⟩
        go_wp2_with fail
        refine (Bld.writeByte w.heap.size w.heap.size _ _ _ hI2 (by simp only [List.length_append, List.length_cons, List.length_nil]; omega) (by have := hb2.size; omega)).mono ?_
        rintro e w3 ⟨rfl, hI3, hb3, _⟩
        go_wp2
        go_roundw
        case rel => exact ⟨k + 1, by omega, by go_num, by rw [hT.out, hR.out]; simpa [Lib.byteCells] using hI3, (hbw.trans hb2).trans hb3⟩
        case measure => simp [intOf]; omega
      · have hesc : Plw.esc s[k] = [s[k]] := esc_self (by assumption) (by assumption) (by assumption) (by assumption)
        have hR := Lib.hid (rel (l := s.data.toList.take k) hesc)
        have hT := Lib.hid (take_snoc s k hlt)
        clear hesc
        refine (Bld.writeByte w.heap.size w.heap.size _ _ _ hI (by omega) hsz).mono ?_
        rintro e w2 ⟨rfl, hI2, hb2, _⟩
        go_wp2
        go_roundw
        case rel => exact ⟨k + 1, by omega, by go_num, by rw [hT.out, hR.out]; exact hI2, hbw.trans hb2⟩
        case measure => simp [intOf]; omega
    · go_wp2_with fail
      refine (Bld.writeByte w.heap.size w.heap.size _ _ _ hI (by omega) hsz).mono ?_
      rintro e w2 ⟨rfl, hI2, hb2, _⟩
      go_wp2_with fail
      have hE : Lib.byteCells ([34] ++ Plw.escs (s.data.toList.take k)) ++ [Value.int .u8 34] = Lib.byteCells (Plw.quote s.data.toList) := by
        rw [List.take_of_length_le (by show s.size ≤ k; omega)]
        simp [Lib.byteCells, Plw.quote]
      rw [hE] at hI2
      refine (Tryd.Builder_String_any_k w.heap.size w.heap.size _ _ hI2 (by have := hb2.size; omega)).mono ?_
      rintro e w3 ⟨rfl, _, hb3, _⟩
      clear hE
      go_wp2
      go_ret
      exact ⟨rfl, (hbw.trans hb2).trans hb3⟩
end Go.Proofs.YtjmgfhbadnechaaDoor.Quo
