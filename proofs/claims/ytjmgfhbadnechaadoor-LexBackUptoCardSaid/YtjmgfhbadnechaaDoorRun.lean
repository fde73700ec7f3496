/- drowseref02.Unquote: for every text of at most 2^45 bytes it answers the text that it begins with, and where it ends. -/
import Derived.Test.YtjmgfhbadnechaaDoorApp
import Derived.Test.YtjmgfhbadnechaaDoorUnq
set_option linter.unusedVariables false
namespace Go.Proofs.YtjmgfhbadnechaaDoor.Run
open Go.RowKit Quo App Unq

def meantV (o : Option UInt8) : Value := match o with
  | some m => .tuple #[.int .u8 (m.toNat : Int), .bool true]
  | none => .tuple #[.int .u8 0, .bool false]

set_option maxHeartbeats 1000000 in
set_option maxRecDepth 100000 in
theorem meant_any (c : UInt8) (w : World) : Calls Tryd.prog 56 #[.int .u8 c.toNat] w fun e w' => e = .returned (meantV (Plw.meant c)) ∧ w = w' := by
  cases h92 : ((c.toNat : Int) == 92) with
  | true =>
    have e : c = 92 := byte_is (n := 92) (by omega) h92
    have HM : Hid (meantV (Plw.meant c) = .tuple #[.int .u8 (c.toNat : Int), .bool true]) := by rw [e]; rfl
    clear e
    go_enter Tryd.func56, Tryd.ntmps56
    go_wp2
    go_ret2
    exact ⟨by rw [HM.out]; rfl, rfl⟩
  | false =>
    cases h34 : ((c.toNat : Int) == 34) with
    | true =>
      have e : c = 34 := byte_is (n := 34) (by omega) h34
      have HM : Hid (meantV (Plw.meant c) = .tuple #[.int .u8 (c.toNat : Int), .bool true]) := by rw [e]; rfl
      clear e
      go_enter Tryd.func56, Tryd.ntmps56
      go_wp2
      go_ret2
      exact ⟨by rw [HM.out]; rfl, rfl⟩
    | false =>
      cases h110 : ((c.toNat : Int) == 110) with
      | true =>
        have e : c = 110 := byte_is (n := 110) (by omega) h110
        have HM : Hid (meantV (Plw.meant c) = .tuple #[.int .u8 10, .bool true]) := by rw [e]; rfl
        clear e
        go_enter Tryd.func56, Tryd.ntmps56
        go_wp2
        go_ret2
        exact ⟨by rw [HM.out]; rfl, rfl⟩
      | false =>
        cases h116 : ((c.toNat : Int) == 116) with
        | true =>
          have e : c = 116 := byte_is (n := 116) (by omega) h116
          have HM : Hid (meantV (Plw.meant c) = .tuple #[.int .u8 9, .bool true]) := by rw [e]; rfl
          clear e
          go_enter Tryd.func56, Tryd.ntmps56
          go_wp2
          go_ret2
          exact ⟨by rw [HM.out]; rfl, rfl⟩
        | false =>
          have e1 : c ≠ 92 := byte_not (n := 92) (by omega) h92
          have e2 : c ≠ 34 := byte_not (n := 34) (by omega) h34
          have e3 : c ≠ 110 := byte_not (n := 110) (by omega) h110
          have e4 : c ≠ 116 := byte_not (n := 116) (by omega) h116
          have HM : Hid (meantV (Plw.meant c) = .tuple #[.int .u8 0, .bool false]) := by
            show _ = _
            unfold Plw.meant
            rw [if_neg e1, if_neg e2, if_neg e3, if_neg e4]
            rfl
          clear e1 e2 e3 e4
          go_enter Tryd.func56, Tryd.ntmps56
          go_wp2
          go_ret2
          exact ⟨by rw [HM.out]; rfl, rfl⟩

theorem meant_some (c m : UInt8) (w : World) (h : Plw.meant c = some m) : Calls Tryd.prog 56 #[.int .u8 c.toNat] w fun e w' => e = .returned (.tuple #[.int .u8 (m.toNat : Int), .bool true]) ∧ w = w' :=
  (meant_any c w).mono fun _ _ ⟨h1, h2⟩ => ⟨by rw [h1, h]; rfl, h2⟩
theorem meant_none (c : UInt8) (w : World) (h : Plw.meant c = none) : Calls Tryd.prog 56 #[.int .u8 c.toNat] w fun e w' => e = .returned (.tuple #[.int .u8 0, .bool false]) ∧ w = w' :=
  (meant_any c w).mono fun _ _ ⟨h1, h2⟩ => ⟨by rw [h1, h]; rfl, h2⟩

theorem no_quote {l : List UInt8} (h : ∀ r, l ≠ 34 :: r) : Plw.unquote l = none := by
  cases l with
  | nil => rfl
  | cons c r =>
    have hc : c ≠ 34 := by rintro rfl; exact h r rfl
    simp [Plw.unquote, hc]
theorem cons_of (s : ByteArray) (h : 0 < s.size) : s.data.toList = s[0] :: s.data.toList.drop 1 := by
  have := drop_at s 0 h
  simpa using this

set_option maxHeartbeats 4000000 in
set_option maxRecDepth 100000 in
theorem unquote_any (s : ByteArray) (w : World) (hs : s.size ≤ 35184372088832) :
    Calls Tryd.prog 32 #[.string s] w fun e w' => e = .returned (unqV (Plw.unquote s.data.toList)) ∧ Below w.heap.size w w' := by
  by_cases h0 : s.size = 0
  · have HN : Hid (Plw.unquote s.data.toList = none) := by
      have : s.data.toList = [] := List.length_eq_zero_iff.1 h0
      show _ = _
      rw [this]; rfl
    have hz : ((s.size : Int) == 0) = true := beq_iff_eq.2 (by omega)
    clear h0
    go_enter Tryd.func32, Tryd.ntmps32
    go_wp2
    go_ret3
    exact ⟨by rw [HN.out]; rfl, by first | exact Below.refl _ _ | exact (Below.refl _ _).drew⟩
  · have hz : ((s.size : Int) == 0) = false := beq_eq_false_iff_ne.2 (by omega)
    have h1s : 0 < s.size := by omega
    clear h0
    have HC := Lib.hid (cons_of s h1s)
    cases h34 : ((s[0].toNat : Int) != 34) with
    | true =>
      have HN : Hid (Plw.unquote s.data.toList = none) := by
        have e1 : s[0] ≠ 34 := byte_not' (n := 34) (by omega) h34
        show _ = _
        rw [HC.out]
        exact no_quote (by intro r hr; injection hr with a b; exact e1 a)
      go_enter Tryd.func32, Tryd.ntmps32
      go_wp2
      go_ret3
      exact ⟨by rw [HN.out]; rfl, by first | exact Below.refl _ _ | exact (Below.refl _ _).drew⟩
    | false =>
      have HS : Hid (Plw.body (s.data.toList.drop 1) [] 1 = Plw.unquote s.data.toList) := by
        have e1 : s[0] = 34 := byte_is' (n := 34) (by omega) h34
        show _ = _
        rw [HC.out, e1]
        rfl
      clear HC
      go_enter Tryd.func32, Tryd.ntmps32
      go_wp2
      clear h34
      go_loopw [5, 6] (fun v i wr => ∃ (k : Nat) (acc : List UInt8), 1 ≤ k ∧ k ≤ s.size ∧ i = .int .i64 k ∧ acc.length ≤ k ∧ Own w.heap.size v acc wr ∧ Below w.heap.size w wr ∧ Hid (Plw.body (s.data.toList.drop k) acc k = Plw.unquote s.data.toList)) (fun _ i _ => s.size - (intOf i).toNat)
      case atStart => exact ⟨1, [], by omega, by omega, rfl, by simp, Own.nil _ _, Below.refl _ w, HS⟩
      case round =>
        obtain ⟨k, acc, hk1, hk, rfl, hac, hI, hbw, HB⟩ := hrel
        clear HS
        have hsz := hbw.size
        obtain ⟨A1, c1, rfl⟩ := hI.shape
        by_cases hlt : k < s.size
        · have HD := Lib.hid (drop_at s k hlt)
          cases h34 : ((s[k].toNat : Int) == 34) with
          | true =>
            have HE : Hid (Plw.unquote s.data.toList = some (acc, k + 1)) := by
              have e1 : s[k] = 34 := byte_is (n := 34) (by omega) h34
              show _ = _
              rw [← HB.out, HD.out, e1, Plw.body_quote]
            have hS := run_string _ _ _ _ hI
            go_wp2
            go_ret3
            exact ⟨by rw [HE.out]; rfl, hbw⟩
          | false =>
            cases h10 : ((s[k].toNat : Int) == 10) with
            | true =>
              have HE : Hid (Plw.unquote s.data.toList = none) := by
                have e1 : s[k] = 10 := byte_is (n := 10) (by omega) h10
                show _ = _
                rw [← HB.out, HD.out, e1, Plw.body_line]
              go_wp2
              go_ret3
              exact ⟨by rw [HE.out]; rfl, hbw⟩
            | false =>
              cases h92 : ((s[k].toNat : Int) == 92) with
              | false =>
                have HE : Hid (Plw.body (s.data.toList.drop (k + 1)) (acc ++ [s[k]]) (k + 1) = Plw.unquote s.data.toList) := by
                  have e1 : s[k] ≠ 10 := byte_not (n := 10) (by omega) h10
                  have e2 : s[k] ≠ 34 := byte_not (n := 34) (by omega) h34
                  have e3 : s[k] ≠ 92 := byte_not (n := 92) (by omega) h92
                  show _ = _
                  rw [← HB.out, HD.out, Plw.body_plain _ _ _ _ e2 e1 e3]
                go_wp2_with (at_builtin; refine wpList_app rfl _ _ rfl w.heap.size _ _ wr hI rfl [s[k]] _ rfl _ _ rfl rfl (by simp only [List.length_cons, List.length_nil]; omega) hsz ?_; intro v2 w2 hI2 hb2)
                obtain ⟨A2, c2, rfl⟩ := hI2.shape
                go_wp2
                go_roundw
                case rel => exact ⟨k + 1, acc ++ [s[k]], by omega, by omega, by go_num, by simp; omega, hI2, hbw.trans hb2, HE⟩
                case measure => simp [intOf]; omega
              | true =>
                have e92 : s[k] = 92 := byte_is (n := 92) (by omega) h92
                by_cases hend : k + 1 = s.size
                · have HE : Hid (Plw.unquote s.data.toList = none) := by
                    show _ = _
                    rw [← HB.out, HD.out, e92, drop_end s (k + 1) (by omega), Plw.body_end]
                  have hE : ((k : Int) + 1 == (s.size : Int)) = true := by simp; omega
                  clear e92
                  go_wp2
                  go_ret3
                  exact ⟨by rw [HE.out]; rfl, hbw⟩
                · have hE : ((k : Int) + 1 == (s.size : Int)) = false := by simp; omega
                  have hlt2 : k + 1 < s.size := by omega
                  have hlt3 : (k : Int) + 1 < (s.size : Int) := by omega
                  have hlt4 : 0 ≤ (k : Int) + 1 := by omega
                  have HD2 := Lib.hid (drop_at s (k + 1) hlt2)
                  have HF : Hid (Plw.body (92 :: s[k + 1] :: s.data.toList.drop (k + 1 + 1)) acc k = Plw.unquote s.data.toList) := by
                    show _ = _
                    rw [← HB.out, HD.out, e92, HD2.out]
                  clear e92 hend
                  cases hm : Plw.meant s[k + 1] with
                  | none =>
                    have HE : Hid (Plw.unquote s.data.toList = none) := by
                      show _ = _
                      rw [← HF.out, Plw.body_bad _ _ _ _ hm]
                    have HM := Lib.hid hm
                    clear hm
                    go_wp2_with fail
                    refine (meant_none _ _ HM.out).mono ?_
                    rintro e w2 ⟨rfl, rfl⟩
                    go_wp2
                    go_ret3
                    exact ⟨by rw [HE.out]; rfl, hbw⟩
                  | some m =>
                    have HE : Hid (Plw.body (s.data.toList.drop (k + 1 + 1)) (acc ++ [m]) (k + 2) = Plw.unquote s.data.toList) := by
                      show _ = _
                      rw [← HF.out, Plw.body_good _ _ _ _ _ hm]
                    have HM := Lib.hid hm
                    clear hm
                    go_wp2_with fail
                    refine (meant_some _ _ _ HM.out).mono ?_
                    rintro e w2 ⟨rfl, rfl⟩
                    go_wp2_with (at_builtin; refine wpList_app rfl _ _ rfl w.heap.size _ _ wr hI rfl [m] _ rfl _ _ rfl rfl (by simp only [List.length_cons, List.length_nil]; omega) hsz ?_; intro v2 w2 hI2 hb2)
                    obtain ⟨A2, c2, rfl⟩ := hI2.shape
                    go_wp2
                    go_roundw
                    case rel => exact ⟨k + 2, acc ++ [m], by omega, by omega, by go_num, by simp; omega, hI2, hbw.trans hb2, HE⟩
                    case measure => simp [intOf]; omega
        · have HE : Hid (Plw.unquote s.data.toList = none) := by
            show _ = _
            rw [← HB.out, drop_end s k hlt, Plw.body_nil]
          go_wp2
          go_ret3
          exact ⟨by rw [HE.out]; rfl, hbw⟩
end Go.Proofs.YtjmgfhbadnechaaDoor.Run
