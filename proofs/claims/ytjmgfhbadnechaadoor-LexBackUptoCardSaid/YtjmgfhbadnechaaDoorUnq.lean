/- words.Unquote: for every text of at most 2^45 bytes it answers the text that it begins with, and where it ends. -/
import Derived.Test.YtjmgfhbadnechaaDoorQuo
import Derived.BigQuiet
import Derived.Deep.QuietTactic
set_option linter.unusedVariables false
namespace Go.Proofs.YtjmgfhbadnechaaDoor.Unq
open Go.RowKit Quo

theorem hasPrefix (s p : ByteArray) (w : World) :
    Calls Tryd.prog 27 #[.string s, .string p] w fun e w' => e = .returned (.bool (Lib.hasPrefix s.data.toList p.data.toList)) ∧ w = w' :=
  (Tryd.strings_HasPrefix s p w).mono fun _ _ ⟨h1, h2⟩ => ⟨h1, h2.symm⟩
theorem indexByte (s : ByteArray) (c : UInt8) (j : Int) (w : World) (h : Lib.indexByte s.data.toList c = j) :
    Calls Tryd.prog 28 #[.string s, .int .u8 c.toNat] w fun e w' => e = .returned (.int .i64 j) ∧ w = w' :=
  (Tryd.strings_IndexByte s c.toNat w).mono fun _ _ ⟨h1, h2⟩ => ⟨by rw [h1, show ((c.toNat : Int)).toNat.toUInt8 = c from by simp, h], h2.symm⟩

def unqV (o : Option (List UInt8 × Nat)) : Value := match o with
  | some (t, n) => .tuple #[.string ⟨t.toArray⟩, .int .i64 n, .int .i64 0]
  | none => .tuple #[.string ⟨#[]⟩, .int .i64 0, .int .i64 21]

theorem prefix_not {l : List UInt8} (h : Lib.hasPrefix l [34] = false) : Plw.unquote l = none := by
  cases l with
  | nil => rfl
  | cons c r =>
    have hc : c ≠ 34 := by
      rintro rfl
      simp [Lib.hasPrefix] at h
    simp [Plw.unquote, hc]
theorem prefix_yes {l : List UInt8} (h : Lib.hasPrefix l [34] = true) : ∃ r, l = 34 :: r ∧ Plw.unquote l = Plw.body r [] 1 := by
  cases l with
  | nil => simp [Lib.hasPrefix] at h
  | cons c r =>
    have hc : c = 34 := by
      exact (by simpa [Lib.hasPrefix, List.isPrefixOf] using h : 34 = c).symm
    subst hc
    exact ⟨r, rfl, by simp [Plw.unquote]⟩
theorem drop_at (s : ByteArray) (k : Nat) (h : k < s.size) : s.data.toList.drop k = s[k] :: s.data.toList.drop (k + 1) := by
  rw [List.drop_eq_getElem_cons (by simpa using h)]; rfl
theorem drop_end (s : ByteArray) (k : Nat) (h : ¬ k < s.size) : s.data.toList.drop k = [] := by
  rw [List.drop_eq_nil_of_le]; show s.size ≤ k; omega
theorem idx (d : UInt8) : (Plw.meant d = none ∧ Lib.indexByte [92, 34, 110, 116] d = -1) ∨ (d = 92 ∧ Lib.indexByte [92, 34, 110, 116] d = 0) ∨ (d = 34 ∧ Lib.indexByte [92, 34, 110, 116] d = 1) ∨ (d = 110 ∧ Lib.indexByte [92, 34, 110, 116] d = 2) ∨ (d = 116 ∧ Lib.indexByte [92, 34, 110, 116] d = 3) := by
  by_cases h1 : d = 92
  · subst h1; exact .inr (.inl ⟨rfl, by decide⟩)
  by_cases h2 : d = 34
  · subst h2; exact .inr (.inr (.inl ⟨rfl, by decide⟩))
  by_cases h3 : d = 110
  · subst h3; exact .inr (.inr (.inr (.inl ⟨rfl, by decide⟩)))
  by_cases h4 : d = 116
  · subst h4; exact .inr (.inr (.inr (.inr ⟨rfl, by decide⟩)))
  refine .inl ⟨by simp [Plw.meant, h1, h2, h3, h4], ?_⟩
  simp [Lib.indexByte, Ne.symm h1, Ne.symm h2, Ne.symm h3, Ne.symm h4]
theorem u8_back (c : UInt8) : ((c.toNat : Int)).toNat.toUInt8 = c := by simp
theorem byte_is' {c : UInt8} {n : Nat} (hn : n < 256) (h : ((c.toNat : Int) != (n : Int)) = false) : c = UInt8.ofNat n :=
  byte_is hn (by simpa using h)
theorem byte_not' {c : UInt8} {n : Nat} (hn : n < 256) (h : ((c.toNat : Int) != (n : Int)) = true) : c ≠ UInt8.ofNat n :=
  byte_not hn (by simpa using h)
theorem ret_tuple {v v' : Value} (h : v = v') : Ending.returned v = .returned v' := by rw [h]

set_option maxHeartbeats 4000000 in
set_option maxRecDepth 100000 in
theorem unquote_any (s : ByteArray) (w : World) (hs : s.size ≤ 35184372088832) :
    Calls Tryd.prog 55 #[.string s] w fun e w' => e = .returned (unqV (Plw.unquote s.data.toList)) ∧ Below w.heap.size w w' := by
  cases hp : Lib.hasPrefix s.data.toList [34] with
  | false =>
    have HN := Lib.hid (prefix_not hp)
    go_enter Tryd.func55, Tryd.ntmps55
    go_wp2_with (go_at_call 27; refine (hasPrefix _ _ _).mono ?_; rintro e w' ⟨rfl, rfl⟩)
    go_ret3
    exact ⟨by rw [HN.out]; rfl, Below.refl _ _⟩
  | true =>
    obtain ⟨r0, hr0, hu0⟩ := prefix_yes hp
    have h1s : 1 ≤ s.size := by
      have : s.data.toList.length = s.size := rfl
      rw [hr0] at this; simp at this; omega
    have HS : Hid (Plw.body (s.data.toList.drop 1) [] 1 = Plw.unquote s.data.toList) := by rw [hu0, hr0]; rfl
    clear hr0 hu0
    have hI0 := Lib.IsBuilderF.of (Lib.fresh_isBuilder 73 5 w)
    go_enter Tryd.func55, Tryd.ntmps55
    go_wp2_with (go_at_call 27; refine (hasPrefix _ _ _).mono ?_; rintro e w' ⟨rfl, rfl⟩)
    go_loopw [6] (fun i wr => ∃ (k : Nat) (acc : List UInt8), 1 ≤ k ∧ k ≤ s.size ∧ i = .int .i64 k ∧ acc.length ≤ k ∧ Bld.Is w.heap.size w.heap.size (Lib.byteCells acc) wr ∧ Below w.heap.size w wr ∧ Hid (Plw.body (s.data.toList.drop k) acc k = Plw.unquote s.data.toList)) (fun i _ => s.size - (intOf i).toNat)
    case atStart => exact ⟨1, [], by omega, h1s, rfl, by simp, hI0, (Below.refl _ w).alloc (Nat.le_refl _) _, HS⟩
    case round =>
      obtain ⟨k, acc, hk1, hk, rfl, hac, hI, hbw, HB⟩ := hrel
      clear hI0 HS hp
      have hsz := hbw.size
      have hlen : (Lib.byteCells acc).length + 1 ≤ 140737488355328 := by rw [Lib.byteCells_length]; omega
      by_cases hlt : k < s.size
      · have HD := Lib.hid (drop_at s k hlt)
        cases h10 : ((s[k].toNat : Int) != 10) with
        | false =>
          have HE : Hid (Plw.unquote s.data.toList = none) := by
            have e1 : s[k] = 10 := byte_is' (n := 10) (by omega) h10
            show _ = _
            rw [← HB.out, HD.out, e1, Plw.body_line]
          go_wp2
          go_ret3
          exact ⟨by rw [HE.out]; rfl, hbw⟩
        | true =>
          cases h34 : ((s[k].toNat : Int) == 34) with
          | true =>
            have HE : Hid (Plw.unquote s.data.toList = some (acc, k + 1)) := by
              have e1 : s[k] = 34 := byte_is (n := 34) (by omega) h34
              show _ = _
              rw [← HB.out, HD.out, e1, Plw.body_quote]
            go_wp2_with fail
            refine (Tryd.Builder_String_any_k w.heap.size w.heap.size acc _ hI (by omega)).mono ?_
            rintro e w3 ⟨rfl, _, hb3, _⟩
            go_wp2
            go_ret3
            exact ⟨by rw [HE.out]; rfl, hbw.trans hb3⟩
          | false =>
            cases h92 : ((s[k].toNat : Int) == 92) with
            | false =>
              have HE : Hid (Plw.body (s.data.toList.drop (k + 1)) (acc ++ [s[k]]) (k + 1) = Plw.unquote s.data.toList) := by
                have e1 : s[k] ≠ 10 := byte_not' (n := 10) (by omega) h10
                have e2 : s[k] ≠ 34 := byte_not (n := 34) (by omega) h34
                have e3 : s[k] ≠ 92 := byte_not (n := 92) (by omega) h92
                show _ = _
                rw [← HB.out, HD.out, Plw.body_plain _ _ _ _ e2 e1 e3]
              go_wp2_with fail
              refine (Bld.writeByte w.heap.size w.heap.size _ _ _ hI hlen hsz).mono ?_
              rintro e w2 ⟨rfl, hI2, hb2, _⟩
              go_wp2
              go_roundw
              case rel => exact ⟨k + 1, acc ++ [s[k]], by omega, by omega, by go_num, by simp; omega, by rw [Lib.byteCells_append]; exact hI2, hbw.trans hb2, HE⟩
              case measure => simp [intOf]; omega
            | true =>
              have e92 : s[k] = 92 := byte_is (n := 92) (by omega) h92
              by_cases hend : k + 1 = s.size
              · have HE : Hid (Plw.unquote s.data.toList = none) := by
                  show _ = _
                  rw [← HB.out, HD.out, e92, drop_end s (k + 1) (by omega), Plw.body_end]
                have hE : ((k : Int) + 1 == (s.size : Int)) = true := by simp; omega
                clear e92
                go_wp2
                go_ret3
                exact ⟨by rw [HE.out]; rfl, hbw⟩
              · have hE : ((k : Int) + 1 == (s.size : Int)) = false := by simp; omega
                have hlt2 : k + 1 < s.size := by omega
                have hlt3 : (k : Int) + 1 < (s.size : Int) := by omega
                have hlt4 : 0 ≤ (k : Int) + 1 := by omega
                have HD2 := Lib.hid (drop_at s (k + 1) hlt2)
                have HF : Hid (Plw.body (92 :: s[k + 1] :: s.data.toList.drop (k + 1 + 1)) acc k = Plw.unquote s.data.toList) := by
                  show _ = _
                  rw [← HB.out, HD.out, e92, HD2.out]
                have hix := idx s[k + 1]
                clear e92
                have HX := Lib.hid hix
                clear hix
                rcases HX.out with ⟨hm, hj⟩ | ⟨hd, hj⟩ | ⟨hd, hj⟩ | ⟨hd, hj⟩ | ⟨hd, hj⟩
                · have HE : Hid (Plw.unquote s.data.toList = none) := by
                    show _ = _
                    rw [← HF.out, Plw.body_bad _ _ _ _ hm]
                  clear hm
                  have HJ := Lib.hid hj
                  clear hj
                  go_wp2_with fail
                  refine (indexByte _ _ _ _ HJ.out).mono ?_
                  rintro e w2 ⟨rfl, rfl⟩
                  go_wp2
                  go_ret3
                  exact ⟨by rw [HE.out]; rfl, hbw⟩
                · have HE : Hid (Plw.body (s.data.toList.drop (k + 1 + 1)) (acc ++ [92]) (k + 2) = Plw.unquote s.data.toList) := by
                    show _ = _
                    rw [← HF.out, hd, Plw.body_good _ _ _ _ _ rfl]
                  clear hd
                  have HJ := Lib.hid hj
                  clear hj
                  go_wp2_with fail
                  refine (indexByte _ _ _ _ HJ.out).mono ?_
                  rintro e w2 ⟨rfl, rfl⟩
                  go_wp2_with fail
                  refine (Bld.writeByte w.heap.size w.heap.size _ _ _ hI hlen hsz).mono ?_
                  rintro e w2 ⟨rfl, hI2, hb2, _⟩
                  go_wp2
                  go_roundw
                  case rel => exact ⟨k + 2, acc ++ [92], by omega, by omega, by go_num, by simp; omega, by rw [Lib.byteCells_append]; exact hI2, hbw.trans hb2, HE⟩
                  case measure => simp [intOf]; omega
                · have HE : Hid (Plw.body (s.data.toList.drop (k + 1 + 1)) (acc ++ [34]) (k + 2) = Plw.unquote s.data.toList) := by
                    show _ = _
                    rw [← HF.out, hd, Plw.body_good _ _ _ _ _ rfl]
                  clear hd
                  have HJ := Lib.hid hj
                  clear hj
                  go_wp2_with fail
                  refine (indexByte _ _ _ _ HJ.out).mono ?_
                  rintro e w2 ⟨rfl, rfl⟩
                  go_wp2_with fail
                  refine (Bld.writeByte w.heap.size w.heap.size _ _ _ hI hlen hsz).mono ?_
                  rintro e w2 ⟨rfl, hI2, hb2, _⟩
                  go_wp2
                  go_roundw
                  case rel => exact ⟨k + 2, acc ++ [34], by omega, by omega, by go_num, by simp; omega, by rw [Lib.byteCells_append]; exact hI2, hbw.trans hb2, HE⟩
                  case measure => simp [intOf]; omega
                · have HE : Hid (Plw.body (s.data.toList.drop (k + 1 + 1)) (acc ++ [10]) (k + 2) = Plw.unquote s.data.toList) := by
                    show _ = _
                    rw [← HF.out, hd, Plw.body_good _ _ _ _ _ rfl]
                  clear hd
                  have HJ := Lib.hid hj
                  clear hj
                  go_wp2_with fail
                  refine (indexByte _ _ _ _ HJ.out).mono ?_
                  rintro e w2 ⟨rfl, rfl⟩
                  go_wp2_with fail
                  refine (Bld.writeByte w.heap.size w.heap.size _ _ _ hI hlen hsz).mono ?_
                  rintro e w2 ⟨rfl, hI2, hb2, _⟩
                  go_wp2
                  go_roundw
                  case rel => exact ⟨k + 2, acc ++ [10], by omega, by omega, by go_num, by simp; omega, by rw [Lib.byteCells_append]; exact hI2, hbw.trans hb2, HE⟩
                  case measure => simp [intOf]; omega
                · have HE : Hid (Plw.body (s.data.toList.drop (k + 1 + 1)) (acc ++ [9]) (k + 2) = Plw.unquote s.data.toList) := by
                    show _ = _
                    rw [← HF.out, hd, Plw.body_good _ _ _ _ _ rfl]
                  clear hd
                  have HJ := Lib.hid hj
                  clear hj
                  go_wp2_with fail
                  refine (indexByte _ _ _ _ HJ.out).mono ?_
                  rintro e w2 ⟨rfl, rfl⟩
                  go_wp2_with fail
                  refine (Bld.writeByte w.heap.size w.heap.size _ _ _ hI hlen hsz).mono ?_
                  rintro e w2 ⟨rfl, hI2, hb2, _⟩
                  go_wp2
                  go_roundw
                  case rel => exact ⟨k + 2, acc ++ [9], by omega, by omega, by go_num, by simp; omega, by rw [Lib.byteCells_append]; exact hI2, hbw.trans hb2, HE⟩
                  case measure => simp [intOf]; omega
      · have HE : Hid (Plw.unquote s.data.toList = none) := by
          show _ = _
          rw [← HB.out, drop_end s k hlt, Plw.body_nil]
        go_wp2
        go_ret3
        exact ⟨by rw [HE.out]; rfl, hbw⟩
end Go.Proofs.YtjmgfhbadnechaaDoor.Unq
