/- drowseref02.Form, above, Parse, Int: at every text of at most 2^45 bytes, at every number. -/
import Derived.Test.YtjmgfhbadnechaaDoorNum
import Derived.WalkLawsBesides
import Derived.Deep.DeepCutAuto
import Derived.Deep.CutBlock
set_option linter.unusedVariables false
namespace Go.Proofs.YtjmgfhbadnechaaDoor.Rnu
open Go.RowKit Wrd Nam Env Num

theorem strip_minus {s : ByteArray} (h : 0 < s.size) (h45 : s[0] = 45) : Pnu.strip s.data.toList = s.data.toList.drop 1 := by
  have e : s.data.toList = s[0] :: s.data.toList.drop 1 := by
    rw [← List.singleton_append, ← take_one s h, List.take_append_drop]
  rw [e, h45]; simp [Pnu.strip]
theorem strip_plain {s : ByteArray} (h : 0 < s.size) (h45 : s[0] ≠ 45) : Pnu.strip s.data.toList = s.data.toList := by
  have e : s.data.toList = s[0] :: s.data.toList.drop 1 := by
    rw [← List.singleton_append, ← take_one s h, List.take_append_drop]
  rw [e]; simp [Pnu.strip, h45]

/-- The loop over the digits of D. -/
theorem digit_dig (c : UInt8) : digit c = Pnu.dig c := rfl

/-- The bytes from the second one on. -/
theorem extract_one (s : ByteArray) : (s.extract 1 s.size).data.toList = s.data.toList.drop 1 := by
  rw [Lib.extract_data]
  exact List.take_of_length_le (by simp)
theorem size_of (s : ByteArray) : s.data.toList.length = s.size := rfl

theorem strip_le {s D : ByteArray} (hD : D.data.toList = Pnu.strip s.data.toList) : D.size ≤ s.size := by
  have h1 := size_of D
  have h2 := size_of s
  have h3 : (Pnu.strip s.data.toList).length ≤ s.data.toList.length := by
    unfold Pnu.strip
    cases s.data.toList with
    | nil => simp
    | cons c r => by_cases hc : c = 45 <;> simp [hc]
  rw [← hD] at h3; omega

set_option maxHeartbeats 4000000 in
set_option maxRecDepth 100000 in
theorem form_any (s : ByteArray) (w : World) (hs : s.size ≤ 35184372088832) (r : Bool) (hr : Pnu.form s.data.toList = r) :
    Calls Tryd.prog 83 #[.string s] w fun e w' => e = .returned (.bool r) ∧ w = w' := by
  obtain ⟨D, hD⟩ : ∃ D : ByteArray, D.data.toList = Pnu.strip s.data.toList := ⟨⟨(Pnu.strip s.data.toList).toArray⟩, rfl⟩
  have HD := Lib.hid hD
  have hDs := strip_le hD
  clear hD
  have HRR := Lib.hid hr
  clear hr
  by_cases h0 : s.size = 0
  · have HR : Hid (Pnu.form s.data.toList = false) := form_no (.inl (by rw [List.length_eq_zero_iff.1 h0]; rfl))
    have he : s.toList = [] := by rw [Lib.toList_data]; exact List.length_eq_zero_iff.1 h0
    have hz : ¬ (0 : Int) < (s.size : Int) := by omega
    have hz2 : decide (0 < s.size) = false := decide_eq_false (by omega)
    clear h0
    go_enter Tryd.func83, Tryd.ntmps83
    go_wp2
    go_ret
    exact ⟨by rw [← HRR.out, HR.out]; rfl, rfl⟩
  · have hpos : 0 < s.size := by omega
    have hpos2 : decide (0 < s.size) = true := decide_eq_true hpos
    have hpos3 : ((0 : Int) < (s.size : Int)) = True := eq_true (by omega)
    go_enter Tryd.func83, Tryd.ntmps83
    go_upto_if 14 with (fail)
    go_cut [3] (fun v wc => v = .string D ∧ w = wc)
    case first =>
      cases h45 : ((s[0].toNat : Int) == 45) with
      | true =>
        have e : s.extract 1 s.size = D := Plo.ba_ext (by rw [extract_one, HD.out, strip_minus hpos (byte_is (n := 45) (by omega) h45)])
        go_wp2
        go_meet
        exact ⟨by rw [← e], rfl⟩
      | false =>
        have e : s = D := Plo.ba_ext (by rw [HD.out, strip_plain hpos (byte_not (n := 45) (by omega) h45)])
        go_wp2
        go_meet
        exact ⟨by rw [← e], rfl⟩
    case rest =>
      obtain ⟨rfl, rfl⟩ := hcut
      by_cases hd0 : D.size = 0
      · have HR : Hid (Pnu.form s.data.toList = false) := form_no (.inl (by rw [← HD.out]; exact List.length_eq_zero_iff.1 hd0))
        have he : D.toList = [] := by rw [Lib.toList_data]; exact List.length_eq_zero_iff.1 hd0
        clear hd0
        go_wp2
        go_ret
        exact ⟨by rw [← HRR.out, HR.out]; rfl, rfl⟩
      · have hdp : 0 < D.size := by omega
        have hne : D.toList.isEmpty = false := by
          rw [Lib.toList_data, List.isEmpty_eq_false_iff]
          intro h; exact hd0 (List.length_eq_zero_iff.2 h)
        have hne2 : (D.toList = []) = False := by simpa using hne
        have hne3 : Hid (Pnu.strip s.data.toList ≠ []) := by
          show _ ≠ _
          rw [← HD.out]; intro h; exact hd0 (List.length_eq_zero_iff.2 h)
        have hh : Hid ((Pnu.strip s.data.toList).take 1 = [D[0]]) := by
          show _ = _
          rw [← HD.out]; exact take_one D hdp
        clear hd0
        by_cases hz : D[0] = 48 ∧ 1 < s.size
        · have HR : Hid (Pnu.form s.data.toList = false) := form_no (.inr (.inr ⟨by rw [hh.out, hz.1], by rw [size_of]; exact hz.2⟩))
          have hz1 : ((D[0].toNat : Int) == 48) = true := by rw [hz.1]; rfl
          have hz2 : (1 : Int) < (s.size : Int) := by omega
          have hz3 : decide (1 < s.size) = true := decide_eq_true hz.2
          clear hz
          go_wp2
          go_ret
          exact ⟨by rw [← HRR.out, HR.out]; rfl, rfl⟩
        · have hcase : ((D[0].toNat : Int) == 48) = true ∧ ¬ (1 : Int) < (s.size : Int) ∧ decide (1 < s.size) = false ∨ ((D[0].toNat : Int) == 48) = false := by
            cases h48 : ((D[0].toNat : Int) == 48) with
            | false => exact .inr rfl
            | true =>
              have := byte_is (n := 48) (by omega) h48
              exact .inl ⟨rfl, fun h => hz ⟨this, by omega⟩, decide_eq_false (fun h => hz ⟨this, h⟩)⟩
          have hf3 : Hid ((Pnu.strip s.data.toList).take 1 ≠ [48] ∨ ¬ 1 < s.data.toList.length) := by
            show _ ∨ _
            rw [hh.out, size_of]
            by_cases h1 : 1 < s.size
            · exact .inl (fun h => hz ⟨by simpa using h, h1⟩)
            · exact .inr h1
          clear hz
          rcases hcase with ⟨hz1, hz2, hz3⟩ | hz1
          all_goals
            go_wp2
            go_loop [4] (fun i => ∃ k : Nat, k ≤ D.size ∧ i = .int .i64 k ∧ Hid ((D.data.toList.take k).all Pnu.dig = true)) (fun i => D.size - (intOf i).toNat)
            case atStart => exact ⟨0, Nat.zero_le _, rfl, Lib.hid rfl⟩
            case round =>
              obtain ⟨k, hk, rfl, HK⟩ := hrel
              by_cases hlt : k < D.size
              · cases hd : digit D[k] with
                | true =>
                  have HDD := Lib.hid hd
                  have HT : Hid ((D.data.toList.take (k + 1)).all Pnu.dig = true) := by
                    show _ = _
                    rw [List.take_succ_eq_append_getElem (by simpa using hlt), List.all_append, HK.out]
                    show (true && (digit D[k] && true)) = true
                    rw [hd]; rfl
                  clear hd
                  go_wp2_with (go_at_call 46; refine (rdigit_is _ _ _ HDD.out).mono ?_; rintro e w1 ⟨rfl, rfl⟩)
                  go_round
                  case rel => exact ⟨k + 1, by omega, by go_num, HT⟩
                  case measure => simp [intOf]; omega
                | false =>
                  have HDD := Lib.hid hd
                  have HR : Hid (Pnu.form s.data.toList = false) := form_no (.inr (.inl (by
                    rw [← HD.out, List.all_eq_false]
                    exact ⟨D[k], List.getElem_mem (l := D.data.toList) (by simpa using hlt), by rw [← digit_dig, hd]; decide⟩)))
                  clear hd
                  go_wp2_with (go_at_call 46; refine (rdigit_is _ _ _ HDD.out).mono ?_; rintro e w1 ⟨rfl, rfl⟩)
                  go_ret
                  exact ⟨by rw [← HRR.out, HR.out]; rfl, rfl⟩
              · have HR : Hid (Pnu.form s.data.toList = true) := form_yes hne3.out (by
                  rw [← HD.out]
                  have := HK.out
                  rwa [List.take_of_length_le (by rw [size_of]; omega)] at this) hf3.out
                go_wp2
                go_ret
                exact ⟨by rw [← HRR.out, HR.out]; rfl, rfl⟩

def aboveB (a b : ByteArray) : Bool := if a.size ≠ b.size then decide (b.size < a.size) else !(Op.bytesLess a.data.toList b.data.toList || a.data.toList == b.data.toList)
set_option maxHeartbeats 1000000 in
set_option maxRecDepth 100000 in
theorem above_any (a b : ByteArray) (w : World) : Calls Tryd.prog 84 #[.string a, .string b] w fun e w' => e = .returned (.bool (aboveB a b)) ∧ w = w' := by
  by_cases h : a.size = b.size
  · have HR : Hid (aboveB a b = (!Op.bytesLess a.toList b.toList && !a.toList == b.toList)) := by
      show _ = _
      unfold aboveB; rw [if_neg (by simpa using h), Lib.toList_data, Lib.toList_data, Bool.not_or]
    have h1 : ((a.size : Int) != (b.size : Int)) = false := by simp; omega
    have h2 : (a.size != b.size) = false := by simp; omega
    clear h
    go_enter Tryd.func84, Tryd.ntmps84
    go_wp2
    go_ret
    exact ⟨by rw [HR.out]; rfl, rfl⟩
  · have HR : Hid (aboveB a b = decide (b.size < a.size)) := by
      show _ = _
      unfold aboveB; rw [if_pos h]
    have h1 : ((a.size : Int) != (b.size : Int)) = true := by simp; omega
    have h2 : (a.size != b.size) = true := by simp; omega
    clear h
    go_enter Tryd.func84, Tryd.ntmps84
    go_wp2
    go_ret
    exact ⟨by rw [HR.out]; simp, rfl⟩

theorem above_is (D M : ByteArray) (m : List UInt8) (r : Bool) (w : World) (hM : M.data.toList = m) (hm : m.all Pnu.dig = true) (hml : m.length = 19) (hm1 : 10 ^ 18 ≤ Pnu.valF 0 m)
    (hd : D.data.toList.all Pnu.dig = true) (h0 : D.data.toList.take 1 ≠ [48] ∨ D.data.toList.length ≤ 1) (hr : decide (Pnu.valF 0 m < Pnu.valF 0 D.data.toList) = r) :
    Calls Tryd.prog 84 #[.string D, .string M] w fun e w' => e = .returned (.bool r) ∧ w = w' := by
  have h : aboveB D M = r := by
    subst hr hM
    unfold aboveB
    by_cases hl : D.size = M.size
    · rw [if_neg (by simpa using hl)]
      exact Pnu.above_same hd hm hl
    · rw [if_pos hl]
      exact Pnu.above_long hd hm h0 hml hm1 hl
  have := above_any D M w
  rw [h] at this
  exact this
theorem neg_is {s : ByteArray} (h : 0 < s.size) (b : Bool) (hb : ((s[0].toNat : Int) == 45) = b) : Pnu.neg s.data.toList = b := by
  unfold Pnu.neg
  rw [take_one s h]
  subst hb
  rw [Bool.eq_iff_iff]
  simp only [beq_iff_eq, List.cons.injEq, and_true]
  constructor
  · rintro h; rw [h]; rfl
  · intro h
    exact byte_is (n := 45) (by omega) (by simpa using h)

set_option maxHeartbeats 4000000 in
set_option maxRecDepth 100000 in
theorem parse_any (s : ByteArray) (w : World) (hs : s.size ≤ 35184372088832) :
    Calls Tryd.prog 67 #[.string s] w fun e w' => e = .returned (parseV (Pnu.parse s.data.toList)) ∧ w = w' := by
  cases hf : Pnu.form s.data.toList with
  | false =>
    have HR : Hid (Pnu.parse s.data.toList = (0, 21)) := parse_no hf
    have HF := Lib.hid hf
    clear hf
    go_enter Tryd.func67, Tryd.ntmps67
    go_wp2_with fail
    refine (form_any s w hs false HF.out).mono ?_
    rintro e w1 ⟨rfl, rfl⟩
    go_wp2
    go_ret2
    exact ⟨by rw [HR.out]; rfl, rfl⟩
  | true =>
    obtain ⟨hp1, hp2, hp3⟩ := Pnu.form_parts hf
    have hpos : 0 < s.size := by
      rcases Nat.eq_zero_or_pos s.size with h | h
      · exfalso; apply hp1; rw [List.length_eq_zero_iff.1 h]; rfl
      · exact h
    obtain ⟨D, hD⟩ : ∃ D : ByteArray, D.data.toList = Pnu.strip s.data.toList := ⟨⟨(Pnu.strip s.data.toList).toArray⟩, rfl⟩
    have hDs := strip_le hD
    have hDd : D.data.toList.all Pnu.dig = true := by rw [hD]; exact hp3
    have hD0 : D.data.toList.take 1 ≠ [48] ∨ D.data.toList.length ≤ 1 := by
      rw [size_of]
      by_cases h1 : 1 < s.size
      · exact .inl (fun h => hp2 ⟨by rw [← hD]; exact h, h1⟩)
      · exact .inr (by omega)
    have HD := Lib.hid hD
    have HDd := Lib.hid hDd
    have HD0 := Lib.hid hD0
    have HF := Lib.hid hf
    clear hf hp1 hp2 hp3 hD hDd hD0
    have hdig : Hid (∀ k (h : k < D.size), 48 ≤ D[k].toNat ∧ D[k].toNat ≤ 57) := by
      intro k h
      have := List.all_eq_true.1 HDd.out D[k] (List.getElem_mem (l := D.data.toList) (by simpa using h))
      unfold Pnu.dig at this
      exact of_decide_eq_true this
    have htake : Hid (∀ k (h : k < D.size), Pnu.valF 0 (D.data.toList.take (k + 1)) = 10 * Pnu.valF 0 (D.data.toList.take k) + (D[k].toNat - 48)) := by
      intro k h
      rw [List.take_succ_eq_append_getElem (by simpa using h), Pnu.valF_snoc]
      rfl
    have hfull : Hid (∀ k, ¬ k < D.size → Pnu.valF 0 (D.data.toList.take k) = Pnu.valF 0 D.data.toList) := by
      intro k h
      rw [List.take_of_length_le (by rw [size_of]; omega)]
    cases h45 : ((s[0].toNat : Int) == 45) with
    | true =>
      have e45 : s[0] = 45 := byte_is (n := 45) (by omega) h45
      have hn : Pnu.neg s.data.toList = true := neg_is hpos true h45
      have hX : s.extract 1 s.size = D := Plo.ba_ext (by rw [extract_one, HD.out, strip_minus hpos e45])
      have hP : Pnu.parse s.data.toList = if 9223372036854775808 < Pnu.valF 0 D.data.toList then (0, 22) else (-(Pnu.valF 0 D.data.toList : Int), 0) := by
        unfold Pnu.parse; rw [if_neg (by rw [HF.out]; decide), if_pos hn, HD.out]
      have HX := Lib.hid hX
      clear hX e45 hn
      by_cases hv : 9223372036854775808 < Pnu.valF 0 D.data.toList
      · rw [if_pos hv] at hP
        have HP := Lib.hid hP
        have HV := Lib.hid hv
        clear hP hv
        go_enter Tryd.func67, Tryd.ntmps67
        go_wp2_with fail
        refine (form_any s w hs true HF.out).mono ?_
        rintro e w1 ⟨rfl, rfl⟩
        go_wp2_with fail
        rw [HX.out]
        refine (above_is D ⟨#[57, 50, 50, 51, 51, 55, 50, 48, 51, 54, 56, 53, 52, 55, 55, 53, 56, 48, 56]⟩ Pnu.most8 true w rfl Pnu.most8_dig rfl (by rw [Pnu.most8_val]; omega) HDd.out HD0.out (by rw [Pnu.most8_val]; exact decide_eq_true HV.out)).mono ?_
        rintro e w1 ⟨rfl, rfl⟩
        go_wp2
        go_ret2
        exact ⟨by rw [HP.out]; rfl, rfl⟩
      · rw [if_neg hv] at hP
        have HP := Lib.hid hP
        have HV := Lib.hid hv
        clear hP hv
        go_enter Tryd.func67, Tryd.ntmps67
        go_wp2_with fail
        refine (form_any s w hs true HF.out).mono ?_
        rintro e w1 ⟨rfl, rfl⟩
        go_wp2_with fail
        rw [HX.out]
        refine (above_is D ⟨#[57, 50, 50, 51, 51, 55, 50, 48, 51, 54, 56, 53, 52, 55, 55, 53, 56, 48, 56]⟩ Pnu.most8 false w rfl Pnu.most8_dig rfl (by rw [Pnu.most8_val]; omega) HDd.out HD0.out (by rw [Pnu.most8_val]; exact decide_eq_false HV.out)).mono ?_
        rintro e w1 ⟨rfl, rfl⟩
        go_wp2
        go_loop [9, 10] (fun n i => ∃ k V : Nat, k ≤ D.size ∧ i = .int .i64 k ∧ n = .int .i64 (-(V : Int)) ∧ Hid (Pnu.valF 0 (D.data.toList.take k) = V)) (fun _ i => D.size - (intOf i).toNat)
        case atStart => exact ⟨0, 0, Nat.zero_le _, rfl, rfl, Lib.hid rfl⟩
        case round =>
          obtain ⟨k, V, hk, rfl, rfl, HK⟩ := hrel
          by_cases hlt : k < D.size
          · obtain ⟨hd1, hd2⟩ := hdig.out k hlt
            have hT := htake.out k hlt
            rw [HK.out] at hT
            have hle := Pnu.valF_take_le D.data.toList (k + 1)
            have hV : 10 * V + (D[k].toNat - 48) ≤ 9223372036854775808 := by have := HV.out; omega
            have HT := Lib.hid hT
            clear hT hle
            have hd3 : (48 : Int) ≤ (D[k].toNat : Int) := by omega
            have hd4 : (D[k].toNat : Int) ≤ 57 := by omega
            have hV2 : -9223372036854775808 ≤ 10 * (-(V : Int)) + -((D[k].toNat : Int) - 48) := by omega
            have hV3 : 0 ≤ (V : Int) := by omega
            go_wp2
            go_round
            case rel => exact ⟨k + 1, 10 * V + (D[k].toNat - 48), by omega, by go_num, by rw [show -((10 * V + (D[k].toNat - 48) : Nat) : Int) = 10 * (-(V : Int)) + -((D[k].toNat : Int) - 48) by omega], HT⟩
            case measure => simp [intOf]; omega
          · have hT := hfull.out k hlt
            rw [HK.out] at hT
            have HT := Lib.hid hT
            clear hT
            go_wp2
            go_ret2
            exact ⟨by rw [HP.out, ← HT.out]; rfl, rfl⟩
    | false =>
      have e45 : s[0] ≠ 45 := byte_not (n := 45) (by omega) h45
      have hn : Pnu.neg s.data.toList = false := neg_is hpos false h45
      have hX : s = D := Plo.ba_ext (by rw [HD.out, strip_plain hpos e45])
      have hP : Pnu.parse s.data.toList = if 9223372036854775807 < Pnu.valF 0 D.data.toList then (0, 22) else ((Pnu.valF 0 D.data.toList : Int), 0) := by
        unfold Pnu.parse; rw [if_neg (by rw [HF.out]; decide), if_neg (by rw [hn]; decide), HD.out]
      clear e45 hn
      subst hX
      by_cases hv : 9223372036854775807 < Pnu.valF 0 s.data.toList
      · rw [if_pos hv] at hP
        have HP := Lib.hid hP
        have HV := Lib.hid hv
        clear hP hv
        go_enter Tryd.func67, Tryd.ntmps67
        go_wp2_with fail
        refine (form_any s w hs true HF.out).mono ?_
        rintro e w1 ⟨rfl, rfl⟩
        go_wp2_with fail
        refine (above_is s ⟨#[57, 50, 50, 51, 51, 55, 50, 48, 51, 54, 56, 53, 52, 55, 55, 53, 56, 48, 55]⟩ Pnu.most7 true w rfl Pnu.most7_dig rfl (by rw [Pnu.most7_val]; omega) HDd.out HD0.out (by rw [Pnu.most7_val]; exact decide_eq_true HV.out)).mono ?_
        rintro e w1 ⟨rfl, rfl⟩
        go_wp2
        go_ret2
        exact ⟨by rw [HP.out]; rfl, rfl⟩
      · rw [if_neg hv] at hP
        have HP := Lib.hid hP
        have HV := Lib.hid hv
        clear hP hv
        go_enter Tryd.func67, Tryd.ntmps67
        go_wp2_with fail
        refine (form_any s w hs true HF.out).mono ?_
        rintro e w1 ⟨rfl, rfl⟩
        go_wp2_with fail
        refine (above_is s ⟨#[57, 50, 50, 51, 51, 55, 50, 48, 51, 54, 56, 53, 52, 55, 55, 53, 56, 48, 55]⟩ Pnu.most7 false w rfl Pnu.most7_dig rfl (by rw [Pnu.most7_val]; omega) HDd.out HD0.out (by rw [Pnu.most7_val]; exact decide_eq_false HV.out)).mono ?_
        rintro e w1 ⟨rfl, rfl⟩
        go_wp2
        go_loop [9, 10] (fun n i => ∃ k V : Nat, k ≤ s.size ∧ i = .int .i64 k ∧ n = .int .i64 V ∧ Hid (Pnu.valF 0 (s.data.toList.take k) = V)) (fun _ i => s.size - (intOf i).toNat)
        case atStart => exact ⟨0, 0, Nat.zero_le _, rfl, rfl, Lib.hid rfl⟩
        case round =>
          obtain ⟨k, V, hk, rfl, rfl, HK⟩ := hrel
          by_cases hlt : k < s.size
          · obtain ⟨hd1, hd2⟩ := hdig.out k hlt
            have hT := htake.out k hlt
            rw [HK.out] at hT
            have hle := Pnu.valF_take_le s.data.toList (k + 1)
            have hV : 10 * V + (s[k].toNat - 48) ≤ 9223372036854775807 := by have := HV.out; omega
            have HT := Lib.hid hT
            clear hT hle
            have hd3 : (48 : Int) ≤ (s[k].toNat : Int) := by omega
            have hd4 : (s[k].toNat : Int) ≤ 57 := by omega
            have hV2 : 10 * (V : Int) + ((s[k].toNat : Int) - 48) ≤ 9223372036854775807 := by omega
            go_wp2
            go_round
            case rel => exact ⟨k + 1, 10 * V + (s[k].toNat - 48), by omega, by go_num, by rw [show ((10 * V + (s[k].toNat - 48) : Nat) : Int) = 10 * (V : Int) + ((s[k].toNat : Int) - 48) by omega], HT⟩
            case measure => simp [intOf]; omega
          · have hT := hfull.out k hlt
            rw [HK.out] at hT
            have HT := Lib.hid hT
            clear hT
            go_wp2
            go_ret2
            exact ⟨by rw [HP.out, ← HT.out]; rfl, rfl⟩
end Go.Proofs.YtjmgfhbadnechaaDoor.Rnu
