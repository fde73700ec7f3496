/- words.Int, words.Parse; drowseref02.Form, above, Parse, Int: at every number, at every text of at most 2^45 bytes. -/
import Derived.Test.YtjmgfhbadnechaaDoorEnv
import Derived.Test.YtjmgfhbadnechaaDoorNam
import Derived.Test.YtjmgfhbadnechaaDoorPnu
import Derived.Shelf.Strconv.ErrVarParseInt
set_option linter.unusedVariables false
namespace Go.Proofs.YtjmgfhbadnechaaDoor.Num
open Go.RowKit Wrd Nam Env

theorem below_grow (w : World) (os : Array Obj) : Below w.heap.size w (Sort.grow w os) :=
  ⟨rfl, rfl, rfl, by simp [Sort.grow], fun k hk => by simp [Sort.grow, Array.getElem?_append_left hk]⟩
theorem below_bytesWorld (w : World) (e : TypeId) (s : ByteArray) : Below w.heap.size w (Lib.bytesWorld w e s) := by
  unfold Lib.bytesWorld
  exact Lib.below_freeze (((Below.refl _ w).drew).alloc (Nat.le_refl _) _) (p := ⟨w.heap.size, (Lib.bytesCells w e s).size, none⟩) (Nat.le_refl _) _
theorem int_pow (n : Int) (w : World) (h0 : -9223372036854775808 ≤ n) (h1 : n ≤ 9223372036854775807) (hE : Pow w) :
    Calls Tryd.prog 35 #[.int .i64 n] w fun e w' => e = .returned (.string ⟨(Lib.itoa n).toArray⟩) ∧ Below w.heap.size w w' := by
  have core : Calls Tryd.prog 60 #[.int .i64 n, .int .i64 10] w fun e w' => e = .returned (.string ⟨(Lib.itoa n).toArray⟩) ∧ Below w.heap.size w w' := by
    refine (Tryd.strconv_FormatInt_10 n h0 h1 w hE.pow).mono ?_
    rintro e w' ⟨rfl, k, os, rfl⟩
    exact ⟨rfl, (Wrd.below_drewN w k).trans ((below_grow (w.drewN k) os).mono (Wrd.below_drewN w k).size)⟩
  have HC := Lib.hid core
  clear core
  go_enter Tryd.func35, Tryd.ntmps35
  go_wp2_with fail
  refine HC.out.mono ?_
  rintro e w1 ⟨rfl, hb⟩
  go_wp2
  go_ret
  exact ⟨rfl, hb⟩

theorem int_any (n : Int) (w : World) (h0 : -9223372036854775808 ≤ n) (h1 : n ≤ 9223372036854775807) (hE : Env w) :
    Calls Tryd.prog 35 #[.int .i64 n] w fun e w' => e = .returned (.string ⟨(Lib.itoa n).toArray⟩) ∧ Below w.heap.size w w' := int_pow n w h0 h1 hE.toPow

theorem trimPrefix (s D : ByteArray) (w : World) (h : D.data.toList = Pnu.strip s.data.toList) :
    Calls Tryd.prog 69 #[.string s, .string ⟨#[45]⟩] w fun e w' => e = .returned (.string D) ∧ w = w' := by
  refine (Tryd.strings_TrimPrefix s ⟨#[45]⟩ w).mono ?_
  rintro e w' ⟨rfl, h2⟩
  refine ⟨?_, h2.symm⟩
  have h3 : Lib.trimPrefix s.data.toList [45] = D.data.toList := by rw [Pnu.strip_eq, h]
  show Ending.returned (.string ⟨(Lib.trimPrefix s.data.toList [45]).toArray⟩) = _
  rw [h3]
def digits : List UInt8 := [48, 49, 50, 51, 52, 53, 54, 55, 56, 57]
theorem digits_is (c : UInt8) : digits.contains c = Pnu.dig c := by
  have h : (List.range 256).all (fun n => digits.contains (UInt8.ofNat n) == Pnu.dig (UInt8.ofNat n)) = true := by decide +kernel
  rw [List.all_eq_true] at h
  have := h c.toNat (List.mem_range.2 c.toNat_lt)
  rw [UInt8.ofNat_toNat] at this
  exact eq_of_beq this
theorem trim_digits (s : ByteArray) : (Lib.trimS s.data.toList digits).isEmpty = s.data.toList.all Pnu.dig := by
  have e : (fun c => digits.contains c) = Pnu.dig := funext digits_is
  rw [Bool.eq_iff_iff, List.isEmpty_iff, trim_nil, e]
theorem trim_any (s : ByteArray) (w : World) (hs : s.size ≤ 35184372088832) (T : ByteArray) (hT : T.data.toList = Lib.trimS s.data.toList digits) :
    Calls Tryd.prog 57 #[.string s, .string ⟨#[48, 49, 50, 51, 52, 53, 54, 55, 56, 57]⟩] w fun e w' => e = .returned (.string T) ∧ Below w.heap.size w w' := by
  refine (Any.strings_Trim_laid Tryd.lays160 (by kernel_rfl) s ⟨#[48, 49, 50, 51, 52, 53, 54, 55, 56, 57]⟩ w (by omega) (by decide) (ascii_of_all (by decide))).mono ?_
  rintro e w' ⟨rfl, hb⟩
  refine ⟨?_, hb⟩
  show Ending.returned (.string ⟨(Lib.trimS s.data.toList digits).toArray⟩) = _
  rw [← hT]

/-- The library's ParseInt where the form is a number's. -/
theorem parseInt (s : ByteArray) (w : World) (hs : s.size ≤ 35184372088832) (hE : Env w) (hf : Pnu.form s.data.toList = true) :
    (∃ v, Pnu.parse s.data.toList = (v, 0) ∧ Calls Tryd.prog 70 #[.string s, .int .i64 10, .int .i64 64] w fun e w' => e = .returned (.tuple #[.int .i64 v, .nilIface]) ∧ Below w.heap.size w w') ∨
    (Pnu.parse s.data.toList = (0, 22) ∧ Calls Tryd.prog 70 #[.string s, .int .i64 10, .int .i64 64] w fun e w' => ∃ v T p, e = .returned (.tuple #[.int .i64 v, .iface T p]) ∧ Below w.heap.size w w') := by
  rcases Pnu.int_end hf with ⟨h1, h2⟩ | ⟨v, h1, h2⟩
  · obtain ⟨tp, p, hr⟩ := hE.rng
    refine .inr ⟨h1, (Tryd.strconv_ParseInt_10_at64_range_var s (by omega) h2 tp p w hr).mono ?_⟩
    rintro e w' ⟨N, rfl, _, _, hb⟩
    exact ⟨_, _, _, rfl, hb⟩
  · refine .inl ⟨v, h1, (Tryd.strconv_ParseInt_10_at64_ok s (by omega) v h2 w).mono ?_⟩
    rintro e w' ⟨rfl, h3⟩
    refine ⟨rfl, ?_⟩
    rcases h3 with rfl | ⟨t, rfl⟩
    · exact Below.refl _ _
    · exact below_bytesWorld _ _ _

def parseV (x : Int × Int) : Value := .tuple #[.int .i64 x.1, .int .i64 x.2]
theorem form_no {l : List UInt8} (h : Pnu.strip l = [] ∨ (Pnu.strip l).all Pnu.dig = false ∨ (Pnu.strip l).take 1 = [48] ∧ 1 < l.length) : Pnu.form l = false := by
  unfold Pnu.form
  rcases h with h | h | ⟨h, k⟩
  · simp [h]
  · simp [h]
  · simp [h, k]
theorem form_yes {l : List UInt8} (h1 : Pnu.strip l ≠ []) (h2 : (Pnu.strip l).all Pnu.dig = true) (h3 : (Pnu.strip l).take 1 ≠ [48] ∨ ¬ 1 < l.length) : Pnu.form l = true := by
  unfold Pnu.form
  have e1 : (Pnu.strip l).isEmpty = false := by simpa using h1
  rw [e1, h2]
  rcases h3 with h | h
  · have : ((Pnu.strip l).take 1 == [48]) = false := beq_eq_false_iff_ne.2 h
    rw [this]; rfl
  · have : decide (1 < l.length) = false := decide_eq_false h
    rw [this]; simp
theorem parse_no {l : List UInt8} (h : Pnu.form l = false) : Pnu.parse l = (0, 21) := by unfold Pnu.parse; rw [if_pos h]
theorem byte_is {c : UInt8} {n : Nat} (hn : n < 256) (h : ((c.toNat : Int) == (n : Int)) = true) : c = UInt8.ofNat n := by
  have h1 : (c.toNat : Int) = n := by simpa using h
  apply UInt8.toNat_inj.mp
  rw [UInt8.toNat_ofNat']
  omega
theorem byte_not {c : UInt8} {n : Nat} (hn : n < 256) (h : ((c.toNat : Int) == (n : Int)) = false) : c ≠ UInt8.ofNat n := by
  rintro rfl
  rw [UInt8.toNat_ofNat'] at h
  simp at h
  omega

set_option maxHeartbeats 4000000 in
set_option maxRecDepth 100000 in
theorem parse_any (s : ByteArray) (w : World) (hs : s.size ≤ 35184372088832) (hE : Env w) :
    Calls Tryd.prog 54 #[.string s] w fun e w' => e = .returned (parseV (Pnu.parse s.data.toList)) ∧ Below w.heap.size w w' := by
  obtain ⟨D, hD⟩ : ∃ D : ByteArray, D.data.toList = Pnu.strip s.data.toList := ⟨⟨(Pnu.strip s.data.toList).toArray⟩, rfl⟩
  have HD := Lib.hid hD
  have HEv := Lib.hid hE
  clear hE
  by_cases h0 : D.size = 0
  · have HR : Hid (Pnu.parse s.data.toList = (0, 21)) := parse_no (form_no (.inl (by rw [← hD]; exact List.length_eq_zero_iff.1 h0)))
    have he : D.toList = [] := by rw [Lib.toList_data]; exact List.length_eq_zero_iff.1 h0
    clear hD
    go_enter Tryd.func54, Tryd.ntmps54
    go_wp2_with fail
    refine (trimPrefix s D w HD.out).mono ?_
    rintro e w1 ⟨rfl, rfl⟩
    go_wp2
    go_ret2
    exact ⟨by rw [HR.out]; rfl, Below.refl _ _⟩
  · have hpos : 0 < D.size := by omega
    have hne : D.toList.isEmpty = false := by
      rw [Lib.toList_data, List.isEmpty_eq_false_iff]
      intro h; exact h0 (List.length_eq_zero_iff.2 h)
    have hne2 : (D.toList = []) = False := by simpa using hne
    have hne3 : Hid (Pnu.strip s.data.toList ≠ []) := by
      rw [← hD]; intro h; exact h0 (List.length_eq_zero_iff.2 h)
    obtain ⟨T, hT⟩ : ∃ T : ByteArray, T.data.toList = Lib.trimS D.data.toList digits := ⟨⟨(Lib.trimS D.data.toList digits).toArray⟩, rfl⟩
    have hTe : T.data.toList.isEmpty = (Pnu.strip s.data.toList).all Pnu.dig := by rw [hT, trim_digits, hD]
    have HT := Lib.hid hT
    clear hT
    have hDs : D.size ≤ s.size := by
      have h1 : D.data.toList.length = D.size := rfl
      have h2 : s.data.toList.length = s.size := rfl
      have h3 : (Pnu.strip s.data.toList).length ≤ s.data.toList.length := by
        unfold Pnu.strip
        cases s.data.toList with
        | nil => simp
        | cons c r => by_cases hc : c = 45 <;> simp [hc]
      rw [← hD] at h3; omega
    cases had : (Pnu.strip s.data.toList).all Pnu.dig with
    | false =>
      have HR : Hid (Pnu.parse s.data.toList = (0, 21)) := parse_no (form_no (.inr (.inl had)))
      have hTn : T.toList.isEmpty = false := by rw [Lib.toList_data, hTe, had]
      have hTn2 : (T.toList = []) = False := by simpa using hTn
      clear hD hTe had
      go_enter Tryd.func54, Tryd.ntmps54
      go_wp2_with fail
      refine (trimPrefix s D w HD.out).mono ?_
      rintro e w1 ⟨rfl, rfl⟩
      go_wp2_with fail
      refine (trim_any D w (by omega) T HT.out).mono ?_
      rintro e w1 ⟨rfl, hb⟩
      go_wp2
      go_ret2
      exact ⟨by rw [HR.out]; rfl, hb⟩
    | true =>
      have hTy : T.toList = [] := by rw [Lib.toList_data]; rw [had] at hTe; simpa using hTe
      have hH : s.data.toList.length = s.size := rfl
      have hh : (Pnu.strip s.data.toList).take 1 = [D[0]] := by rw [← hD]; exact take_one D hpos
      by_cases hz : D[0] = 48 ∧ 1 < s.size
      · have HR : Hid (Pnu.parse s.data.toList = (0, 21)) := parse_no (form_no (.inr (.inr ⟨by rw [hh, hz.1], by rw [hH]; exact hz.2⟩)))
        have hz1 : ((D[0].toNat : Int) == 48) = true := by rw [hz.1]; rfl
        have hz2 : (1 : Int) < (s.size : Int) := by omega
        clear hD hTe had hh hz hH
        go_enter Tryd.func54, Tryd.ntmps54
        go_wp2_with fail
        refine (trimPrefix s D w HD.out).mono ?_
        rintro e w1 ⟨rfl, rfl⟩
        go_wp2_with fail
        refine (trim_any D w (by omega) T HT.out).mono ?_
        rintro e w1 ⟨rfl, hb⟩
        go_wp2
        go_ret2
        exact ⟨by rw [HR.out]; rfl, hb⟩
      · have HF : Hid (Pnu.form s.data.toList = true) := form_yes hne3.out had (by
          rw [hh, hH]
          by_cases h1 : 1 < s.size
          · exact .inl (fun h => hz ⟨by simpa using h, h1⟩)
          · exact .inr h1)
        have hcase : ((D[0].toNat : Int) == 48) = true ∧ ¬ (1 : Int) < (s.size : Int) ∨ ((D[0].toNat : Int) == 48) = false := by
          cases h48 : ((D[0].toNat : Int) == 48) with
          | false => exact .inr rfl
          | true =>
            have := byte_is (n := 48) (by omega) h48
            exact .inl ⟨rfl, fun h => hz ⟨this, by omega⟩⟩
        clear hD hTe had hh hz hH
        rcases hcase with ⟨hz1, hz2⟩ | hz1
        all_goals
          go_enter Tryd.func54, Tryd.ntmps54
          go_wp2_with fail
          refine (trimPrefix s D w HD.out).mono ?_
          rintro e w1 ⟨rfl, rfl⟩
          go_wp2_with fail
          refine (trim_any D w (by omega) T HT.out).mono ?_
          rintro e w1 ⟨rfl, hb⟩
          go_wp2_with fail
          rcases parseInt s w1 hs (HEv.out.below hb) HF.out with ⟨v, hv, hc⟩ | ⟨hv, hc⟩
          · have HV := Lib.hid hv
            clear hv
            refine hc.mono ?_
            rintro e w2 ⟨rfl, hb2⟩
            clear hc
            go_wp2
            go_ret2
            exact ⟨by rw [HV.out]; rfl, hb.trans (hb2.mono hb.size)⟩
          · have HV := Lib.hid hv
            clear hv
            refine hc.mono ?_
            rintro e w2 ⟨v, U, p, rfl, hb2⟩
            clear hc
            go_wp2
            go_ret2
            exact ⟨by rw [HV.out]; rfl, hb.trans (hb2.mono hb.size)⟩
end Go.Proofs.YtjmgfhbadnechaaDoor.Num
