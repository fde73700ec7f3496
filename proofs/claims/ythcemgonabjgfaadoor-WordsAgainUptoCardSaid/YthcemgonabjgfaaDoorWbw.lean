/- The walks of WordsBack and WordsAgain. -/
import Derived.Test.YthcemgonabjgfaaDoorNum
import Derived.Test.YthcemgonabjgfaaDoorPlb
import Derived.Test.YthcemgonabjgfaaDoorUnq
set_option linter.unusedVariables false
namespace Go.Proofs.YthcemgonabjgfaaDoor.Wbw
open Go.RowKit Wrd Nam Env Num

theorem int_bounds {n : Int} (h : (Lit.int .i64 n).wf = true) : -9223372036854775808 ≤ n ∧ n ≤ 9223372036854775807 := by
  simp only [Lit.wf, IntKind.min, IntKind.max, IntKind.signed, IntKind.bits, Bool.and_eq_true, decide_eq_true_eq, if_true] at h
  omega
theorem size_of (s : ByteArray) : s.data.toList.length = s.size := rfl

/-- Unquote at a text whose answer is known. -/
theorem unq_some (a t : ByteArray) (k : Nat) (w : World) (hs : a.size ≤ 35184372088832) (h : Plw.unquote a.data.toList = some (t.data.toList, k)) :
    Calls Tryd.prog 18 #[.string a] w fun e w' => e = .returned (.tuple #[.string t, .int .i64 k, .int .i64 0]) ∧ Below w.heap.size w w' :=
  (Unq.unquote_any a w hs).mono fun _ _ ⟨h1, h2⟩ => ⟨by rw [h1, h]; rfl, h2⟩
theorem unq_none (a : ByteArray) (w : World) (hs : a.size ≤ 35184372088832) (h : Plw.unquote a.data.toList = none) :
    Calls Tryd.prog 18 #[.string a] w fun e w' => e = .returned (.tuple #[.string ⟨#[]⟩, .int .i64 0, .int .i64 21]) ∧ Below w.heap.size w w' :=
  (Unq.unquote_any a w hs).mono fun _ _ ⟨h1, h2⟩ => ⟨by rw [h1, h]; rfl, h2⟩
theorem quo (s q : ByteArray) (w : World) (hs : s.size ≤ 35184372088832) (h : q.data.toList = Plw.quote s.data.toList) :
    Calls Tryd.prog 17 #[.string s] w fun e w' => e = .returned (.string q) ∧ Below w.heap.size w w' :=
  (Quo.quote_any s w hs).mono fun _ _ ⟨h1, h2⟩ => ⟨by rw [h1, ← h], h2⟩
theorem par (s : ByteArray) (p q : Int) (w : World) (hs : s.size ≤ 35184372088832) (hE : Env w) (h : Pnu.parse s.data.toList = (p, q)) :
    Calls Tryd.prog 14 #[.string s] w fun e w' => e = .returned (.tuple #[.int .i64 p, .int .i64 q]) ∧ Below w.heap.size w w' :=
  (Num.parse_any s w hs hE).mono fun _ _ ⟨h1, h2⟩ => ⟨by rw [h1, h]; rfl, h2⟩
theorem itx (n : Int) (t : ByteArray) (w : World) (h0 : -9223372036854775808 ≤ n) (h1 : n ≤ 9223372036854775807) (hE : Env w) (h : t.data.toList = Lib.itoa n) :
    Calls Tryd.prog 13 #[.int .i64 n] w fun e w' => e = .returned (.string t) ∧ Below w.heap.size w w' :=
  (Num.int_any n w h0 h1 hE).mono fun _ _ ⟨h1, h2⟩ => ⟨by rw [h1, ← h], h2⟩
theorem quote_size {s q : ByteArray} (h : q.data.toList = Plw.quote s.data.toList) : q.size ≤ 2 * s.size + 2 := by
  have h1 := size_of q
  have h2 := Plw.escs_le s.data.toList
  have h3 := size_of s
  rw [h] at h1
  simp only [Plw.quote, List.length_append, List.length_cons, List.length_nil] at h1
  omega
theorem itoa_size {n : Int} {t : ByteArray} (h0 : -9223372036854775808 ≤ n) (h1 : n ≤ 9223372036854775807) (h : t.data.toList = Lib.itoa n) : t.size ≤ 100 := by
  have h2 := size_of t
  have hb : ∀ u : Nat, u ≤ 9223372036854775808 → (Lib.decDigits u).length ≤ 20 := by
    intro u hu
    rw [Lib.decDigits_length]
    rcases Nat.lt_or_ge 20 (Lib.nDigits u) with h | h
    · exfalso
      have h3 := Plb.dec_val u
      cases hd : Lib.decDigits u with
      | nil => exact Plb.dec_ne u hd
      | cons c r =>
        have hl := Lib.decDigits_length u
        rw [hd, List.length_cons] at hl
        have hz : u ≠ 0 := by
          intro e
          rw [e, Lib.nDigits_small (by omega)] at h; omega
        have hc : 1 ≤ Pnu.dval c := by
          have hdg := Plb.dec_dig u
          rw [hd, List.all_cons, Bool.and_eq_true] at hdg
          have h4 := hdg.1
          unfold Pnu.dig at h4
          rw [decide_eq_true_eq] at h4
          have : c ≠ 48 := fun e => hz (Plb.dec_zero (by rw [hd, e]; rfl))
          have : c.toNat ≠ 48 := fun e => this (UInt8.toNat_inj.1 e)
          unfold Pnu.dval; omega
        have hv := Pnu.valF_big (r := r) hc
        rw [← hd, h3] at hv
        have hp : 10 ^ 20 ≤ 10 ^ r.length := Nat.pow_le_pow_right (by omega) (by omega)
        omega
    · exact h
  rw [h] at h2
  unfold Lib.itoa at h2
  split at h2
  · have := hb n.natAbs (by omega); rw [List.length_cons] at h2; omega
  · have := hb n.toNat (by omega); omega

set_option maxHeartbeats 4000000 in
set_option maxRecDepth 100000 in
theorem back (n : Int) (s rest : ByteArray) (w : World) (wn : (Lit.int .i64 n).wf = true) (hs : s.size ≤ 1048576) (hr : rest.size ≤ 1048576) (hE : Env w) :
    Calls Tryd.prog 5 #[.int .i64 n, .string s, .string rest] w fun e w' => e = .returned (.bool true) ∧ Below w.heap.size w w' := by
  obtain ⟨h0, h1⟩ := int_bounds wn
  clear wn
  obtain ⟨t, ht⟩ : ∃ t : ByteArray, t.data.toList = Lib.itoa n := ⟨⟨(Lib.itoa n).toArray⟩, rfl⟩
  obtain ⟨q, hq⟩ : ∃ q : ByteArray, q.data.toList = Plw.quote s.data.toList := ⟨⟨(Plw.quote s.data.toList).toArray⟩, rfl⟩
  have hts := itoa_size h0 h1 ht
  have hqs := quote_size hq
  have HU : Hid (Plw.unquote (q ++ rest).data.toList = some (s.data.toList, q.size)) := by
    have e : (q ++ rest).data.toList = q.data.toList ++ rest.data.toList := by simp
    show _ = _
    rw [e, hq, Plb.unquote_back, ← hq, size_of]
  have HN : Hid (∀ k (h : k < q.size), ((q[k].toNat : Int) == 10) = false) := by
    intro k h
    rw [beq_eq_false_iff_ne]
    intro e
    have hm := Plb.no_line s.data.toList
    rw [← hq] at hm
    apply hm
    have hk : q[k] = 10 := UInt8.toNat_inj.1 (by have : (10 : UInt8).toNat = 10 := rfl; omega)
    have hin : q[k] ∈ q.data.toList := List.getElem_mem (l := q.data.toList) (by simpa using h)
    rwa [hk] at hin
  have HPP : Hid (Pnu.parse t.data.toList = (n, 0)) := by
    show _ = _
    rw [ht]; exact Plb.parse_back h0 h1
  have HT := Lib.hid ht
  have HQ := Lib.hid hq
  have HEv := Lib.hid hE
  clear ht hq hE
  go_enter Tryd.func5, Tryd.ntmps5
  go_wp2_with fail
  refine (itx n t w h0 h1 HEv.out HT.out).mono ?_
  rintro e w1 ⟨rfl, hb1⟩
  go_wp2_with fail
  refine (par t n 0 w1 (by omega) (HEv.out.below hb1) HPP.out).mono ?_
  rintro e w2 ⟨rfl, hb2⟩
  go_wp2_with fail
  refine (quo s q w2 (by omega) HQ.out).mono ?_
  rintro e w3 ⟨rfl, hb3⟩
  have hb : Below w.heap.size w w3 := (hb1.trans (hb2.mono hb1.size)).trans (hb3.mono (by have := hb1.size; have := hb2.size; omega))
  clear hb1 hb2 hb3
  go_wp2
  go_loop [10] (fun i => ∃ k : Nat, k ≤ q.size ∧ i = .int .i64 k) (fun i => q.size - (intOf i).toNat)
  case atStart => exact ⟨0, Nat.zero_le _, rfl⟩
  case round =>
    obtain ⟨k, hk, rfl⟩ := hrel
    by_cases hlt : k < q.size
    · have hn := HN.out k hlt
      go_wp2
      go_round
      case rel => exact ⟨k + 1, by omega, by go_num⟩
      case measure => simp [intOf]; omega
    · go_wp2_with fail
      refine (unq_some (q ++ rest) s q.size w3 (by simp; omega) HU.out).mono ?_
      rintro e w4 ⟨rfl, hb4⟩
      go_wp2
      go_ret
      exact ⟨rfl, hb.trans (hb4.mono hb.size)⟩

theorem seven : Pnu.parse (⟨#[45, 55]⟩ : ByteArray).data.toList = (-7, 0) := by decide +kernel
theorem extract_take (s : ByteArray) (k : Nat) : (s.extract 0 k).data.toList = s.data.toList.take k := by
  rw [Lib.extract_data]; simp
theorem getD_at (s : ByteArray) (j : Nat) (h : j < s.size) : s.data.toList.getD j 0 = s[j] := by
  rw [List.getD_eq_getElem?_getD, List.getElem?_eq_getElem (by simpa using h)]; rfl

set_option maxHeartbeats 8000000 in
set_option maxRecDepth 100000 in
theorem again (s : ByteArray) (w : World) (hs : s.size ≤ 1048576) (hE : Env w) :
    Calls Tryd.prog 6 #[.string s] w fun e w' => e = .returned (.bool true) ∧ Below w.heap.size w w' := by
  have HEv := Lib.hid hE
  clear hE
  obtain ⟨v, x, hv⟩ : ∃ v x, Pnu.parse s.data.toList = (v, x) := ⟨_, _, rfl⟩
  have hx := Plb.parse_codes s.data.toList
  rw [hv] at hx
  have HV := Lib.hid hv
  cases hu : Plw.unquote s.data.toList with
  | none =>
    have HU := Lib.hid hu
    clear hu
    rcases hx with rfl | rfl | rfl
    · obtain ⟨h0, h1⟩ := Plb.parse_bounds hv
      have HI : Hid (s.data.toList = Lib.itoa v) := (Plb.parse_again hv).symm
      clear hv
      go_enter Tryd.func6, Tryd.ntmps6
      go_wp2_with fail
      refine (par s _ _ w (by omega) HEv.out HV.out).mono ?_
      rintro e w1 ⟨rfl, hb1⟩
      go_wp2_with fail
      refine (par ⟨#[45, 55]⟩ _ _ w1 (by decide) (HEv.out.below hb1) seven).mono ?_
      rintro e w2 ⟨rfl, hb2⟩
      have hb : Below w.heap.size w w2 := hb1.trans (hb2.mono hb1.size)
      clear hb1 hb2
      go_wp2_with fail
      refine (itx v s w2 h0 h1 (HEv.out.below hb) HI.out).mono ?_
      rintro e w3 ⟨rfl, hb3⟩
      have hb4 : Below w.heap.size w w3 := hb.trans (hb3.mono hb.size)
      clear hb hb3
      go_wp2_with fail
      refine (unq_none s w3 (by omega) HU.out).mono ?_
      rintro e w5 ⟨rfl, hb5⟩
      go_wp2
      go_ret
      exact ⟨rfl, hb4.trans (hb5.mono hb4.size)⟩
    all_goals
      obtain rfl := Plb.parse_err hv (by decide)
      clear hv
      go_enter Tryd.func6, Tryd.ntmps6
      go_wp2_with fail
      refine (par s _ _ w (by omega) HEv.out HV.out).mono ?_
      rintro e w1 ⟨rfl, hb1⟩
      go_wp2_with fail
      refine (par ⟨#[45, 55]⟩ _ _ w1 (by decide) (HEv.out.below hb1) seven).mono ?_
      rintro e w2 ⟨rfl, hb2⟩
      have hb : Below w.heap.size w w2 := hb1.trans (hb2.mono hb1.size)
      clear hb1 hb2
      have hb4 := hb
      clear hb
      obtain ⟨w3, hw3⟩ : ∃ w3, w3 = w2 := ⟨_, rfl⟩
      rw [← hw3] at hb4 ⊢
      clear hw3
      go_wp2_with fail
      refine (unq_none s w3 (by omega) HU.out).mono ?_
      rintro e w5 ⟨rfl, hb5⟩
      go_wp2
      go_ret
      exact ⟨rfl, hb4.trans (hb5.mono hb4.size)⟩
  | some tk =>
    obtain ⟨tl, k⟩ := tk
    obtain ⟨f1, f2, f3, f4, f5, f6, f7⟩ := Plb.unquote_facts hu
    rw [size_of] at f2 f7
    obtain ⟨t, ht⟩ : ∃ t : ByteArray, t.data.toList = tl := ⟨⟨tl.toArray⟩, rfl⟩
    subst ht
    obtain ⟨j, rfl⟩ : ∃ j, k = j + 1 := ⟨k - 1, by omega⟩
    rw [Nat.add_sub_cancel] at f4 f6
    have hj1 : 1 ≤ j := by omega
    have hj2 : j < s.size := by omega
    have hp0 : 0 < s.size := by omega
    rw [getD_at s 0 hp0] at f3
    rw [getD_at s j hj2] at f4
    obtain ⟨K, hK⟩ : ∃ K, s.extract 0 (j + 1) = K := ⟨_, rfl⟩
    obtain ⟨L, hL⟩ : ∃ L, s.extract 0 j = L := ⟨_, rfl⟩
    have HK : Hid (Plw.unquote K.data.toList = some (t.data.toList, j + 1)) := by
      show _ = _
      rw [← hK, extract_take]; exact f5
    have HL : Hid (Plw.unquote L.data.toList = none) := by
      show _ = _
      rw [← hL, extract_take]; exact f6
    have hKs : K.size ≤ s.size := by rw [← hK]; simp; omega
    have hLs : L.size ≤ s.size := by rw [← hL]; simp; omega
    obtain ⟨q, hq⟩ : ∃ q : ByteArray, q.data.toList = Plw.quote t.data.toList := ⟨⟨(Plw.quote t.data.toList).toArray⟩, rfl⟩
    have hqs := quote_size hq
    have hts : t.size ≤ s.size := by rw [← size_of t]; exact f7
    have HB : Hid (Plw.unquote q.data.toList = some (t.data.toList, q.size)) := by
      have e := Plb.unquote_back t.data.toList []
      show _ = _
      rw [List.append_nil, ← hq, size_of] at e
      exact e
    have c1 : ((s[0].toNat : Int) != 34) = false := by rw [f3]; rfl
    have c2 : ((s[j].toNat : Int) != 34) = false := by rw [f4]; rfl
    have HU := Lib.hid hu
    have HX1 := Lib.hid hK
    have HX2 := Lib.hid hL
    have HQ := Lib.hid hq
    clear hu f1 f2 f3 f4 f5 f6 f7 hK hL hq
    rcases hx with rfl | rfl | rfl
    · obtain ⟨h0, h1⟩ := Plb.parse_bounds hv
      have HI : Hid (s.data.toList = Lib.itoa v) := (Plb.parse_again hv).symm
      clear hv
      go_enter Tryd.func6, Tryd.ntmps6
      go_wp2_with fail
      refine (par s _ _ w (by omega) HEv.out HV.out).mono ?_
      rintro e w1 ⟨rfl, hb1⟩
      go_wp2_with fail
      refine (par ⟨#[45, 55]⟩ _ _ w1 (by decide) (HEv.out.below hb1) seven).mono ?_
      rintro e w2 ⟨rfl, hb2⟩
      have hb : Below w.heap.size w w2 := hb1.trans (hb2.mono hb1.size)
      clear hb1 hb2
      go_wp2_with fail
      refine (itx v s w2 h0 h1 (HEv.out.below hb) HI.out).mono ?_
      rintro e w3 ⟨rfl, hb3⟩
      have hb4 : Below w.heap.size w w3 := hb.trans (hb3.mono hb.size)
      clear hb hb3
      go_wp2_with fail
      refine (unq_some s t (j + 1) w3 (by omega) HU.out).mono ?_
      rintro e w5 ⟨rfl, hb5⟩
      have hb6 : Below w.heap.size w w5 := hb4.trans (hb5.mono hb4.size)
      clear hb4 hb5
      go_wp2_with fail
      rw [HX1.out]
      refine (unq_some K t (j + 1) w5 (by omega) HK.out).mono ?_
      rintro e w7 ⟨rfl, hb7⟩
      have hb8 : Below w.heap.size w w7 := hb6.trans (hb7.mono hb6.size)
      clear hb6 hb7
      go_wp2_with fail
      rw [HX2.out]
      refine (unq_none L w7 (by omega) HL.out).mono ?_
      rintro e w9 ⟨rfl, hb9⟩
      have hb10 : Below w.heap.size w w9 := hb8.trans (hb9.mono hb8.size)
      clear hb8 hb9
      go_wp2_with fail
      refine (quo t q w9 (by omega) HQ.out).mono ?_
      rintro e w11 ⟨rfl, hb11⟩
      have hb12 : Below w.heap.size w w11 := hb10.trans (hb11.mono hb10.size)
      clear hb10 hb11
      go_wp2_with fail
      refine (unq_some q t q.size w11 (by omega) HB.out).mono ?_
      rintro e w13 ⟨rfl, hb13⟩
      have hb14 : Below w.heap.size w w13 := hb12.trans (hb13.mono hb12.size)
      clear hb12 hb13
      go_wp2_with fail
      refine (quo t q w13 (by omega) HQ.out).mono ?_
      rintro e w15 ⟨rfl, hb15⟩
      go_wp2
      go_ret
      exact ⟨rfl, hb14.trans (hb15.mono hb14.size)⟩
    all_goals
      obtain rfl := Plb.parse_err hv (by decide)
      clear hv
      go_enter Tryd.func6, Tryd.ntmps6
      go_wp2_with fail
      refine (par s _ _ w (by omega) HEv.out HV.out).mono ?_
      rintro e w1 ⟨rfl, hb1⟩
      go_wp2_with fail
      refine (par ⟨#[45, 55]⟩ _ _ w1 (by decide) (HEv.out.below hb1) seven).mono ?_
      rintro e w2 ⟨rfl, hb2⟩
      have hb : Below w.heap.size w w2 := hb1.trans (hb2.mono hb1.size)
      clear hb1 hb2
      have hb4 := hb
      clear hb
      obtain ⟨w3, hw3⟩ : ∃ w3, w3 = w2 := ⟨_, rfl⟩
      rw [← hw3] at hb4 ⊢
      clear hw3
      go_wp2_with fail
      refine (unq_some s t (j + 1) w3 (by omega) HU.out).mono ?_
      rintro e w5 ⟨rfl, hb5⟩
      have hb6 : Below w.heap.size w w5 := hb4.trans (hb5.mono hb4.size)
      clear hb4 hb5
      go_wp2_with fail
      rw [HX1.out]
      refine (unq_some K t (j + 1) w5 (by omega) HK.out).mono ?_
      rintro e w7 ⟨rfl, hb7⟩
      have hb8 : Below w.heap.size w w7 := hb6.trans (hb7.mono hb6.size)
      clear hb6 hb7
      go_wp2_with fail
      rw [HX2.out]
      refine (unq_none L w7 (by omega) HL.out).mono ?_
      rintro e w9 ⟨rfl, hb9⟩
      have hb10 : Below w.heap.size w w9 := hb8.trans (hb9.mono hb8.size)
      clear hb8 hb9
      go_wp2_with fail
      refine (quo t q w9 (by omega) HQ.out).mono ?_
      rintro e w11 ⟨rfl, hb11⟩
      have hb12 : Below w.heap.size w w11 := hb10.trans (hb11.mono hb10.size)
      clear hb10 hb11
      go_wp2_with fail
      refine (unq_some q t q.size w11 (by omega) HB.out).mono ?_
      rintro e w13 ⟨rfl, hb13⟩
      have hb14 : Below w.heap.size w w13 := hb12.trans (hb13.mono hb12.size)
      clear hb12 hb13
      go_wp2_with fail
      refine (quo t q w13 (by omega) HQ.out).mono ?_
      rintro e w15 ⟨rfl, hb15⟩
      go_wp2
      go_ret
      exact ⟨rfl, hb14.trans (hb15.mono hb14.size)⟩
end Go.Proofs.YthcemgonabjgfaaDoor.Wbw
