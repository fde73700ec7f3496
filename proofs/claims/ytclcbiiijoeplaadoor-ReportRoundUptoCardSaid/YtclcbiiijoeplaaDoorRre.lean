/- drowseref21.Read. -/
import Derived.Test.YtclcbiiijoeplaaDoorRrd
import Derived.Test.YtclcbiiijoeplaaDoorRon
set_option linter.unusedVariables false
namespace Go.Proofs.YtclcbiiijoeplaaDoor.Rre
open Go.RowKit Rpl Rwd Rmy Rln Rpp Rpq Rwo Rbk Rpt Rrd

theorem infoBk : (Tryd.prog.info? 33).map (fun i => (i.zero, i.size, i.bytes)) = some (some Rbk.bk0.val, 4, 40) := by kernel_rfl
theorem one_at (s : ByteArray) (w : World) (hs : s.size ≤ 4611686018427387904) : Calls Tryd.prog 28 #[.string s] w fun e w' => e = Ron.told (whoseOf s) ∧ Below w.heap.size w w' :=
  (Ron.one_any s w hs).mono fun _ _ ⟨o, h1, h2, h3⟩ => ⟨by rw [whose_eq h1]; exact h2, h3⟩
/-- How drowseref21.Read answers. -/
def RRead (s : List UInt8) (w : World) (e : Ending) (w' : World) : Prop := ∃ v, Below w.heap.size w w' ∧ (match redOf s with
  | .rows l => e = .returned (.tuple #[v, .int .i64 0]) ∧ Own bkE 33 w.heap.size v l w'
  | .line k => e = .returned (.tuple #[v, .int .i64 k]) ∧ v = .slice none 0 0)
def no10 (l : List UInt8) (a b : Nat) : Prop := (10 : UInt8) ∉ (l.drop a).take (b - a)
theorem no10_step {l : List UInt8} {a b : Nat} (h : no10 l a b) (hab : a ≤ b) (hb : b < l.length) (h2 : l[b] ≠ 10) : no10 l a (b + 1) := by
  unfold no10 at *
  rw [show b + 1 - a = (b - a) + 1 by omega, List.take_succ_eq_append_getElem (by rw [List.length_drop]; omega)]
  simp only [List.mem_append, List.mem_singleton, not_or, List.getElem_drop]
  refine ⟨h, ?_⟩
  have : a + (b - a) = b := by omega
  simp only [this]; exact Ne.symm h2
theorem cut_here {s : ByteArray} {a i : Nat} (hai : a ≤ i) (hi : i < s.size) (h : no10 s.data.toList a i) (h2 : s[i] = 10) : cutL (s.data.toList.drop a) = some ((s.extract a i).data.toList, s.data.toList.drop (i + 1)) := by
  have hl : i < s.data.toList.length := by rw [list_size]; exact hi
  have e1 : s.data.toList.drop i = 10 :: s.data.toList.drop (i + 1) := by
    rw [List.drop_eq_getElem_cons hl]
    congr 1
  have e2 : (s.data.toList.drop a).drop (i - a) = s.data.toList.drop i := by rw [List.drop_drop]; congr 1; omega
  have e3 : s.data.toList.drop a = (s.extract a i).data.toList ++ 10 :: s.data.toList.drop (i + 1) := by
    rw [extract_list, ← e1, ← e2, List.take_append_drop]
  rw [e3]
  exact cutL_at (by rw [extract_list]; exact h)
theorem cut_end {s : ByteArray} {a : Nat} (h : no10 s.data.toList a s.size) : cutL (s.data.toList.drop a) = none := by
  refine cutL_none ?_
  unfold no10 at h
  rwa [List.take_of_length_le (by rw [List.length_drop, list_size]; exact Nat.le_refl _)] at h
set_option maxHeartbeats 4000000 in
set_option maxRecDepth 100000 in
theorem rread_any (s : ByteArray) (w : World) (hs : s.size ≤ 33554432) : Calls Tryd.prog 14 #[.string s] w (RRead s.data.toList w) := by
  have hlen := list_size s
  go_enter Tryd.func14, Tryd.ntmps14
  go_wp2
  go_loopw [4, 5, 6] (fun v av iv wr => ∃ (a i : Nat) (out : List Bk), av = .int .i64 a ∧ iv = .int .i64 i ∧ a ≤ i ∧ i ≤ s.size ∧ out.length ≤ a ∧ Own bkE 33 w.heap.size v out wr ∧ Below w.heap.size w wr ∧ Hid (no10 s.data.toList a i) ∧ Hid (redOf s.data.toList = (redOf (s.data.toList.drop a)).app out)) (fun _ _ i _ => s.size - (intOf i).toNat)
  case atStart => exact ⟨0, 0, [], rfl, rfl, Nat.le_refl _, Nat.zero_le _, Nat.le_refl _, Own.nil .., Below.refl _ _, by show _ ∉ _; simp, by show _ = _; rw [List.drop_zero]; cases redOf s.data.toList <;> simp [Red.app]⟩
  case round =>
    obtain ⟨a, i, out, rfl, rfl, hai, hi, hout, hI, hbw, hN, hR⟩ := hrel
    have hsz := hbw.size
    obtain ⟨A1, cp1, rfl⟩ := hI.shape
    have HI := Lib.hid hI
    clear hI
    obtain ⟨n, hn⟩ : ∃ n, out.length = n := ⟨_, rfl⟩
    rw [hn] at hout
    rw [hn]
    have HN := Lib.hid hn
    clear hn
    by_cases hlt : i < s.size
    · by_cases h10 : s[i] = 10
      · have HC : Hid (cutL (s.data.toList.drop a) = some ((s.extract a i).data.toList, s.data.toList.drop (i + 1))) := cut_here hai hlt hN.out h10
        obtain ⟨L, hL⟩ : ∃ L, L = s.extract a i := ⟨_, rfl⟩
        have hLs : L.size ≤ 33554432 := by rw [hL, ByteArray.size_extract]; omega
        have HL := Lib.hid hL
        obtain ⟨o, ho⟩ : ∃ o, whoseOf L = o := ⟨_, rfl⟩
        have HO := Lib.hid ho
        clear ho
        go_wp2_with fail
        rw [← hL]
        clear hL
        refine (one_at L _ (by omega)).mono ?_
        rintro e w1 ⟨rfl, hb1⟩
        rw [HO.out]
        have hs1 := hb1.size
        have HI1 := Lib.hid (HI.out.below hb1 (Nat.le_refl _))
        have hL2 : Hid (cutL (s.data.toList.drop a) = some (L.data.toList, s.data.toList.drop (i + 1))) := by
          show _ = _
          rw [HC.out, HL.out]
        cases o with
        | none =>
          have HX : Hid (redOf s.data.toList = .line (n + 1)) := by
            show _ = _
            rw [hR.out, redOf_bad hL2.out HO.out]
            simp [Red.app, HN.out]
          unfold Ron.told
          go_wp2
          go_ret2
          refine ⟨.slice none 0 0, (hbw.trans (hb1.mono hsz)).alloc (by omega) _, ?_⟩
          rw [HX.out]
          exact ⟨rfl, rfl⟩
        | some x =>
          have HR2 : Hid (redOf s.data.toList = (redOf (s.data.toList.drop (i + 1))).app (out ++ [x])) := by
            show _ = _
            rw [hR.out, redOf_one hL2.out HO.out, Red.app_app]
          obtain ⟨W5, hW5⟩ : ∃ W, W = w1.alloc (.cells x.row 33) := ⟨_, rfl⟩
          have HI5 : Hid (Own bkE 33 w.heap.size (.slice A1 n cp1) out W5) := by
            rw [hW5, ← HN.out]; exact HI1.out.alloc _
          have hz5 : W5.heap.size = w1.heap.size + 1 := by rw [hW5]; simp
          have HB5 : Hid (Below w.heap.size w W5) := by rw [hW5]; exact (hbw.trans (hb1.mono hsz)).alloc (by omega) _
          have hn2 : out.length = n := HN.out
          unfold Ron.told
          go_wp2_with (at_builtin; refine wpList_append (E := bkE) (by rfl) _ _ _ (by rfl) 33 _ 40 Tryd.underlying22 infoBk (by rfl) w.heap.size _ out W5 HI5.out (by rfl) x _ (by rfl) _ (w1.heap.size + 1) (by rw [hW5]; rfl) (by rfl) (by omega) ⟨by omega, hz5⟩ ?_; intro g3 cp3 w3 hO3 hb3 hfar3 hsz3 hat3)
          have HO3 := Lib.hid hO3
          have HB3 : Hid (Below w.heap.size w w3) := by
            have h1 := HB5.out
            rw [hW5] at h1
            exact (h1.alloc (by simp; omega) (.cells x.row 33)).trans hb3
          clear hO3
          go_wp2
          go_roundw
          case rel => exact ⟨i + 1, i + 1, out ++ [x], rfl, by go_num, Nat.le_refl _, by omega, by rw [List.length_append, hn2]; simp; omega, hn2 ▸ HO3.out, HB3.out, by show no10 _ _ _; unfold no10; simp, HR2⟩
          case measure => simp [intOf]; omega
      · have HN2 : Hid (no10 s.data.toList a (i + 1)) := no10_step hN.out hai (by omega) h10
        have hb : (((s[i]).toNat : Int) != 10) = true := by
          rw [bne_iff_ne]
          intro h
          exact h10 (UInt8.toNat_inj.1 (show (s[i]).toNat = 10 by omega))
        clear h10
        go_wp2
        go_roundw
        case rel => exact ⟨a, i + 1, out, rfl, by go_num, by omega, by omega, by rw [HN.out]; exact hout, by rw [← HN.out]; exact HI.out, hbw, HN2, hR⟩
        case measure => simp [intOf]; omega
    · have hie : i = s.size := by omega
      subst hie
      by_cases has : a < s.size
      · have HX : Hid (redOf s.data.toList = .line (n + 1)) := by
          show _ = _
          rw [hR.out, redOf_none (by intro e; have := congrArg List.length e; simp at this; omega) (cut_end hN.out)]
          simp [Red.app, HN.out]
        go_wp2
        go_ret2
        refine ⟨.slice none 0 0, hbw, ?_⟩
        rw [HX.out]
        exact ⟨rfl, rfl⟩
      · have HX : Hid (redOf s.data.toList = .rows out) := by
          show _ = _
          rw [hR.out, List.drop_of_length_le (by omega), redOf_nil]
          simp [Red.app]
        go_wp2
        go_ret2
        refine ⟨.slice A1 n cp1, hbw, ?_⟩
        rw [HX.out]
        refine ⟨rfl, ?_⟩
        have := HI.out
        rwa [HN.out] at this
end Go.Proofs.YtclcbiiijoeplaaDoor.Rre
