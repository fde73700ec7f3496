/- report.all. -/
import Derived.Test.YtclcbiiijoeplaaDoorRio
import Derived.Test.YtclcbiiijoeplaaDoorRre
set_option linter.unusedVariables false
namespace Go.Proofs.YtclcbiiijoeplaaDoor.Ral
open Go.RowKit Go.Sort Rpl Rwd Rmy Rln Rpp Rpq Rwo Rbk Rpt Rrd

theorem index_at : ∀ {a b : List UInt8}, (10 : UInt8) ∉ a → Lib.indexByte (a ++ 10 :: b) 10 = a.length
  | [], b, _ => by simp [Lib.indexByte]
  | c :: a, b, h => by
    simp only [List.mem_cons, not_or] at h
    rw [List.cons_append, Lib.indexByte, index_at h.2]
    have h1 : (c == (10 : UInt8)) = false := beq_false_of_ne (Ne.symm h.1)
    have h2 : (((a.length : Nat) : Int) == -1) = false := by rw [beq_eq_false_iff_ne]; omega
    rw [h1, h2]; simp
theorem index_no : ∀ {a : List UInt8}, (10 : UInt8) ∉ a → Lib.indexByte a 10 = -1
  | [], _ => rfl
  | c :: a, h => by
    simp only [List.mem_cons, not_or] at h
    rw [Lib.indexByte, index_no h.2]
    have h1 : (c == (10 : UInt8)) = false := beq_false_of_ne (Ne.symm h.1)
    rw [h1]; rfl
/-- How strings.Cut at the end of a line answers. -/
def Cuts (s : ByteArray) (e : Ending) : Prop :=
  (cutL s.data.toList = none ∧ ∃ a b, e = .returned (.tuple #[.string a, .string b, .bool false])) ∨
  ∃ a b : ByteArray, cutL s.data.toList = some (a.data.toList, b.data.toList) ∧ e = .returned (.tuple #[.string a, .string b, .bool true])
theorem cut_any (s : ByteArray) (w : World) (hs : s.size ≤ 33554432) (hE : Rev.Env w) : Calls Tryd.prog 34 #[.string s, .string ⟨#[10]⟩] w fun e w' => Cuts s e ∧ ∃ n, w' = w.drewN n := by
  obtain ⟨m, hm⟩ := hE.len
  refine (Tryd.strings_Cut s ⟨#[10]⟩ m w (by omega) hm).mono fun e w' h => ⟨?_, h.2⟩
  have h1 := h.1
  have ei : Lib.index s.data.toList [10] = Lib.indexByte s.data.toList 10 := Lib.index_one _ _
  cases hc : cutL s.data.toList with
  | none =>
    refine .inl ⟨hc, ?_⟩
    have : Lib.cut s.data.toList (⟨#[10]⟩ : ByteArray).data.toList = (s.data.toList, [], false) := by
      unfold Lib.cut
      show (if 0 ≤ Lib.index s.data.toList [10] then _ else _) = _
      rw [ei, index_no (cutL_none' hc)]; rfl
    rw [this] at h1
    exact ⟨_, _, h1⟩
  | some p =>
    obtain ⟨a, b⟩ := p
    obtain ⟨e1, e2⟩ := cutL_some hc
    have e3 : Lib.index s.data.toList [10] = a.length := by rw [ei, e1, index_at e2]
    have : Lib.cut s.data.toList (⟨#[10]⟩ : ByteArray).data.toList = (a, b, true) := by
      unfold Lib.cut
      show (if 0 ≤ Lib.index s.data.toList [10] then (s.data.toList.take (Lib.index s.data.toList [10]).toNat, s.data.toList.drop ((Lib.index s.data.toList [10]).toNat + 1), true) else _) = _
      rw [e3, if_pos (by omega), Int.toNat_natCast, e1]
      rw [List.take_left, show a.length + 1 = (a ++ [10]).length by simp, show a ++ 10 :: b = (a ++ [10]) ++ b by simp, List.drop_left]
    rw [this] at h1
    exact .inr ⟨⟨a.toArray⟩, ⟨b.toArray⟩, hc, h1⟩
def strz : Value → Nat
  | .string s => s.size
  | _ => 0
/-- How report.all answers. -/
def Post (s : List UInt8) (w : World) (e : Ending) (w' : World) : Prop := Below w.heap.size w w' ∧ match redOf s with
  | .rows l => ∃ v, e = .returned (.tuple #[v, .nilIface]) ∧ Own bkE 33 w.heap.size v l w'
  | .line k => ∃ g, e = .returned (.tuple #[.slice none 0 0, .iface 71 (.pointer (some ⟨g, 0, none⟩))]) ∧ w'.heap[g]? = some (.cells #[.int .i64 k] 75 (0, 0))
set_option maxHeartbeats 4000000 in
set_option maxRecDepth 100000 in
theorem all_any (s : ByteArray) (w : World) (hs : s.size ≤ 33554432) (hE : Hid (Rev.Env w)) : Calls Tryd.prog 26 #[.string s] w (Post s.data.toList w) := by
  go_enter Tryd.func26, Tryd.ntmps26
  go_wp2
  go_loopw [0, 4, 5] (fun sv v lv wr => ∃ (t : ByteArray) (out : List Bk), sv = .string t ∧ lv = .int .i64 ((out.length : Int) + 1) ∧ out.length + t.size ≤ s.size ∧ Own bkE 33 w.heap.size v out wr ∧ Below w.heap.size w wr ∧ Hid (redOf s.data.toList = (redOf t.data.toList).app out)) (fun sv _ _ _ => strz sv)
  case atStart => exact ⟨s, [], rfl, rfl, by simp, Own.nil .., Below.refl _ _, by show _ = _; cases redOf s.data.toList <;> simp [Red.app]⟩
  case round =>
    obtain ⟨t, out, rfl, rfl, hz, hI, hbw, hR⟩ := hrel
    have hsz := hbw.size
    obtain ⟨A1, cp1, rfl⟩ := hI.shape
    have HI := Lib.hid hI
    clear hI
    obtain ⟨n, hn⟩ : ∃ n, out.length = n := ⟨_, rfl⟩
    rw [hn] at hz
    rw [hn]
    have HN := Lib.hid hn
    clear hn
    have hlt := list_size t
    by_cases h0 : t.size = 0
    · have htl : t.data.toList = [] := List.length_eq_zero_iff.1 (by omega)
      have HX : Hid (redOf s.data.toList = .rows out) := by
        show _ = _
        rw [hR.out, htl, redOf_nil]; simp [Red.app]
      have hemp : t.toList = [] := by rw [Lib.toList_data]; exact htl
      clear htl hlt
      go_wp2
      go_ret2
      refine ⟨hbw, ?_⟩
      rw [HX.out]
      exact ⟨_, rfl, HN.out ▸ HI.out⟩
    · have hemp : t.toList.isEmpty = false := by
        rw [Lib.toList_data]
        cases h : t.data.toList with
        | nil => rw [h] at hlt; simp at hlt; omega
        | cons => rfl
      have hemp2 : (!t.toList.isEmpty) = true := by rw [hemp]; rfl
      have htne : Hid (t.data.toList ≠ []) := fun h => by rw [h] at hlt; simp at hlt; omega
      clear hlt
      go_wp2_with fail
      refine (cut_any t wr (by omega) (hE.out.below hbw)).mono ?_
      rintro e w1 ⟨hC, q, rfl⟩
      rcases hC with ⟨hC, a, b, rfl⟩ | ⟨a, b, hC, rfl⟩
      · have HX : Hid (redOf s.data.toList = .line (n + 1)) := by
          show _ = _
          rw [hR.out, redOf_none htne.out hC]; simp [Red.app, HN.out]
        have hb1 : Below w.heap.size w (wr.drewN q) := Rln.below_drewN_up hbw q
        have hnew := Lib.hid (heap_alloc_new (wr.drewN q) (.cells #[.int .i64 ((n : Int) + 1)] 75))
        have hb2 := Lib.hid (hb1.alloc hsz (.cells #[.int .i64 ((n : Int) + 1)] 75))
        clear hC
        go_wp2
        go_ret2
        refine ⟨?_, ?_⟩
        · first | exact hb2.out | exact Rln.below_drewN_up (hbw.alloc hsz _) q
        · rw [HX.out]
          refine ⟨wr.heap.size, rfl, ?_⟩
          exact hnew.out
      · have HC := Lib.hid hC
        have hca : t.size = a.size + 1 + b.size ∧ (10 : UInt8) ∉ a.data.toList := by
          obtain ⟨e1, e2⟩ := cutL_some hC
          have := congrArg List.length e1
          simp only [List.length_append, List.length_cons, list_size] at this
          exact ⟨by omega, e2⟩
        obtain ⟨hts, hno⟩ := hca
        have HNO := Lib.hid hno
        have hb1 : Below w.heap.size w (wr.drewN q) := Rln.below_drewN_up hbw q
        have HE1 := Lib.hid (hE.out.below hb1)
        clear hC hno
        go_wp2_with fail
        refine (Rio.one_any a _ _ (by omega) HE1 HNO).mono ?_
        rintro e w1 ⟨hb2, hm⟩
        obtain ⟨o, ho⟩ : ∃ o, whoseOf a = o := ⟨_, rfl⟩
        rw [ho] at hm
        have HO := Lib.hid ho
        clear ho
        have hs1 : wr.heap.size ≤ w1.heap.size := hb2.size
        have HB1 : Hid (Below w.heap.size w w1) := hb1.trans (hb2.mono hsz)
        cases o with
        | none =>
          obtain ⟨g, rfl, hg1, hg2⟩ := hm
          have HG := Lib.hid hg2
          have HX : Hid (redOf s.data.toList = .line (n + 1)) := by
            show _ = _
            rw [hR.out, redOf_bad HC.out HO.out]; simp [Red.app, HN.out]
          clear hg1 hg2 hb2
          go_wp2
          go_ret2
          refine ⟨HB1.out.alloc (by omega) _, ?_⟩
          rw [HX.out]
          refine ⟨g, rfl, ?_⟩
          rw [heap_alloc_old _ _ (Array.getElem?_eq_some_iff.1 HG.out).1]; exact HG.out
        | some x =>
          obtain rfl := hm
          have HR2 : Hid (redOf s.data.toList = (redOf b.data.toList).app (out ++ [x])) := by
            show _ = _
            rw [hR.out, redOf_one HC.out HO.out, Red.app_app]
          have HI1 : Hid (Own bkE 33 w.heap.size (.slice A1 out.length cp1) out w1) := (HI.out.drewN q).below hb2 (Nat.le_refl _)
          obtain ⟨W5, hW5⟩ : ∃ W, W = w1.alloc (.cells x.row 33) := ⟨_, rfl⟩
          have HI5 : Hid (Own bkE 33 w.heap.size (.slice A1 n cp1) out W5) := by
            rw [hW5, ← HN.out]; exact HI1.out.alloc _
          have hz5 : W5.heap.size = w1.heap.size + 1 := by rw [hW5]; simp
          have HB5 : Hid (Below w.heap.size w W5) := by rw [hW5]; exact HB1.out.alloc (by omega) _
          have hn2 : out.length = n := HN.out
          clear hb2
          go_wp2_with (at_builtin; refine wpList_append (E := bkE) (by rfl) _ _ _ (by rfl) 33 _ 40 Tryd.underlying22 Rre.infoBk (by rfl) w.heap.size _ out W5 HI5.out (by rfl) x _ (by rfl) _ (w1.heap.size + 1) (by rw [hW5]; rfl) (by rfl) (by omega) ⟨by omega, hz5⟩ ?_; intro g3 cp3 w3 hO3 hb3 hfar3 hsz3 hat3)
          have HO3 := Lib.hid hO3
          have HB3 : Hid (Below w.heap.size w w3) := by
            have h1 := HB5.out
            rw [hW5] at h1
            exact (h1.alloc (by simp; omega) (.cells x.row 33)).trans hb3
          clear hO3
          go_wp2
          go_roundw
          case rel => exact ⟨b, out ++ [x], rfl, by rw [List.length_append, hn2]; go_num, by rw [List.length_append, hn2]; simp; omega, hn2 ▸ HO3.out, HB3.out, HR2⟩
          case measure => simp [strz]; omega
end Go.Proofs.YtclcbiiijoeplaaDoor.Ral
