/- drowselaw21.awake. -/
import Derived.Test.YtclcbiiijoeplaaDoorRgn
import Derived.Test.YtclcbiiijoeplaaDoorRea
import Derived.Test.YtclcbiiijoeplaaDoorRtw
set_option linter.unusedVariables false
namespace Go.Proofs.YtclcbiiijoeplaaDoor.Raw
open Go.RowKit Go.Sort Rwo Rpl Rbk Rpt

def wk : Bk := ⟨2, 12, ⟨#[119, 111, 114, 107, 101, 114]⟩, 2⟩
def wkl : ByteArray := ⟨#[103, 111, 114, 111, 117, 116, 105, 110, 101, 32, 50, 32, 108, 105, 110, 101, 32, 49, 50, 32, 114, 101, 99, 101, 105, 118, 101, 32, 119, 111, 114, 107, 101, 114, 10]⟩
theorem may_wk : may wk = true := by decide
theorem dec2 : (Rmy.dec 2).data.toList = [50] := by
  show Lib.decDigits 2 = _
  rw [Lib.decDigits_one (by omega)]; rfl
theorem dec12 : (Rmy.dec 12).data.toList = [49, 50] := by
  show Lib.decDigits 12 = _
  rw [Rdg.dec_step (by omega), Lib.decDigits_one (by omega)]; rfl
theorem line_wk : [wk].flatMap lineE = wkl.data.toList := by
  rw [List.flatMap_cons, List.flatMap_nil, List.append_nil, lineE, Rpp.line_parts]
  show Rpp.parts Rpp.gor (Rmy.dec 2).data.toList Rpp.lin (Rmy.dec 12).data.toList (Rwd.wd 2).data.toList wk.fn.data.toList ++ [10] = _
  rw [dec2, dec12]
  rfl
theorem text_wk : textL [wk] = some wkl := by
  have h : [wk].all may = true := by rw [List.all_cons, may_wk]; rfl
  unfold textL
  rw [if_pos h, acc_all, line_wk]
theorem red_wk : Rrd.redOf wkl.data.toList = .rows [wk] := by
  rw [← line_wk]
  exact Rrd.redOf_text (by rw [List.all_cons, may_wk]; rfl)
def sl1 : Rsl.As := ⟨8, 1, 4, 7, none, 0, 0, 8, 1⟩
theorem lead_sl : Rsl.leadsF [sl1] 0 = some 0 := by decide
theorem ring_sl : Rcy.ringAt (Rsl.leadsF [sl1]) 0 = some [0] := by
  refine Rcy.ringAt_some.2 ⟨1, ⟨by omega, ?_, fun q h1 h2 => absurd h2 (by omega)⟩, fun q b h => Nat.zero_le _, rfl⟩
  show (Rcy.it _ 0 0).bind _ = _
  exact lead_sl
theorem out_sl : Rrg.out [sl1] [sl1].length = [[4]] := by
  show Rrg.out [sl1] (0 + 1) = _
  rw [Rrg.out_some ring_sl]; rfl
theorem cell_row (w : World) (i : Nat) (cs : Array Value) (T : TypeId) {v : Value} (h : cs[i]? = some v) : (w.alloc (.cells cs T)).cell? ⟨w.heap.size, i, none⟩ = some v := by
  rw [Lib.cell_of_heap (heap_alloc_new w _)]; exact h
set_option maxHeartbeats 4000000 in
set_option maxRecDepth 100000 in
theorem awake_any (w : World) (hE : Hid (Rev.Env w)) : Calls Tryd.prog 7 #[] w fun e w' => e = .returned (.bool true) ∧ Below w.heap.size w w' := by
  have hB1 : Below w.heap.size w (w.alloc (.cells wk.row 33)) := (Below.refl _ _).alloc (Nat.le_refl _) _
  have HL1 : Hid (Rbk.Lies (w.alloc (.cells wk.row 33)) (.slice (some ⟨w.heap.size, 0, none⟩) 1 1) [wk]) :=
    .inr ⟨w.heap.size, 0, 1, rfl, by simp, fun j hj => by
      have : j = 0 := by simp at hj; omega
      subst this
      exact ⟨cell_row w 0 _ _ rfl, cell_row w 1 _ _ rfl, cell_row w 2 _ _ rfl, cell_row w 3 _ _ rfl⟩⟩
  have HE1 := Lib.hid (hE.out.below hB1)
  have HB1 := Lib.hid hB1
  have HF1 : Hid (Fits [wk]) := ⟨by simp, fun j hj => by
    have : j = 0 := by simp at hj; omega
    subst this; decide⟩
  clear hB1
  go_enter Tryd.func7, Tryd.ntmps7
  go_wp2_with fail
  refine (Rtw.text_any _ [wk] _ HE1.out HF1.out HL1.out).mono ?_
  rintro e w1 ⟨rfl, hb1⟩
  rw [text_wk]
  have HB2 := Lib.hid (HB1.out.trans (hb1.mono HB1.out.size))
  clear hb1
  have HE2 := Lib.hid (hE.out.below HB2.out)
  unfold outcome
  go_wp2_with fail
  refine (Rea.read_any wkl w1 (by decide) HE2).mono ?_
  rintro e w2 ⟨v, hb2, hm⟩
  rw [red_wk] at hm
  obtain ⟨rfl, hO⟩ := hm
  obtain ⟨g, cap, cur, rfl, _, _, hg, _⟩ := hO.some (by simp)
  have hline : w2.cell? ⟨g, 1, none⟩ = some (.int .i64 12) := by
    have := Own.cell hO 0 1 (by simp) (by decide)
    exact this
  have HO := Lib.hid hO
  have HB3 := Lib.hid (HB2.out.trans (hb2.mono HB2.out.size))
  clear hb2 hO
  have hb4 : Below w2.heap.size w2 ((w2.alloc (.cells #[.int .u32 8, .int .u32 1] 49)).alloc (.cells sl1.row 52)) := by
    have h1 := (Below.refl w2.heap.size w2).alloc (Nat.le_refl _) (.cells #[.int .u32 8, .int .u32 1] 49)
    exact h1.alloc h1.size _
  have HL4 : Hid (Rsl.Lies ((w2.alloc (.cells #[.int .u32 8, .int .u32 1] 49)).alloc (.cells sl1.row 52)) (.slice (some ⟨w2.heap.size + 1, 0, none⟩) 1 1) [sl1]) :=
    .inr ⟨w2.heap.size + 1, 0, 1, rfl, by simp, fun j hj => by
      have : j = 0 := by simp at hj; omega
      subst this
      have hz : (w2.alloc (.cells #[.int .u32 8, .int .u32 1] 49)).heap.size = w2.heap.size + 1 := by simp
      have hc : ∀ i v, sl1.row[i]? = some v → ((w2.alloc (.cells #[.int .u32 8, .int .u32 1] 49)).alloc (.cells sl1.row 52)).cell? ⟨w2.heap.size + 1, i, none⟩ = some v := fun i v h => by
        have := cell_row (w2.alloc (.cells #[.int .u32 8, .int .u32 1] 49)) i _ 52 h
        rw [hz] at this; exact this
      exact ⟨hc 0 _ rfl, hc 1 _ rfl, hc 2 _ rfl, hc 3 _ rfl, hc 4 _ rfl, hc 5 _ rfl, hc 6 _ rfl⟩⟩
  have HB4 := Lib.hid (HB3.out.trans (hb4.mono HB3.out.size))
  have HB24 := Lib.hid hb4
  clear hb4
  go_wp2_with fail
  refine (Rgn.rings_any _ [sl1] _ (by simp) HL4.out).mono ?_
  rintro e w5 ⟨v5, vs5, rfl, hR5, hb5⟩
  rw [out_sl] at hR5
  have hlen := hR5.len
  obtain ⟨g6, cap6, cur6, rfl, _, _, hg6, _⟩ := hR5.out.some (by intro e; rw [e] at hlen; simp at hlen)
  have hl1 : vs5.length = 1 := by rw [hlen]; rfl
  obtain ⟨s5, rfl⟩ : ∃ s, vs5 = [s] := by
    match vs5, hl1 with
    | [s], _ => exact ⟨s, rfl⟩
  have hc6 : w5.cell? ⟨g6, 0, none⟩ = some s5.val := by
    have := Own.cell hR5.out 0 0 (by simp) (by decide)
    exact this
  have hI5 := hR5.each 0 (by simp)
  obtain ⟨g7, cap7, e7, _, hg7⟩ := Rowz.shape_some hI5 (by simp)
  obtain ⟨sa, sn, scp⟩ := s5
  have e7' : sa = some ⟨g7, 0, none⟩ ∧ sn = 1 ∧ scp = cap7 := by
    simpa [Rowz.SV.val] using e7
  obtain ⟨rfl, rfl, rfl⟩ := e7'
  have hc8 : w5.cell? ⟨g6, 0, none⟩ = some (.slice (some ⟨g7, 0, none⟩) 1 scp) := hc6
  clear hc6
  have hc7 : w5.cell? ⟨g7, 0, none⟩ = some (.int .i64 4) := by
    have := Rowz.Ints.cell hI5 (j := 0) (by simp)
    exact this
  have hline5 : w5.cell? ⟨g, 1, none⟩ = some (.int .i64 12) := by
    have h1 := HB24.out.cell (p := ⟨g, 1, none⟩) hg
    have h2 := hb5.cell (p := ⟨g, 1, none⟩) (by have := HB24.out.size; show g < _; omega)
    rw [h2, h1, hline]
  have hwkl : (wkl.toList == [103, 111, 114, 111, 117, 116, 105, 110, 101, 32, 50, 32, 108, 105, 110, 101, 32, 49, 50, 32, 114, 101, 99, 101, 105, 118, 101, 32, 119, 111, 114, 107, 101, 114, 10]) = true := by rw [Lib.toList_data]; rfl
  have HB5 := Lib.hid (HB4.out.trans (hb5.mono HB4.out.size))
  clear hb5 hI5 hR5 e7 hline hlen hl1
  go_wp2
  go_ret
  exact ⟨rfl, HB5.out⟩
end Go.Proofs.YtclcbiiijoeplaaDoor.Raw
