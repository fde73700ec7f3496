/- drowselaw21.ReportReads. -/
import Derived.Test.YtclcbiiijoeplaaDoorRta
set_option linter.unusedVariables false
namespace Go.Proofs.YtclcbiiijoeplaaDoor.Rra
open Go.RowKit Go.Sort Rwo Rpl Rwd Rbk Rpt Rbs Aps Rrd

def Lof : Red → List Bk
  | .rows l => l
  | .line _ => []
def atof : Red → Nat
  | .rows _ => 0
  | .line k => k
def ecof : Red → Int
  | .rows _ => 0
  | .line _ => 211
theorem read_u (s : ByteArray) (w : World) (hs : s.size ≤ 33554432) (hE : Hid (Rev.Env w)) : Calls Tryd.prog 13 #[.string s] w fun e w' => ∃ v, e = .returned (.tuple #[v, .int .i64 (ecof (redOf s.data.toList)), .int .i64 (atof (redOf s.data.toList))]) ∧ Own bkE 33 w.heap.size v (Lof (redOf s.data.toList)) w' ∧ Below w.heap.size w w' :=
  (Rea.read_any s w hs hE).mono fun e w' ⟨v, hb, hm⟩ => by
    refine ⟨v, ?_⟩
    cases hr : redOf s.data.toList with
    | rows l => rw [hr] at hm; exact ⟨hm.1, hm.2, hb⟩
    | line k =>
      rw [hr] at hm
      obtain ⟨h1, rfl⟩ := hm
      exact ⟨h1, Own.nil .., hb⟩
theorem rread_u (s : ByteArray) (w : World) (hs : s.size ≤ 33554432) : Calls Tryd.prog 14 #[.string s] w fun e w' => ∃ v, e = .returned (.tuple #[v, .int .i64 (atof (redOf s.data.toList))]) ∧ Own bkE 33 w.heap.size v (Lof (redOf s.data.toList)) w' ∧ Below w.heap.size w w' :=
  (Rre.rread_any s w hs).mono fun e w' ⟨v, hb, hm⟩ => by
    refine ⟨v, ?_⟩
    cases hr : redOf s.data.toList with
    | rows l => rw [hr] at hm; exact ⟨hm.1, hm.2, hb⟩
    | line k =>
      rw [hr] at hm
      obtain ⟨h1, rfl⟩ := hm
      exact ⟨h1, Own.nil .., hb⟩
theorem text_back {s : ByteArray} {l : List Bk} (h : redOf s.data.toList = .rows l) : textL l = some s := by
  obtain ⟨h1, h2⟩ := redOf_rows (Nat.le_refl _) h
  unfold textL
  rw [if_pos h2, acc_all, ← h1]
/-- A row of a list stored over. -/
theorem store4 {B g n cap : Nat} {l : List Bk} {w : World} (h : Own bkE 33 B (.slice (some ⟨g, 0, none⟩) n cap) l w) {j : Nat} (hj : j < l.length) (a b : Int) (t : ByteArray) (o : Int) :
    Own bkE 33 B (.slice (some ⟨g, 0, none⟩) n cap) (l.set j ⟨a, b, t, o⟩) ((((w.setCell ⟨g, j * 4, none⟩ (.int .i64 a)).setCell ⟨g, j * 4 + 1, none⟩ (.int .i64 b)).setCell ⟨g, j * 4 + 2, none⟩ (.string t)).setCell ⟨g, j * 4 + 3, none⟩ (.int .i64 o)) := by
  obtain ⟨x, hx⟩ : ∃ x, l.getD j bk0 = x := ⟨_, rfl⟩
  obtain ⟨x0, x1, x2, x3⟩ := x
  have gs : ∀ (m : List Bk) (y : Bk), j < m.length → (m.set j y).getD j bk0 = y := fun m y hm => by simp [List.getD_eq_getElem?_getD, hm]
  have h1 := Own.store h j 0 (.int .i64 a) ⟨a, x1, x2, x3⟩ hj (by decide) (by show _ = (bkE.f (l.getD j bk0)).set 0 _; rw [hx]; rfl)
  have h2 := Own.store h1 j 1 (.int .i64 b) ⟨a, b, x2, x3⟩ (by simpa using hj) (by decide) (by show _ = (bkE.f ((l.set j _).getD j bk0)).set 1 _; rw [gs _ _ hj]; rfl)
  have h3 := Own.store h2 j 2 (.string t) ⟨a, b, t, x3⟩ (by simpa using hj) (by decide) (by show _ = (bkE.f (((l.set j _).set j _).getD j bk0)).set 2 _; rw [gs _ _ (by simpa using hj)]; rfl)
  have h4 := Own.store h3 j 3 (.int .i64 o) ⟨a, b, t, o⟩ (by simpa using hj) (by decide) (by show _ = (bkE.f ((((l.set j _).set j _).set j _).getD j bk0)).set 3 _; rw [gs _ _ (by simpa using hj)]; rfl)
  simp only [List.set_set] at h4
  exact h4
def bad : Bk := ⟨-1, 0, ⟨#[]⟩, 0⟩
/-- Between two rounds of the spoiling. -/
structure Mid (w : World) (w1s w2s : Nat) (u v7 : Value) (n : Nat) (L L' : List Bk) (wr : World) : Prop where
  own : Own bkE 33 w1s u L' wr
  len : L'.length = n
  want : Own bkE 33 w2s v7 L wr
  below : Below w.heap.size w wr
  low : ∀ b, u.ownBlock = some b → b < w2s
  size : w2s ≤ wr.heap.size
theorem Mid.cells {w : World} {w1s w2s g n cap k : Nat} {v7 : Value} {L L' : List Bk} {wr : World} (h : Mid w w1s w2s (.slice (some ⟨g, 0, none⟩) n cap) v7 n L L' wr) (hk : k < n) :
    ∃ a b t o, wr.cell? ⟨g, k * 4, none⟩ = some (.int .i64 a) ∧ wr.cell? ⟨g, k * 4 + 1, none⟩ = some (.int .i64 b) ∧ wr.cell? ⟨g, k * 4 + 2, none⟩ = some (.string t) ∧ wr.cell? ⟨g, k * 4 + 3, none⟩ = some (.int .i64 o) := by
  have hk' : k < L'.length := by rw [h.len]; exact hk
  exact ⟨_, _, _, _, Own.cell h.own k 0 hk' (by decide), Own.cell h.own k 1 hk' (by decide), Own.cell h.own k 2 hk' (by decide), Own.cell h.own k 3 hk' (by decide)⟩
theorem Mid.step {w : World} {w1s w2s g n cap k : Nat} {v7 : Value} {L L' : List Bk} {wr : World} (hw : w.heap.size ≤ w1s) (h : Mid w w1s w2s (.slice (some ⟨g, 0, none⟩) n cap) v7 n L L' wr) (hk : k < n) (a b : Int) (t : ByteArray) (o : Int) :
    Mid w w1s w2s (.slice (some ⟨g, 0, none⟩) n cap) v7 n L (L'.set k ⟨a, b, t, o⟩) ((((wr.setCell ⟨g, k * 4, none⟩ (.int .i64 a)).setCell ⟨g, k * 4 + 1, none⟩ (.int .i64 b)).setCell ⟨g, k * 4 + 2, none⟩ (.string t)).setCell ⟨g, k * 4 + 3, none⟩ (.int .i64 o)) := by
  have hk' : k < L'.length := by rw [h.len]; exact hk
  have hg := h.low g rfl
  have hg1 := (h.own.lt (k := g) rfl).1
  refine ⟨store4 h.own hk' a b t o, by rw [List.length_set]; exact h.len, h.want.kept fun c hc => ?_, ?_, h.low, ?_⟩
  · have hcg : c ≠ g := by have := (h.want.lt hc).1; omega
    have step : ∀ (V : World) (i : Nat) (u : Value), (V.setCell ⟨g, i, none⟩ u).heap[c]? = V.heap[c]? := fun V i u => heap_setCell_other V ⟨g, i, none⟩ c u hcg
    rw [step, step, step, step]
  rotate_left
  · exact Nat.le_trans h.size ((((Below.refl 0 wr).setCell (p := ⟨g, k * 4, none⟩) (Nat.zero_le _) _).setCell (p := ⟨g, k * 4 + 1, none⟩) (Nat.zero_le _) _).setCell (p := ⟨g, k * 4 + 2, none⟩) (Nat.zero_le _) _ |>.setCell (p := ⟨g, k * 4 + 3, none⟩) (Nat.zero_le _) _).size
  · exact (((h.below.setCell (p := ⟨g, k * 4, none⟩) (by show w.heap.size ≤ g; omega) _).setCell (p := ⟨g, k * 4 + 1, none⟩) (by show w.heap.size ≤ g; omega) _).setCell (p := ⟨g, k * 4 + 2, none⟩) (by show w.heap.size ≤ g; omega) _).setCell (p := ⟨g, k * 4 + 3, none⟩) (by show w.heap.size ≤ g; omega) _
set_option maxHeartbeats 4000000 in
set_option maxRecDepth 100000 in
theorem walk (s : ByteArray) (w : World) (hs : s.size ≤ 1048576) (hE : Hid (Rev.Env w)) :
    Calls Tryd.prog 4 #[.string s] w fun e w' => e = .returned (.bool true) ∧ Below w.heap.size w w' := by
  obtain ⟨i0, hi, hz0, hz1, hz2⟩ := info_parts Rre.infoBk
  obtain ⟨r, hr⟩ : ∃ r, redOf s.data.toList = r := ⟨_, rfl⟩
  have hsm := red_small (s := s.data.toList)
  rw [hr, list_size] at hsm
  obtain ⟨L, hL⟩ : ∃ L, L = Lof r := ⟨_, rfl⟩
  obtain ⟨at_, hat⟩ : ∃ a, a = atof r := ⟨_, rfl⟩
  obtain ⟨ec, hec⟩ : ∃ a, a = ecof r := ⟨_, rfl⟩
  have hLl : L.length ≤ 1048576 := by
    rw [hL]
    cases r with
    | rows l => simp only at hsm; show l.length ≤ _; omega
    | line k => simp [Lof]
  have hcase : (at_ = 0 ∧ ec = 0 ∧ r = .rows L) ∨ (1 ≤ at_ ∧ at_ ≤ 1048577 ∧ ec = 211) := by
    cases r with
    | rows l => exact .inl ⟨hat, hec, by rw [hL]; rfl⟩
    | line k => simp only at hsm; exact .inr ⟨by rw [hat]; exact hsm.1, by rw [hat]; show k ≤ _; omega, hec⟩
  have C1 : ∀ w, Hid (Rev.Env w) → Hid (Calls Tryd.prog 13 #[.string s] w fun e w' => ∃ v, e = .returned (.tuple #[v, .int .i64 ec, .int .i64 at_]) ∧ Own bkE 33 w.heap.size v L w' ∧ Below w.heap.size w w') := fun w hE => by
    have := read_u s w (by omega) hE
    rw [hr, ← hL, ← hat, ← hec] at this; exact this
  have C2 : ∀ w, Hid (Calls Tryd.prog 14 #[.string s] w fun e w' => ∃ v, e = .returned (.tuple #[v, .int .i64 at_]) ∧ Own bkE 33 w.heap.size v L w' ∧ Below w.heap.size w w') := fun w => by
    have := rread_u s w (by omega)
    rw [hr, ← hL, ← hat] at this; exact this
  have C1 := Lib.hid C1
  have C2 := Lib.hid C2
  have HC := Lib.hid hcase
  have HR := Lib.hid hr
  clear hsm hL hat hec hcase hr
  go_enter Tryd.func4, Tryd.ntmps4
  go_wp2_with fail
  refine (Raw.awake_any w hE).mono ?_
  rintro e w1 ⟨rfl, hb1⟩
  have HB1 := Lib.hid hb1
  have HE1 := Lib.hid (hE.out.below hb1)
  clear hb1
  go_wp2_with fail
  refine (C1.out w1 HE1).out.mono ?_
  rintro e w2 ⟨v4, rfl, hO2, hb2⟩
  have HO2 := Lib.hid hO2
  have HB2 := Lib.hid (HB1.out.trans (hb2.mono HB1.out.size))
  have HS12 := Lib.hid hb2.size
  have HLOW : Hid (∀ b, v4.ownBlock = some b → b < w2.heap.size) := fun b hb => (hO2.lt hb).2
  clear hb2 hO2
  go_wp2_with fail
  refine (C2.out w2).out.mono ?_
  rintro e w3 ⟨v7, rfl, hO3, hb3⟩
  have HO3 := Lib.hid hO3
  have HO23 := Lib.hid (HO2.out.below hb3 (Nat.le_refl _))
  have HB3 := Lib.hid (HB2.out.trans (hb3.mono HB2.out.size))
  have HS23 := Lib.hid hb3.size
  clear hb3 hO3
  go_wp2_with fail
  refine (Rta.same_one _ _ L w3 (by omega) (lies_own HO23.out) (lies_own HO3.out)).mono ?_
  rintro e w4 ⟨rfl, hb4⟩
  have HO4 := Lib.hid (HO3.out.below hb4 (Nat.le_refl _))
  have HO24 := Lib.hid (HO23.out.below hb4 (Nat.le_refl _))
  have HB4 := Lib.hid (HB3.out.trans (hb4.mono HB3.out.size))
  have HS34 := Lib.hid hb4.size
  clear hb4
  obtain ⟨A4, c4, rfl⟩ := HO24.out.shape
  obtain ⟨n, hn⟩ : ∃ n, L.length = n := ⟨_, rfl⟩
  have HLL := Lib.hid hLl
  rw [hn] at HO24 hLl HLOW
  rw [hn]
  have HN := Lib.hid hn
  clear hn HO2 HO23 HO3
  have HM : Hid (Mid w w1.heap.size w2.heap.size (.slice A4 n c4) v7 n L L w4) := ⟨HO24.out, HN.out, HO4.out, HB4.out, HLOW.out, Nat.le_trans HS23.out HS34.out⟩
  have HW1 : Hid (w.heap.size ≤ w1.heap.size) := HB1.out.size
  have HR0 : Hid (at_ = 0 → r = .rows L) := fun h => by
    rcases HC.out with ⟨_, _, h3⟩ | ⟨h1, _⟩
    · exact h3
    · omega
  clear HO24 HO4 HN
  rcases HC.out with ⟨rfl, rfl, _⟩ | ⟨h1, h2, rfl⟩
  all_goals
    go_wp2_with fail
    go_loopw [10] (fun kv wr => ∃ (k : Nat) (L' : List Bk), kv = .int .i64 k ∧ k ≤ n ∧ Hid (Mid w w1.heap.size w2.heap.size (.slice A4 n c4) v7 n L L' wr)) (fun kv _ => n - (intOf kv).toNat)
    case atStart => exact ⟨0, L, rfl, Nat.zero_le _, HM⟩
    case round =>
      clear HM
      obtain ⟨k, L', rfl, hk, HM⟩ := hrel
      by_cases hlt : k < n
      · obtain ⟨g, cap, cur, e4, _⟩ := HM.out.own.some (fun e => by have := HM.out.len; rw [e] at this; simp at this; omega)
        simp only [Value.slice.injEq] at e4
        obtain ⟨rfl, _, _⟩ := e4
        obtain ⟨a, b, t, o, d0, d1, d2, d3⟩ := HM.out.cells hlt
        have f0 := Own.frozen HM.out.own (k * 4)
        have f1 := Own.frozen HM.out.own (k * 4 + 1)
        have f2 := Own.frozen HM.out.own (k * 4 + 2)
        have f3 := Own.frozen HM.out.own (k * 4 + 3)
        have HM2 := Lib.hid (Mid.step HW1.out HM.out hlt (-1) 0 ⟨#[]⟩ 0)
        go_wp2
        go_roundw
        case rel => exact ⟨k + 1, _, by go_num, by omega, HM2⟩
        case measure => simp [intOf]; omega
      · have hke : k = n := by omega
        subst hke
        have hlen := HM.out.len
        have HNW : Hid (Src Tryd.prog 4 22 (.slice (some ⟨wr.heap.size, 0, none⟩) 2 2) 2 ([bad, bad].flatMap bkE.f) (wr.alloc (.cells ([bad, bad].flatMap bkE.f).toArray 33))) :=
          Src.ofSlice _ Tryd.underlying22 ⟨wr.heap.size, 0, none⟩ 2 2 _ (flat_length bkE _) (World.news_of_block (cs := ([bad, bad].flatMap bkE.f).toArray) (heap_alloc_new wr _)) (flat_one bkE _)
        have HOA : Hid (World.ownsRow (wr.alloc (.cells ([bad, bad].flatMap bkE.f).toArray 33)) w1.heap.size 33 4 (.slice A4 k c4) L'.length (L'.flatMap bkE.f)) := HM.out.own.alloc _
        have hwr : w1.heap.size ≤ wr.heap.size := by have := HS12.out; have := HM.out.size; omega
        rw [hlen] at HOA
        go_wp2_with (at_builtin; refine wpList_app_src _ rfl _ _ 22 22 rfl w1.heap.size 33 i0 _ 4 40 Tryd.underlying22 hi hz0 hz1 hz2 rfl (by decide) _ k _ rfl HOA.out _ 2 ([bad, bad].flatMap bkE.f) rfl HNW.out (by unfold maxLen; omega) (by omega) (by simp; omega) ?_)
        intro v8 w6 hown6 hg6
        have HO6 : Hid (Own bkE 33 w2.heap.size v7 L w6) := HM.out.want.kept fun b hb => by
          have h1 := HM.out.want.lt hb
          have h2 : (Value.slice A4 k c4).ownBlock ≠ some b := fun e => by have := HM.out.low b e; omega
          rw [hg6.block b (by simp; omega) (fun e => h2 e.symm), heap_alloc_old _ _ h1.2]
        have HB6 : Hid (Below w.heap.size w w6) := (HM.out.below.alloc HM.out.below.size _).grown hg6 (by have := HM.out.below.size; simp; omega) (fun b hb => Nat.le_trans HW1.out (HM.out.own.lt hb).1)
        have HE6 := Lib.hid (hE.out.below HB6.out)
        clear hown6 hg6 HOA HNW HM
        go_wp2_with fail
        refine (C1.out w6 HE6).out.mono ?_
        rintro e w7 ⟨v9, rfl, hO9, hb7⟩
        have HO79 := Lib.hid hO9
        have HO7 := Lib.hid (HO6.out.below hb7 (Nat.le_refl _))
        have HB7 := Lib.hid (HB6.out.trans (hb7.mono HB6.out.size))
        clear hb7 hO9
        go_wp2_with fail
        refine (Rta.same_one _ _ L w7 (by have := HLL.out; omega) (lies_own HO79.out) (lies_own HO7.out)).mono ?_
        rintro e w8 ⟨rfl, hb8⟩
        have HO8 := Lib.hid (lies_own (HO7.out.below hb8 (Nat.le_refl _)))
        have HB8 := Lib.hid (HB7.out.trans (hb8.mono HB7.out.size))
        clear hb8
        first
        | (go_wp2
           go_ret
           exact ⟨rfl, HB8.out⟩)
        | (have HE8 := Lib.hid (hE.out.below HB8.out)
           have hrr : r = .rows L := by first | exact HR0.out rfl | exact HR0.out trivial
           have hT : Hid (textL L = some s) := text_back (by rw [HR.out]; exact hrr)
           have hF : Hid (Fits L) := rows_fit (s := s.data.toList) (by rw [HR.out]; exact hrr) (by rw [list_size]; exact hs)
           have hss : (s.toList == s.toList) = true := by simp
           clear hrr
           go_wp2_with fail
           refine (Rtw.text_any _ L w8 HE8.out hF.out HO8.out).mono ?_
           rintro e w9 ⟨rfl, hb9⟩
           rw [hT.out]
           unfold outcome
           go_wp2
           go_ret
           exact ⟨rfl, HB8.out.trans (hb9.mono HB8.out.size)⟩)
end Go.Proofs.YtclcbiiijoeplaaDoor.Rra
