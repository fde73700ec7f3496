/- drowseref21.One. -/
import Derived.Test.YtclcbiiijoeplaaDoorRpq
import Derived.Test.YtclcbiiijoeplaaDoorRbk
import Derived.Deep.QuietTactic
import Derived.BigQuiet
import Derived.Laws.Rows
import Derived.Laws.ResultCell
import Derived.Lib.Strings
set_option linter.unusedVariables false
namespace Go.Proofs.YtclcbiiijoeplaaDoor.Ron
open Go.RowKit Rpl Rwd Rmy Rln Rfd Rnb Rpp Rpq

theorem results_row2 {P : Program} {fn : Func} {p u : Tmp} {ty : TypeId} (h : fn.results = #[.cell p ty, .tmp u]) (tmps : Array Value) (w : World) (g : Nat) (t : TypeId) (cs : Array Value) (fr : Nat × Nat) (d : TypeDesc)
    (hp : tmps.getD p undef = .pointer (some ⟨g, 0, none⟩)) (hg : w.heap[g]? = some (.cells cs t fr))
    (hu : P.underlying ty = some d) (hd : (match d with | .struct _ | .array _ _ => true | _ => false) = true) (hi : (P.info? ty).map (·.size) = some cs.size) :
    (results fn tmps).run P w = .ok (.tuple #[.agg cs, tmps.getD u undef]) w := by
  rw [results_cell_tmp h, hp]
  have h1 : (asAddr (.pointer (some ⟨g, 0, none⟩))).run P w = .ok ⟨g, 0, none⟩ w := rfl
  rw [h1]
  show ((loadVar ty ⟨g, 0, none⟩).run P w).andThen _ = _
  rw [run_loadVar_row w g t ty cs fr d hg hu hd hi]
  rfl
/-- The world of the two fresh rows. -/
abbrev W0 (w : World) : World := (w.alloc (.cells Rbk.bk0.row 33)).alloc (.cells Rbk.bk0.row 33)
theorem below_W0 (w : World) : Below w.heap.size w (W0 w) := by
  have h1 := (Below.refl _ w).alloc (Nat.le_refl _) (.cells Rbk.bk0.row 33)
  exact h1.alloc h1.size _
theorem W0_first (w : World) : (W0 w).heap[w.heap.size]? = some (.cells Rbk.bk0.row 33 (0, 0)) := by
  rw [heap_alloc_old _ _ (by simp), heap_alloc_new]
/-- The wait whose word a text is, among the first k. -/
def pick (X : ByteArray) : Nat → Int
  | 0 => 0
  | k + 1 => if (wd ((k : Int) + 1)).toList == X.toList then (k : Int) + 1 else pick X k
theorem pick_of {on : Int} (h1 : 1 ≤ on) (h2 : on ≤ 8) : pick (wd on) 8 = on := by
  rcases on_cases h1 h2 with rfl | rfl | rfl | rfl | rfl | rfl | rfl | rfl <;> (simp only [pick, Lib.toList_data]; decide)
abbrev W1 (w : World) (a b : Int) (r : ByteArray) (o : Int) : World := (w.alloc (.cells Rbk.bk0.row 33)).alloc (.cells (Bk.row ⟨a, b, r, o⟩) 33)
theorem below_W1 (w : World) (a b : Int) (r : ByteArray) (o : Int) : Below w.heap.size w (W1 w a b r o) := by
  have h1 := (Below.refl _ w).alloc (Nat.le_refl _) (.cells Rbk.bk0.row 33)
  exact h1.alloc h1.size _
theorem W1_first (w : World) (a b : Int) (r : ByteArray) (o : Int) : (W1 w a b r o).heap[w.heap.size]? = some (.cells Rbk.bk0.row 33 (0, 0)) := by
  rw [heap_alloc_old _ _ (by simp), heap_alloc_new]
/-- Of five fields and a rest just one may be the line. -/
theorem one_from {s x0 X1 x2 X3 X4 R : ByteArray} {n1 n3 v : Int} (e : s.data.toList = parts x0.data.toList X1.data.toList x2.data.toList X3.data.toList X4.data.toList R.data.toList)
    (h0 : solid x0.data.toList) (h1 : solid X1.data.toList) (h2 : solid x2.data.toList) (h3 : solid X3.data.toList) (h4 : solid X4.data.toList)
    (N1 : num X1 = n1) (N3 : num X3 = n3) (P : pick X4 8 = v) (b : Bk) (hm : may b = true) (h : lineL b = s) : b = ⟨n1, n3, R, v⟩ := by
  obtain ⟨_, e1, _, e3, e4, e5⟩ := whose_fields e h0 h1 h2 h3 h4 hm h
  obtain ⟨a1, a2, a3, a4, a5, a6⟩ := may_in hm
  rw [← N1, ← N3, ← P, e1, e3, e4, e5, num_dec (by omega) a2, num_dec a3 a4, pick_of a5 a6]
theorem parts_of {s : ByteArray} {i0 i1 i2 i3 i4 : Nat} (E0 : s.data.toList.drop 0 = (s.extract 0 i0).data.toList ++ 32 :: s.data.toList.drop (i0 + 1))
    (E1 : s.data.toList.drop (i0 + 1) = (s.extract (i0 + 1) i1).data.toList ++ 32 :: s.data.toList.drop (i1 + 1))
    (E2 : s.data.toList.drop (i1 + 1) = (s.extract (i1 + 1) i2).data.toList ++ 32 :: s.data.toList.drop (i2 + 1))
    (E3 : s.data.toList.drop (i2 + 1) = (s.extract (i2 + 1) i3).data.toList ++ 32 :: s.data.toList.drop (i3 + 1))
    (E4 : s.data.toList.drop (i3 + 1) = (s.extract (i3 + 1) i4).data.toList ++ 32 :: s.data.toList.drop (i4 + 1)) :
    s.data.toList = parts (s.extract 0 i0).data.toList (s.extract (i0 + 1) i1).data.toList (s.extract (i1 + 1) i2).data.toList (s.extract (i2 + 1) i3).data.toList (s.extract (i3 + 1) i4).data.toList (s.extract (i4 + 1) s.size).data.toList := by
  have hr : (s.extract (i4 + 1) s.size).data.toList = s.data.toList.drop (i4 + 1) := by
    rw [extract_list, List.take_of_length_le]
    rw [List.length_drop, Array.length_toList]; exact Nat.le_refl _
  unfold parts
  rw [hr, ← E4, ← E3, ← E2, ← E1, ← E0, List.drop_zero]
/-- A row of four stored over another. -/
abbrev put4 (w : World) (g : Nat) (a b c d : Value) : World := (((w.setCell ⟨g, 0, none⟩ a).setCell ⟨g, 1, none⟩ b).setCell ⟨g, 2, none⟩ c).setCell ⟨g, 3, none⟩ d
theorem put4_row {w : World} {g : Nat} {x0 x1 x2 x3 : Value} {t : TypeId} (h : w.heap[g]? = some (.cells #[x0, x1, x2, x3] t (0, 0))) (a b c d : Value) : (put4 w g a b c d).heap[g]? = some (.cells #[a, b, c, d] t (0, 0)) := by
  have h1 := heap_setCell_same w g 0 _ t a h
  have h2 := heap_setCell_same _ g 1 _ t b h1
  have h3 := heap_setCell_same _ g 2 _ t c h2
  exact heap_setCell_same _ g 3 _ t d h3
theorem put4_below {B g : Nat} {w0 w : World} (h : Below B w0 w) (hg : B ≤ g) (a b c d : Value) : Below B w0 (put4 w g a b c d) :=
  (((h.setCell (p := ⟨g, 0, none⟩) hg a).setCell (p := ⟨g, 1, none⟩) hg b).setCell (p := ⟨g, 2, none⟩) hg c).setCell (p := ⟨g, 3, none⟩) hg d
/-- How One answers. -/
def told (o : Option Bk) : Ending := match o with
  | some b => .returned (.tuple #[b.val, .bool true])
  | none => .returned (.tuple #[Rbk.bk0.val, .bool false])
def Post (s : ByteArray) (w : World) (e : Ending) (w' : World) : Prop := ∃ o, Whose s o ∧ e = told o ∧ Below w.heap.size w w'
set_option maxHeartbeats 4000000 in
set_option maxRecDepth 100000 in
theorem one_any (s : ByteArray) (w : World) (hs : s.size ≤ 4611686018427387904) : Calls Tryd.prog 28 #[.string s] w fun e w' => Post s w e w' := by
  go_enter Tryd.func28, Tryd.ntmps28
  go_wp2_with fail
  refine (field_any s 0 _ (by omega) hs).mono ?_
  rintro e w0 ⟨hr, rfl⟩
  rcases hr with ⟨i0, a0, l0, g0, f0, rfl⟩ | ⟨f0, rfl⟩
  rotate_left
  · have HF : Hid (Whose s none) := by
      exact none0 (by simpa using rest_solid f0)
    clear f0
    go_wp2
    refine bodyPost_ret (results_row2 rfl _ _ w.heap.size _ Rbk.bk0.row _ _ rfl (W0_first w) Tryd.underlying33 rfl (by kernel_rfl)) rfl ?_
    exact ⟨none, HF.out, rfl, below_W0 w⟩
  have E0 : Hid (s.data.toList.drop 0 = (s.extract 0 i0).data.toList ++ 32 :: s.data.toList.drop (i0 + 1)) := field_cut a0 g0
  have S0 : Hid (solid (s.extract 0 i0).data.toList) := field_solid f0
  clear g0 f0
  go_wp2_with fail
  refine (field_any s (i0 + 1) _ (by omega) hs).mono ?_
  rintro e w1 ⟨hr, rfl⟩
  rcases hr with ⟨i1, a1, l1, g1, f1, rfl⟩ | ⟨f1, rfl⟩
  rotate_left
  · have HF : Hid (Whose s none) := by
      refine none1 (x0 := (s.extract 0 i0).data.toList)  (r := s.data.toList.drop (i0 + 1)) ?_ S0.out (rest_solid f1)
      rw [← E0.out]
      simp
    clear f1
    go_wp2
    refine bodyPost_ret (results_row2 rfl _ _ w.heap.size _ Rbk.bk0.row _ _ rfl (W0_first w) Tryd.underlying33 rfl (by kernel_rfl)) rfl ?_
    exact ⟨none, HF.out, rfl, below_W0 w⟩
  have E1 : Hid (s.data.toList.drop (i0 + 1) = (s.extract (i0 + 1) i1).data.toList ++ 32 :: s.data.toList.drop (i1 + 1)) := field_cut a1 g1
  have S1 : Hid (solid (s.extract (i0 + 1) i1).data.toList) := field_solid f1
  clear g1 f1
  go_wp2_with fail
  refine (field_any s (i1 + 1) _ (by omega) hs).mono ?_
  rintro e w2 ⟨hr, rfl⟩
  rcases hr with ⟨i2, a2, l2, g2, f2, rfl⟩ | ⟨f2, rfl⟩
  rotate_left
  · have HF : Hid (Whose s none) := by
      refine none2 (x0 := (s.extract 0 i0).data.toList) (x1 := (s.extract (i0 + 1) i1).data.toList) (r := s.data.toList.drop (i1 + 1)) ?_ S0.out S1.out (rest_solid f2)
      rw [← E1.out, ← E0.out]
      simp
    clear f2
    go_wp2
    refine bodyPost_ret (results_row2 rfl _ _ w.heap.size _ Rbk.bk0.row _ _ rfl (W0_first w) Tryd.underlying33 rfl (by kernel_rfl)) rfl ?_
    exact ⟨none, HF.out, rfl, below_W0 w⟩
  have E2 : Hid (s.data.toList.drop (i1 + 1) = (s.extract (i1 + 1) i2).data.toList ++ 32 :: s.data.toList.drop (i2 + 1)) := field_cut a2 g2
  have S2 : Hid (solid (s.extract (i1 + 1) i2).data.toList) := field_solid f2
  clear g2 f2
  go_wp2_with fail
  refine (field_any s (i2 + 1) _ (by omega) hs).mono ?_
  rintro e w3 ⟨hr, rfl⟩
  rcases hr with ⟨i3, a3, l3, g3, f3, rfl⟩ | ⟨f3, rfl⟩
  rotate_left
  · have HF : Hid (Whose s none) := by
      refine none3 (x0 := (s.extract 0 i0).data.toList) (x1 := (s.extract (i0 + 1) i1).data.toList) (x2 := (s.extract (i1 + 1) i2).data.toList) (r := s.data.toList.drop (i2 + 1)) ?_ S0.out S1.out S2.out (rest_solid f3)
      rw [← E2.out, ← E1.out, ← E0.out]
      simp
    clear f3
    go_wp2
    refine bodyPost_ret (results_row2 rfl _ _ w.heap.size _ Rbk.bk0.row _ _ rfl (W0_first w) Tryd.underlying33 rfl (by kernel_rfl)) rfl ?_
    exact ⟨none, HF.out, rfl, below_W0 w⟩
  have E3 : Hid (s.data.toList.drop (i2 + 1) = (s.extract (i2 + 1) i3).data.toList ++ 32 :: s.data.toList.drop (i3 + 1)) := field_cut a3 g3
  have S3 : Hid (solid (s.extract (i2 + 1) i3).data.toList) := field_solid f3
  clear g3 f3
  go_wp2_with fail
  refine (field_any s (i3 + 1) _ (by omega) hs).mono ?_
  rintro e w4 ⟨hr, rfl⟩
  rcases hr with ⟨i4, a4, l4, g4, f4, rfl⟩ | ⟨f4, rfl⟩
  rotate_left
  · have HF : Hid (Whose s none) := by
      refine none4 (x0 := (s.extract 0 i0).data.toList) (x1 := (s.extract (i0 + 1) i1).data.toList) (x2 := (s.extract (i1 + 1) i2).data.toList) (x3 := (s.extract (i2 + 1) i3).data.toList) (r := s.data.toList.drop (i3 + 1)) ?_ S0.out S1.out S2.out S3.out (rest_solid f4)
      rw [← E3.out, ← E2.out, ← E1.out, ← E0.out]
      simp
    clear f4
    go_wp2
    refine bodyPost_ret (results_row2 rfl _ _ w.heap.size _ Rbk.bk0.row _ _ rfl (W0_first w) Tryd.underlying33 rfl (by kernel_rfl)) rfl ?_
    exact ⟨none, HF.out, rfl, below_W0 w⟩
  have E4 : Hid (s.data.toList.drop (i3 + 1) = (s.extract (i3 + 1) i4).data.toList ++ 32 :: s.data.toList.drop (i4 + 1)) := field_cut a4 g4
  have S4 : Hid (solid (s.extract (i3 + 1) i4).data.toList) := field_solid f4
  clear g4 f4
  obtain ⟨X1, y1⟩ : ∃ X, X = s.extract (i0 + 1) i1 := ⟨_, rfl⟩
  obtain ⟨X3, y3⟩ : ∃ X, X = s.extract (i2 + 1) i3 := ⟨_, rfl⟩
  obtain ⟨X4, y4⟩ : ∃ X, X = s.extract (i3 + 1) i4 := ⟨_, rfl⟩
  rw [← y1, ← y3, ← y4]
  have z1 : X1.size ≤ 4611686018427387904 := by rw [y1, ByteArray.size_extract]; omega
  have z3 : X3.size ≤ 4611686018427387904 := by rw [y3, ByteArray.size_extract]; omega
  have Y1 := Lib.hid y1
  have Y3 := Lib.hid y3
  have Y4 := Lib.hid y4
  clear y1 y3 y4
  obtain ⟨n1, N1⟩ : ∃ n, num X1 = n := ⟨_, rfl⟩
  obtain ⟨n3, N3⟩ : ∃ n, num X3 = n := ⟨_, rfl⟩
  have N1 := Lib.hid N1
  have N3 := Lib.hid N3
  go_wp2_with fail
  refine (number_any X1 _ z1).mono ?_
  rintro e w5 ⟨rfl, rfl⟩
  rw [N1.out]
  go_wp2_with fail
  refine (number_any X3 _ z3).mono ?_
  rintro e w6 ⟨rfl, rfl⟩
  rw [N3.out]
  go_wp2
  obtain ⟨R, y5⟩ : ∃ X, X = s.extract (i4 + 1) s.size := ⟨_, rfl⟩
  rw [← y5]
  have z5 : R.size ≤ 4611686018427387904 := by rw [y5, ByteArray.size_extract]; omega
  have Y5 := Lib.hid y5
  clear y5
  go_loopw [10] (fun ov wr => ∃ k : Nat, ov = .int .i64 ((k : Int) + 1) ∧ k ≤ 8 ∧ ∃ v, Hid (pick X4 k = v) ∧ wr = W1 w n1 n3 R v) (fun ov _ => (9 - (intOf ov).toNat))
  case atStart => exact ⟨0, rfl, by omega, 0, rfl, rfl⟩
  case round =>
    obtain ⟨k, rfl, hk, v, HP, rfl⟩ := hrel
    by_cases hk8 : k < 8
    · cases ht : ((wd ((k : Int) + 1)).toList == X4.toList) with
      | true =>
        have HP2 : Hid (pick X4 (k + 1) = (k : Int) + 1) := by
          show _ = _
          unfold pick; rw [if_pos ht]
        go_wp2_with fail
        refine (rword_any _ _).mono ?_
        rintro e w7 ⟨rfl, rfl⟩
        go_wp2
        exact ⟨⟨k + 1, by go_num, by omega, _, HP2, rfl⟩, by simp [intOf]; omega⟩
      | false =>
        have HP2 : Hid (pick X4 (k + 1) = v) := by
          show _ = _
          unfold pick; rw [if_neg (by rw [ht]; decide)]; exact HP.out
        go_wp2_with fail
        refine (rword_any _ _).mono ?_
        rintro e w7 ⟨rfl, rfl⟩
        go_wp2
        exact ⟨⟨k + 1, by go_num, by omega, _, HP2, rfl⟩, by simp [intOf]; omega⟩
    · have hk9 : k = 8 := by omega
      subst hk9
      have HO : Hid (∀ b, may b = true → lineL b = s → b = ⟨n1, n3, R, v⟩) := by
        intro b hb he
        have e := parts_of E0.out E1.out E2.out E3.out E4.out
        rw [← Y1.out, ← Y3.out, ← Y4.out, ← Y5.out] at e
        exact one_from e S0.out (Y1.out ▸ S1.out) S2.out (Y3.out ▸ S3.out) (Y4.out ▸ S4.out) N1.out N3.out HP.out b hb he
      go_wp2_with fail
      refine (may_at ⟨n1, n3, R, v⟩ _ (by change R.size ≤ _; omega)).mono ?_
      rintro e w8 ⟨rfl, rfl⟩
      cases hm : may ⟨n1, n3, R, v⟩ with
      | false =>
        have HF : Hid (Whose s none) := by
          intro b hb he
          rw [HO.out b hb he] at hb
          rw [hb] at hm; exact absurd hm (by decide)
        have hm := Lib.hid hm
        have hB : Hid (Below w.heap.size w ((W1 w n1 n3 R v).alloc (.cells (Bk.row ⟨n1, n3, R, v⟩) 33))) := (below_W1 w n1 n3 R v).alloc (below_W1 w n1 n3 R v).size _
        have hF : Hid (((W1 w n1 n3 R v).alloc (.cells (Bk.row ⟨n1, n3, R, v⟩) 33)).heap[w.heap.size]? = some (.cells Rbk.bk0.row 33 (0, 0))) := by
          show _ = _
          rw [heap_alloc_old _ _ (by simp <;> omega)]; exact W1_first w n1 n3 R v
        go_wp2
        refine bodyPost_ret (results_row2 rfl _ _ w.heap.size _ Rbk.bk0.row _ _ rfl hF.out Tryd.underlying33 rfl (by kernel_rfl)) rfl ?_
        exact ⟨none, HF.out, rfl, hB.out⟩
      | true =>
        have HM := Lib.hid hm
        clear hm
        obtain ⟨L, hL⟩ : ∃ L, L = lineL ⟨n1, n3, R, v⟩ := ⟨_, rfl⟩
        have C : Hid (∀ w, Calls Tryd.prog 24 #[(⟨n1, n3, R, v⟩ : Bk).val] w fun e w' => e = .returned (.string L) ∧ ∃ n, w' = (w.alloc (.cells (Bk.row ⟨n1, n3, R, v⟩) 33)).drewN n) :=
          fun w => (line_at ⟨n1, n3, R, v⟩ w (by change R.size ≤ _; omega) HM.out).mono fun _ _ h => ⟨hL ▸ h.1, h.2⟩
        have HL := Lib.hid hL
        clear hL
        have hB : ∀ n, Hid (Below w.heap.size w ((((W1 w n1 n3 R v).alloc (.cells (Bk.row ⟨n1, n3, R, v⟩) 33)).alloc (.cells (Bk.row ⟨n1, n3, R, v⟩) 33)).drewN n)) := fun n => below_drewN_up (((below_W1 w n1 n3 R v).alloc (below_W1 w n1 n3 R v).size _).alloc ((below_W1 w n1 n3 R v).alloc (below_W1 w n1 n3 R v).size _).size _) n
        have hF : ∀ n, Hid (((((W1 w n1 n3 R v).alloc (.cells (Bk.row ⟨n1, n3, R, v⟩) 33)).alloc (.cells (Bk.row ⟨n1, n3, R, v⟩) 33)).drewN n).heap[w.heap.size]? = some (.cells Rbk.bk0.row 33 (0, 0))) := by
          intro n
          show _ = _
          change (((W1 w n1 n3 R v).alloc (.cells (Bk.row ⟨n1, n3, R, v⟩) 33)).alloc (.cells (Bk.row ⟨n1, n3, R, v⟩) 33)).heap[w.heap.size]? = _
          rw [heap_alloc_old _ _ (by simp <;> omega), heap_alloc_old _ _ (by simp <;> omega)]; exact W1_first w n1 n3 R v
        cases hq : (L.toList == s.toList) with
        | false =>
          have HF : Hid (Whose s none) := by
            intro b hb he
            rw [HO.out b hb he] at he
            rw [HL.out, he] at hq
            simp at hq
          have hq2 : (!(L.toList == s.toList)) = true := by rw [hq]; rfl
          go_wp2_with fail
          refine (C.out _).mono ?_
          rintro e w9 ⟨rfl, n9, rfl⟩
          go_wp2
          refine bodyPost_ret (results_row2 rfl _ _ w.heap.size _ Rbk.bk0.row _ _ rfl (put4_row (hF n9).out _ _ _ _) Tryd.underlying33 rfl (by kernel_rfl)) rfl ?_
          exact ⟨none, HF.out, rfl, put4_below (hB n9).out (Nat.le_refl _) _ _ _ _⟩
        | true =>
          have HS : Hid (Whose s (some ⟨n1, n3, R, v⟩)) := by
            refine ⟨HM.out, ?_⟩
            rw [← HL.out]
            exact ba_ext (by simpa [Lib.toList_data] using hq)
          have hq2 : (!(L.toList == s.toList)) = false := by rw [hq]; rfl
          go_wp2_with fail
          refine (C.out _).mono ?_
          rintro e w9 ⟨rfl, n9, rfl⟩
          go_wp2
          refine bodyPost_ret (results_row2 rfl _ _ w.heap.size _ (Bk.row ⟨n1, n3, R, v⟩) _ _ rfl (put4_row (hF n9).out _ _ _ _) Tryd.underlying33 rfl (by kernel_rfl)) rfl ?_
          exact ⟨some ⟨n1, n3, R, v⟩, HS.out, rfl, put4_below (hB n9).out (Nat.le_refl _) _ _ _ _⟩
end Go.Proofs.YtclcbiiijoeplaaDoor.Ron
