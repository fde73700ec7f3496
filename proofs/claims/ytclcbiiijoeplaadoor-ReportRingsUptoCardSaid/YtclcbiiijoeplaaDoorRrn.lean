/- drowselaw21.ReportRings. -/
import Derived.Test.YtclcbiiijoeplaaDoorRaw
import Derived.Test.YtclcbiiijoeplaaDoorRct
import Derived.Test.YtclcbiiijoeplaaDoorRsx
set_option linter.unusedVariables false
namespace Go.Proofs.YtclcbiiijoeplaaDoor.Rrn
open Go.RowKit Go.Sort Rwo Rcy Rsl Rowz Rrg Rct Rox

/-- The first i rows are spoilt. -/
structure Done (i : Nat) (L : List (List Int)) : Prop where
  old : ∀ j, j < i → ∀ k, k < (L.getD j []).length → (L.getD j []).getD k 0 = -5 - (j : Int)
  fresh : ∀ j, i ≤ j → (L.getD j []).length ≤ 500
structure Sp (w2 : World) (a : Value) (n : Nat) (L : List (List Int)) (vs : List SV) (wr : World) : Prop where
  rows : RowsI w2.heap.size a L vs wr
  below : Below w2.heap.size w2 wr
  len : L.length = n
  small : ∀ j, (L.getD j []).length ≤ 600
set_option maxHeartbeats 8000000 in
set_option maxRecDepth 100000 in
theorem walk (v : Value) (l : List As) (w : World) (hl : Hid (l.length ≤ 1048576)) (hv : Hid (LiesC w v l)) (hE : Hid (Rev.Env w)) :
    Calls Tryd.prog 5 #[v] w fun e w' => e = .returned (.bool true) ∧ Below w.heap.size w w' := by
  have hl0 := hl.out
  go_enter Tryd.func5, Tryd.ntmps5
  go_wp2_with fail
  refine (Raw.awake_any w hE).mono ?_
  rintro e w1 ⟨rfl, hb1⟩
  have HB1 := Lib.hid hb1
  have HV1 := Lib.hid (hv.out.below hb1)
  clear hb1
  go_wp2_with fail
  refine (cut_any v l w1 hl0 HV1).mono ?_
  rintro e _ ⟨rfl, v', rfl, hv'⟩
  rename_i w1
  obtain ⟨m, hm⟩ : ∃ m, l.take 500 = m := ⟨_, rfl⟩
  have hm5 : m.length ≤ 500 := by rw [← hm, List.length_take]; omega
  rw [hm] at hv'
  have HVM := Lib.hid hv'.lies
  clear hm hv'
  go_wp2_with fail
  refine (Rrg.rrings_any v' m w1 (by omega) HVM.out).mono ?_
  rintro e w2 ⟨u, us, rfl, hu, hb2⟩
  have HU2 := Lib.hid hu
  have HV2 := Lib.hid (HVM.out.below hb2)
  have HB2 := Lib.hid (HB1.out.trans (hb2.mono HB1.out.size))
  clear hu hb2
  go_wp2_with fail
  refine (Rgn.rings_any v' m w2 (by omega) HV2.out).mono ?_
  rintro e w3 ⟨a, vs, rfl, ha, hb3⟩
  have HS3 : Hid (Sp w2 a (out m m.length).length (out m m.length) vs w3) := ⟨ha, hb3, rfl, fun j => by have := out_rows m j; omega⟩
  have HU3 := Lib.hid (HU2.out.below hb3 (Nat.le_refl _))
  have HRL : Hid (∀ j, ((out m m.length).getD j []).length ≤ 1048576) := fun j => by have := out_rows m j; omega
  have HR5 : Hid (∀ j, ((out m m.length).getD j []).length ≤ 500) := fun j => by have := out_rows m j; omega
  have HOL : Hid ((out m m.length).length ≤ 500) := by have := out_length m m.length; show _ ≤ _; omega
  clear ha hb3
  go_wp2_with fail
  refine (Rsx.same_any (by have := HOL.out; omega) HRL.out HS3.out.rows HU3.out).mono ?_
  rintro e w4 ⟨rfl, q, rfl⟩
  obtain ⟨n, hn⟩ : ∃ n, (out m m.length).length = n := ⟨_, rfl⟩
  rw [hn] at HS3 HOL
  have HN := Lib.hid hn
  have hn5 := HOL.out
  have HS4 : Hid (Sp w2 a n (out m m.length) vs (w3.drewN q)) := ⟨HS3.out.rows.below (Rln.below_drewN_up (Below.refl _ w3) q) (Nat.le_refl _), Rln.below_drewN_up HS3.out.below q, HS3.out.len, HS3.out.small⟩
  obtain ⟨A5, c5, rfl⟩ := Rox.shape HS4.out.rows
  have hvl : vs.length = n := by rw [HS4.out.rows.len]; exact HS4.out.len
  rw [hvl] at HS4
  rw [hvl]
  obtain ⟨w4, hw4⟩ : ∃ W, W = w3.drewN q := ⟨_, rfl⟩
  rw [← hw4] at HS4
  rw [← hw4]
  clear hw4 HS3 HU3 hn hvl
  go_wp2_with fail
  go_loopw [7] (fun iv wr => ∃ (i : Nat) (L : List (List Int)) (vs : List SV), iv = .int .i64 i ∧ i ≤ n ∧ Hid (Sp w2 (.slice A5 n c5) n L vs wr) ∧ Hid (Done i L)) (fun iv _ => n - (intOf iv).toNat)
  case atStart => exact ⟨0, _, vs, rfl, Nat.zero_le _, HS4, ⟨fun j hj => absurd hj (by omega), fun j _ => HR5.out j⟩⟩
  case round =>
    clear HS4
    obtain ⟨i, L, vs, rfl, hi, HS, HD⟩ := hrel
    by_cases hlt : i < n
    · have hvl : vs.length = n := by rw [HS.out.rows.len]; exact HS.out.len
      obtain ⟨g5, k5, e5⟩ := some_of HS.out.rows (by omega)
      simp only [Value.slice.injEq] at e5
      obtain ⟨rfl, -, rfl⟩ := e5
      obtain ⟨wo, rfl⟩ : ∃ W : World, W = wr := ⟨_, rfl⟩
      obtain ⟨ra, rc, hrow⟩ := row_shape HS.out.rows (i := i) (by omega)
      obtain ⟨mm, hmm⟩ : ∃ x, (L.getD i []).length = x := ⟨_, rfl⟩
      have hm6 : mm ≤ 500 := by rw [← hmm]; exact HD.out.fresh i (Nat.le_refl _)
      rw [hmm] at hrow
      have HROW := Lib.hid hrow
      have HMM := Lib.hid hmm
      clear hrow hmm
      go_wp2

      go_loopw [8] (fun kv wq => ∃ (k : Nat) (L2 : List (List Int)), kv = .int .i64 k ∧ k ≤ mm ∧ Hid (Sp w2 (.slice (some ⟨g5, 0, none⟩) n c5) n L2 vs wq) ∧ Hid (Done i L2) ∧ Hid ((L2.getD i []).length = mm ∧ ∀ j, j < k → (L2.getD i []).getD j 0 = -5 - (i : Int))) (fun kv _ => mm - (intOf kv).toNat)
      case atStart => exact ⟨0, L, rfl, Nat.zero_le _, HS, HD, HMM.out, fun j hj => absurd hj (by omega)⟩
      case round =>
        clear HS HD
        obtain ⟨k, L2, rfl, hk, HS, HD, HP⟩ := hrel
        have d5 : wr.cell? ⟨g5, i, none⟩ = some (.slice ra mm rc) := by
          have := Rox.cell HS.out.rows rfl (i := i) (by omega)
          rw [HROW.out] at this; exact this
        by_cases hkm : k < mm
        · have hne : L2.getD i [] ≠ [] := fun e => by have := HP.out.1; rw [e] at this; simp at this; omega
          have hI := HS.out.rows.each i (by omega)
          rw [HROW.out] at hI
          obtain ⟨h6, p6, e6, _⟩ := shape_some hI hne
          simp only [Value.slice.injEq] at e6
          obtain ⟨rfl, -, rfl⟩ := e6
          have c6 := Ints.cell hI (j := k) (by rw [HP.out.1]; exact hkm)
          have f6 := Own.frozen hI k
          have hst := Rox.store HS.out.rows (i := i) (by omega) HROW.out (k := k) (by rw [HP.out.1]; exact hkm) (-5 - (i : Int))
          have hI6 := (hI.lt (k := h6) rfl).1
          have gset : ∀ j, (L2.set i ((L2.getD i []).set k (-5 - (i : Int)))).getD j [] = if j = i then (L2.getD i []).set k (-5 - (i : Int)) else L2.getD j [] := fun j => getD_set' (by rw [HS.out.len]; exact hlt)
          have HS2 : Hid (Sp w2 (.slice (some ⟨g5, 0, none⟩) n c5) n (L2.set i ((L2.getD i []).set k (-5 - (i : Int)))) vs (wr.setCell ⟨h6, k, none⟩ (.int .i64 (-5 - (i : Int))))) := by
            refine ⟨hst, HS.out.below.setCell (p := ⟨h6, k, none⟩) hI6 _, by rw [List.length_set]; exact HS.out.len, fun j => ?_⟩
            rw [gset]
            split
            · rw [List.length_set]; exact HS.out.small i
            · exact HS.out.small j
          have HD2 : Hid (Done i (L2.set i ((L2.getD i []).set k (-5 - (i : Int))))) := ⟨fun j hj => by
            rw [gset, if_neg (by omega)]; exact HD.out.old j hj, fun j hj => by
            rw [gset]
            split
            · rw [List.length_set]; exact HD.out.fresh i (Nat.le_refl _)
            · exact HD.out.fresh j hj⟩
          have HP2 : Hid (((L2.set i ((L2.getD i []).set k (-5 - (i : Int)))).getD i []).length = mm ∧ ∀ j, j < k + 1 → ((L2.set i ((L2.getD i []).set k (-5 - (i : Int)))).getD i []).getD j 0 = -5 - (i : Int)) := by
            rw [gset, if_pos rfl]
            refine ⟨by rw [List.length_set]; exact HP.out.1, fun j hj => ?_⟩
            rw [getD_set' (by rw [HP.out.1]; exact hkm)]
            split
            · rfl
            · exact HP.out.2 j (by omega)
          obtain ⟨x6, hx6⟩ : ∃ x, (L2.getD i []).getD k 0 = x := ⟨_, rfl⟩
          rw [hx6] at c6
          clear hI hst gset hx6 hne
          go_wp2
          go_roundw
          case rel => exact ⟨k + 1, _, by go_num, by omega, HS2, HD2, HP2⟩
          case measure => simp [intOf]; omega
        · have hke : k = mm := by omega
          subst hke
          have hI := HS.out.rows.each i (by omega)
          rw [HROW.out] at hI
          have HI := Lib.hid hI
          have hlr := HP.out.1
          obtain ⟨R, hR⟩ : ∃ R, R = L2.getD i [] := ⟨_, rfl⟩
          rw [← hR] at HI hlr
          have HR := Lib.hid hR
          have hw2 : w2.heap.size ≤ wr.heap.size := HS.out.below.size
          clear hI hR
          have hk6 : k ≤ 500 := hm6
          go_wp2_with (at_builtin; refine wpList_appends (E := i64E) (by rfl) _ _ _ (by rfl) 3 _ 8 Tryd.underlying45 infoInt (by rfl) w2.heap.size _ R wr HI.out (by rfl) [-5 - (i : Int), -5 - (i : Int)] _ (by rfl) _ wr.heap.size (by rfl) (by rfl) (by simp) (by simp only [List.length_cons, List.length_nil]; omega) ⟨hw2, rfl⟩ ?_; intro g7 cp7 w7 hO7 hb7 hfar7 hsz7 hat7; obtain ⟨p1, p2⟩ := swap_pre HS.out.rows (i := i) (by omega) rfl (by rw [HROW.out]; exact hfar7))
          have hO8 : Ints w2.heap.size (SV.val ⟨some ⟨g7, 0, none⟩, k + 2, cp7⟩) (R ++ [-5 - (i : Int), -5 - (i : Int)]) w7 := by
            rw [← hlr]; exact hO7
          have hsw := swap HS.out.rows (i := i) (by omega) rfl hO8 (by rw [HROW.out]; exact hfar7) (fun b hb => by rw [HROW.out]; cases hb; exact hat7)
          have gset : ∀ j, (L2.set i (R ++ [-5 - (i : Int), -5 - (i : Int)])).getD j [] = if j = i then R ++ [-5 - (i : Int), -5 - (i : Int)] else L2.getD j [] := fun j => getD_set' (by rw [HS.out.len]; exact hlt)
          have hg5 : w2.heap.size ≤ g5 := (HS.out.rows.out.lt (k := g5) rfl).1
          have HS2 : Hid (Sp w2 (.slice (some ⟨g5, 0, none⟩) n c5) n (L2.set i (R ++ [-5 - (i : Int), -5 - (i : Int)])) (vs.set i ⟨some ⟨g7, 0, none⟩, k + 2, cp7⟩) (w7.setCell ⟨g5, i, none⟩ (.slice (some ⟨g7, 0, none⟩) (k + 2) cp7))) := by
            refine ⟨hsw, ((HS.out.below.alloc hw2 (.cells #[.int .i64 (-5 - (i : Int)), .int .i64 (-5 - (i : Int))] 3)).trans hb7).setCell (p := ⟨g5, i, none⟩) hg5 _, by rw [List.length_set]; exact HS.out.len, fun j => ?_⟩
            rw [gset]
            split
            · rw [List.length_append, hlr]; simp; omega
            · exact HS.out.small j
          have HD2 : Hid (Done (i + 1) (L2.set i (R ++ [-5 - (i : Int), -5 - (i : Int)]))) := ⟨fun j hj x hx => by
            rw [gset] at hx ⊢
            by_cases hji : j = i
            · subst hji
              rw [if_pos rfl] at hx ⊢
              rw [List.length_append, hlr] at hx
              by_cases hxk : x < k
              · have h9 := HP.out.2 x hxk
                rw [← HR.out] at h9
                rw [← h9]
                simp only [List.getD_eq_getElem?_getD]
                rw [List.getElem?_append_left (by omega)]
              · simp only [List.getD_eq_getElem?_getD]
                rw [List.getElem?_append_right (by omega), hlr]
                have hx2 : x - k = 0 ∨ x - k = 1 := by simp at hx; omega
                rcases hx2 with h9 | h9 <;> rw [h9] <;> rfl
            · rw [if_neg hji] at hx ⊢
              exact HD.out.old j (by omega) x hx, fun j hj => by
            rw [gset, if_neg (by omega)]; exact HD.out.fresh j (by omega)⟩
          clear hO7 hb7 hfar7 hat7 hO8 hsw gset
          go_wp2
          go_roundw
          case rel => exact ⟨i + 1, _, _, by go_num, by omega, HS2, HD2⟩
          case measure => simp [intOf]; omega
    · obtain rfl : n = i := by omega
      obtain ⟨w8, rfl⟩ : ∃ W : World, W = wr := ⟨_, rfl⟩
      have hvl : vs.length = n := by rw [HS.out.rows.len]; exact HS.out.len
      have HVL := Lib.hid hvl
      clear hvl hlt hi
      go_wp2_with fail
      go_loopw [9] (fun iv wq => ∃ i : Nat, iv = .int .i64 i ∧ i ≤ n ∧ wq = w8) (fun iv _ => n - (intOf iv).toNat)
      case atStart => exact ⟨0, rfl, Nat.zero_le _, rfl⟩
      case round =>
        obtain ⟨i, rfl, hi, rfl⟩ := hrel
        by_cases hlt : i < n
        · obtain ⟨g5, k5, e5⟩ := some_of HS.out.rows (by rw [HVL.out]; omega)
          simp only [Value.slice.injEq] at e5
          obtain ⟨rfl, -, rfl⟩ := e5
          obtain ⟨ra, rc, hrow⟩ := row_shape HS.out.rows (i := i) (by rw [HVL.out]; exact hlt)
          obtain ⟨mm, hmm⟩ : ∃ x, (L.getD i []).length = x := ⟨_, rfl⟩
          have hm6 : mm ≤ 600 := by rw [← hmm]; exact HS.out.small i
          rw [hmm] at hrow
          have HROW := Lib.hid hrow
          have HMM := Lib.hid hmm
          have d5 : wr.cell? ⟨g5, i, none⟩ = some (.slice ra mm rc) := by
            have := Rox.cell HS.out.rows rfl (i := i) (by rw [HVL.out]; exact hlt)
            rw [hrow] at this; exact this
          clear hrow hmm
          obtain ⟨wo, rfl⟩ : ∃ W : World, W = wr := ⟨_, rfl⟩
          go_wp2
          go_loopw [10] (fun kv wq => ∃ k : Nat, kv = .int .i64 k ∧ k ≤ mm ∧ wq = wo) (fun kv _ => mm - (intOf kv).toNat)
          case atStart => exact ⟨0, rfl, Nat.zero_le _, rfl⟩
          case round =>
            obtain ⟨k, rfl, hk, rfl⟩ := hrel
            by_cases hkm : k < mm
            · have hne : L.getD i [] ≠ [] := fun e => by have := HMM.out; rw [e] at this; simp at this; omega
              have hI := HS.out.rows.each i (by rw [HVL.out]; exact hlt)
              rw [HROW.out] at hI
              obtain ⟨h6, p6, e6, _⟩ := shape_some hI hne
              simp only [Value.slice.injEq] at e6
              obtain ⟨rfl, -, rfl⟩ := e6
              have c6 := Ints.cell hI (j := k) (by rw [HMM.out]; exact hkm)
              rw [HD.out.old i hlt k (by rw [HMM.out]; exact hkm)] at c6
              have hq : ((-5 - (i : Int)) != (-5 - (i : Int))) = false := by simp
              clear hne hI
              go_wp2
              go_roundw
              case rel => exact ⟨k + 1, by go_num, by omega, by trivial⟩
              case measure => simp [intOf]; omega
            · go_wp2
              go_roundw
              case rel => exact ⟨i + 1, by go_num, by omega, by trivial⟩
              case measure => simp [intOf]; omega
        · have HV8 := Lib.hid (HV2.out.below HS.out.below)
          have HU8 := Lib.hid (HU2.out.below HS.out.below (Nat.le_refl _))
          have HB8 := Lib.hid (HB2.out.trans (HS.out.below.mono HB2.out.size))
          go_wp2_with fail
          refine (Rgn.rings_any v' m wr (by omega) HV8.out).mono ?_
          rintro e w9 ⟨v9, vs9, rfl, hR9, hb9⟩
          have HR9 := Lib.hid hR9
          have HU9 := Lib.hid (HU8.out.below hb9 (Nat.le_refl _))
          have HB9 := Lib.hid (HB8.out.trans (hb9.mono HB8.out.size))
          clear hR9 hb9
          go_wp2_with fail
          refine (Rsx.same_any (by rw [HN.out]; omega) HRL.out HR9.out HU9.out).mono ?_
          rintro e w10 ⟨rfl, q9, rfl⟩
          go_wp2
          go_ret
          exact ⟨rfl, Rln.below_drewN_up HB9.out q9⟩
end Go.Proofs.YtclcbiiijoeplaaDoor.Rrn
