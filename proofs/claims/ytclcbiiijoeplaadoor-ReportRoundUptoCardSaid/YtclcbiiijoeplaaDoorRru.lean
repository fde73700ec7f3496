/- drowselaw21.ReportRound. -/
import Derived.Test.YtclcbiiijoeplaaDoorRaw
import Derived.Test.YtclcbiiijoeplaaDoorRlo
import Derived.Test.YtclcbiiijoeplaaDoorRii
import Derived.Test.YtclcbiiijoeplaaDoorRct
import Derived.Test.YtclcbiiijoeplaaDoorRrf
set_option linter.unusedVariables false
namespace Go.Proofs.YtclcbiiijoeplaaDoor.Rru
open Go.RowKit Go.Sort Rwo Rcy Rsl Rowz Rrg Rct Rox Rpr Rlo Rii Slo

theorem infoAs : (Tryd.prog.info? 52).map (fun i => (i.zero, i.size, i.bytes)) = some (some (.agg #[.int .u32 0, .int .u32 0, .int .i64 0, .int .i64 0, .slice none 0 0, .int .u32 0, .int .u32 0]), 7, 56) := by kernel_rfl
/-- In which ring each stands, so far. -/
structure In (g n : Nat) (w2 : World) (D : List Int) (S : Nat → Prop) (w : World) : Prop where
  own : Ints g (.slice (some ⟨g, 0, none⟩) n n) D w
  len : D.length = n
  nn : ∀ x, x < n → 0 ≤ D.getD x 0
  yes : ∀ x, x < n → S x → 0 < D.getD x 0
  no : ∀ x, x < n → ¬ S x → D.getD x 0 = 0
  below : Below g w2 w
theorem In.cell {g n : Nat} {w2 w : World} {D : List Int} {S : Nat → Prop} (h : In g n w2 D S w) {x : Nat} (hx : x < n) : w.cell? ⟨g, x, none⟩ = some (.int .i64 (D.getD x 0)) :=
  Ints.cell h.own (by rw [h.len]; exact hx)
theorem In.drewN {g n : Nat} {w2 w : World} {D : List Int} {S : Nat → Prop} (h : In g n w2 D S w) (q : Nat) : In g n w2 D S (w.drewN q) := ⟨Own.drewN h.own q, h.len, h.nn, h.yes, h.no, ⟨h.below.os, h.below.tape, h.below.output, h.below.size, h.below.block⟩⟩
theorem In.congr {g n : Nat} {w2 w : World} {D : List Int} {S S' : Nat → Prop} (h : In g n w2 D S w) (e : ∀ x, S x ↔ S' x) : In g n w2 D S' w :=
  ⟨h.own, h.len, h.nn, fun x hx hs => h.yes x hx ((e x).2 hs), fun x hx hs => h.no x hx (fun q => hs ((e x).1 q)), h.below⟩
theorem In.put {g n : Nat} {w2 w : World} {D : List Int} {S : Nat → Prop} (h : In g n w2 D S w) {x : Nat} (hx : x < n) {v : Int} (hv : 0 < v) :
    In g n w2 (D.set x v) (fun y => S y ∨ y = x) (w.setCell ⟨g, x, none⟩ (.int .i64 v)) ∧ w.frozen? ⟨g, x, none⟩ = false := by
  have h1 := Rgp.Ints.put h.own (j := x) (by rw [h.len]; exact hx) v
  have e : ∀ y, (D.set x v).getD y 0 = if y = x then v else D.getD y 0 := fun y => Rox.getD_set' (by rw [h.len]; exact hx)
  refine ⟨⟨h1.1, by rw [List.length_set, h.len], fun y hy => ?_, fun y hy hs => ?_, fun y hy hs => ?_, h.below.setCell (p := ⟨g, x, none⟩) (Nat.le_refl _) _⟩, h1.2.1⟩
  · rw [e]; split
    · omega
    · exact h.nn y hy
  · rw [e]; split
    · exact hv
    · exact h.yes y hy (hs.resolve_right (by assumption))
  · rw [e, if_neg (fun q => hs (.inr q))]
    exact h.no y hy (fun q => hs (.inl q))
abbrev ck (w : World) (i hs hg : Int) : World := w.alloc (.cells #[.int .u32 (i + 1), .int .u32 1, .int .i64 (i + 1), .int .i64 7, .slice none 0 0, .int .u32 hs, .int .u32 hg] 52)
theorem arg_cell {w : World} {X : Option Addr} {c : Nat} {l : List Int} (h : Arg i64E w (.slice X l.length c) l) {j : Nat} (hj : j < l.length) : ∃ b o, X = some ⟨b, o, none⟩ ∧ b < w.heap.size ∧ w.cell? ⟨b, o + j, none⟩ = some (.int .i64 (l.getD j 0)) := by
  rcases h with ⟨rfl, _⟩ | ⟨b, o, c', e, h1, h2⟩
  · simp at hj
  · simp only [Value.slice.injEq, true_and] at e
    obtain ⟨rfl, rfl⟩ := e
    refine ⟨b, o, rfl, h1, ?_⟩
    have := h2 j hj 0 (by decide)
    have e : o + j * i64E.z + 0 = o + j := by show o + j * 1 + 0 = _; omega
    rw [e] at this; exact this
set_option maxHeartbeats 8000000 in
set_option maxRecDepth 100000 in
theorem walk (v : Value) (tq : List Int) (w : World) (hf : Hid (IntsFit tq)) (hv : Hid (Arg i64E w v tq)) (hE : Hid (Rev.Env w)) :
    Calls Tryd.prog 6 #[v] w fun e w' => e = .returned (.bool true) ∧ Below w.heap.size w w' := by
  obtain ⟨X, c, rfl⟩ : ∃ X c, v = .slice X tq.length c := by
    rcases hv.out with ⟨rfl, x, c, rfl⟩ | ⟨b, o, c, rfl, _, _⟩
    · exact ⟨x, c, rfl⟩
    · exact ⟨_, c, rfl⟩
  have hlen := hf.out.len
  obtain ⟨n, hn⟩ : ∃ n, n = min tq.length 500 := ⟨_, rfl⟩
  have hn1 : n ≤ tq.length := by omega
  have hn5 : n ≤ 500 := by omega
  have hmin : min (tq.length : Int) 500 = (n : Int) := by omega
  clear hn
  go_enter Tryd.func6, Tryd.ntmps6
  go_wp2_with fail
  refine (Raw.awake_any w hE).mono ?_
  rintro e w1 ⟨rfl, hb1⟩
  have HB1 := Lib.hid hb1
  have HV1 := Lib.hid (hv.out.below hb1)
  clear hb1
  obtain ⟨tl, htl⟩ : ∃ x, tq.length = x := ⟨_, rfl⟩
  rw [htl] at hmin hn1 hlen ⊢
  have HTL := Lib.hid htl
  clear htl
  go_wp2
  clear hmin
  have HB0 : Hid (Below w1.heap.size w1 w1) := Below.refl _ _
  go_loopw [5, 6] (fun v iv wr => ∃ i : Nat, iv = .int .i64 i ∧ i ≤ n ∧ Hid (Own asE 52 w1.heap.size v (lof tq n i) wr) ∧ Hid (Below w1.heap.size w1 wr)) (fun _ iv _ => n - (intOf iv).toNat)
  case atStart => exact ⟨0, rfl, Nat.zero_le _, Own.nil .., HB0.out⟩
  case round =>
    clear HB0
    obtain ⟨i, rfl, hi, HO, HB⟩ := hrel
    by_cases hlt : i < n
    · have hitl : i < tq.length := by rw [HTL.out]; omega
      obtain ⟨bA, oA, rfl, hbA, hcA⟩ := arg_cell HV1.out hitl
      have hcA := hcA
      obtain ⟨x, hx⟩ : ∃ x, tq.getD i 0 = x := ⟨_, rfl⟩
      have hcA1 : wr.cell? ⟨bA, oA + i, none⟩ = some (.int .i64 x) := by rw [← hx, HB.out.cell hbA]; exact hcA
      have hcA2 : (ck wr (i : Int) 0 0).cell? ⟨bA, oA + i, none⟩ = some (.int .i64 x) := by
        rw [World.cell?_alloc_old _ _ _ (by have := HB.out.size; show bA ≠ _; omega)]; exact hcA1
      have hxr : -9223372036854775808 ≤ x ∧ x ≤ 9223372036854775807 := by
        rw [← hx]; exact hf.out.each _ hitl
      obtain ⟨A5, c5, e5⟩ := HO.out.shape
      have el5 := lof_length tq n i
      obtain ⟨L, hL⟩ : ∃ L, lof tq n i = L := ⟨_, rfl⟩
      rw [hL] at HO e5 el5
      rw [el5] at e5
      subst e5
      have HL := Lib.hid hL
      have HX := Lib.hid hx
      clear hL hx hcA
      have hsz := HB.out.size
      have hwz : wr.heap.size + 1 = wr.heap.size + 1 := rfl
      by_cases h0 : 0 ≤ x
      · have h2 := Int.emod_nonneg x (show (n : Int) ≠ 0 by omega)
        have h1 := Int.emod_lt_of_pos x (show (0 : Int) < n by omega)
        obtain ⟨q, hq⟩ : ∃ q : Nat, x % (n : Int) = q := ⟨(x % (n : Int)).toNat, by omega⟩
        have hqn : q < n := by omega
        have HEL : Hid (⟨(i : Int) + 1, 1, (i : Int) + 1, 7, none, 0, 0, (q : Int) + 1, 1⟩ = el tq n i) := by
          show _ = _
          unfold el hs hg
          rw [HX.out, if_pos h0, if_pos h0, hq]
        clear h1 h2
        have HO2 : Hid (Own asE 52 w1.heap.size (.slice A5 i c5) L (ck wr (i : Int) (q + 1) 1)) := HO.out.alloc _
        go_wp2_with (at_builtin; refine Rwo.wpList_append (E := asE) (by rfl) _ _ _ (by rfl) 52 _ 56 Tryd.underlying40 infoAs (by rfl) w1.heap.size _ L (ck wr (i : Int) ((q : Int) + 1) 1) HO2.out (by rfl) ⟨(i : Int) + 1, 1, (i : Int) + 1, 7, none, 0, 0, ((q : Int) + 1), 1⟩ _ (by rfl) _ (wr.heap.size + 1) (by rfl) (by rfl) (by omega) ⟨by rw [World.size_alloc]; omega, World.size_alloc _ _⟩ ?_; intro g6 cp6 w6 hO6 hb6 hfar6 hsz6 hat6)
        have HO6 : Hid (Own asE 52 w1.heap.size (.slice (some ⟨g6, 0, none⟩) (i + 1) cp6) (lof tq n (i + 1)) w6) := by
          show Own _ _ _ _ _ _
          rw [el5] at hO6
          rw [lof_succ, HL.out, ← HEL.out]
          exact hO6
        have HB6 : Hid (Below w1.heap.size w1 w6) := ((HB.out.alloc hsz _).alloc (by rw [World.size_alloc]; omega) _).trans hb6
        clear hO6 hb6 hfar6 hat6
        go_roundw
        case rel => exact ⟨i + 1, by go_num, by omega, HO6, HB6⟩
        case measure => simp [intOf]; omega
      · have HEL : Hid (⟨(i : Int) + 1, 1, (i : Int) + 1, 7, none, 0, 0, 0, 0⟩ = el tq n i) := by
          show _ = _
          unfold el hs hg
          rw [HX.out, if_neg h0, if_neg h0]
        have HO2 : Hid (Own asE 52 w1.heap.size (.slice A5 i c5) L (ck wr (i : Int) 0 0)) := HO.out.alloc _
        go_wp2_with (at_builtin; refine Rwo.wpList_append (E := asE) (by rfl) _ _ _ (by rfl) 52 _ 56 Tryd.underlying40 infoAs (by rfl) w1.heap.size _ L (ck wr (i : Int) 0 0) HO2.out (by rfl) ⟨(i : Int) + 1, 1, (i : Int) + 1, 7, none, 0, 0, 0, 0⟩ _ (by rfl) _ (wr.heap.size + 1) (by rfl) (by rfl) (by omega) ⟨by rw [World.size_alloc]; omega, World.size_alloc _ _⟩ ?_; intro g6 cp6 w6 hO6 hb6 hfar6 hsz6 hat6)
        have HO6 : Hid (Own asE 52 w1.heap.size (.slice (some ⟨g6, 0, none⟩) (i + 1) cp6) (lof tq n (i + 1)) w6) := by
          show Own _ _ _ _ _ _
          rw [el5] at hO6
          rw [lof_succ, HL.out, ← HEL.out]
          exact hO6
        have HB6 : Hid (Below w1.heap.size w1 w6) := ((HB.out.alloc hsz _).alloc (by rw [World.size_alloc]; omega) _).trans hb6
        clear hO6 hb6 hfar6 hat6
        go_roundw
        case rel => exact ⟨i + 1, by go_num, by omega, HO6, HB6⟩
        case measure => simp [intOf]; omega
    · obtain rfl : n = i := by omega
      clear hlt hi
      obtain ⟨Wa, rfl⟩ : ∃ W : World, W = wr := ⟨_, rfl⟩
      obtain ⟨A5, c5, e5⟩ := HO.out.shape
      rw [lof_length] at e5
      subst e5
      have hlies := Lib.hid (Rsl.lies_own HO.out)
      go_wp2_with fail
      refine (Rgn.rings_any _ _ Wa (by rw [lof_length]; omega) hlies.out).mono ?_
      rintro e w2 ⟨v2, vs, rfl, hR, hb2⟩
      rw [lof_length] at hR
      obtain ⟨A2, c2, rfl⟩ := Rox.shape hR
      have HR := Lib.hid hR
      have HB2 : Hid (Below w1.heap.size w1 w2) := HB.out.trans (hb2.mono HB.out.size)
      clear hR hb2 HO HB hlies
      have hsz2 := HB2.out.size
      have hmk := Rgp.run_mk n (by omega) w2
      have HI0 : Hid (In w2.heap.size n w2 (List.replicate n 0) (fun _ => False) (w2.alloc (.cells (madeCells #[.int .i64 0] (n * 1)) 3))) := by
        have e : ∀ x, (List.replicate n (0 : Int)).getD x 0 = 0 := fun x => by
          by_cases hx : x < n <;> simp [List.getD_eq_getElem?_getD, hx]
        exact ⟨Rgp.own_zero n (by omega) w2, by simp, fun x hx => by rw [e]; exact Int.le_refl _, fun x hx h => h.elim, fun x hx _ => e x, (Below.refl _ _).alloc (Nat.le_refl _) _⟩
      rw [Nat.mul_one] at HI0
      go_wp2
      have HV2 := Lib.hid ((HV1.out.below HB2.out))
      have HF := Lib.hid (Rrf.facts tq n)
      obtain ⟨rs, hrs⟩ : ∃ rs, rings (leadsF (lof tq n n)) n = rs := ⟨_, rfl⟩
      obtain ⟨Lr, hLr⟩ : ∃ L, out (lof tq n n) n = L := ⟨_, rfl⟩
      have hvl : vs.length = rs.length := HR.out.len.trans (by rw [← hrs]; simp [out])
      rw [hrs, hLr] at HF
      rw [hLr] at HR
      obtain ⟨m, hm⟩ : ∃ m, vs.length = m := ⟨_, rfl⟩
      rw [hm] at hvl HR
      rw [hm]
      have HM := Lib.hid hm
      have HML := Lib.hid hvl
      have HRS := Lib.hid hrs
      have hmn : m ≤ n := by have := HF.out.len; omega
      have hW := Lib.hid (Rrf.within_lof tq n)
      obtain ⟨gI, hgI⟩ : ∃ g, w2.heap.size = g := ⟨_, rfl⟩
      rw [hgI] at HI0
      rw [hgI]
      have HG := Lib.hid hgI
      clear hm hvl hrs hLr hgI hmk hsz2
      go_loopw [10] (fun iv wr => ∃ (i : Nat) (D : List Int), iv = .int .i64 i ∧ i ≤ m ∧ Hid (In gI n w2 D (Rpr.seen rs i 0) wr)) (fun iv _ => m - (intOf iv).toNat)
      case atStart => exact ⟨0, _, rfl, Nat.zero_le _, HI0.out.congr fun x => by simp [Rpr.seen]⟩
      case round =>
        clear HI0
        obtain ⟨i, D, rfl, hi, HI⟩ := hrel
        by_cases hlt : i < m
        · have hirs : i < rs.length := by rw [← HML.out]; exact hlt
          obtain ⟨wo, rfl⟩ : ∃ W : World, W = wr := ⟨_, rfl⟩
          obtain ⟨g2, c2', e2⟩ := Rox.some_of HR.out (by rw [HM.out]; omega)
          simp only [Value.slice.injEq] at e2
          obtain ⟨rfl, -, rfl⟩ := e2
          have HROW : Hid (∀ j, j < rs.length → ∃ gj cj, ∀ W, Below gI w2 W → W.cell? ⟨g2, j, none⟩ = some (.slice (some ⟨gj, 0, none⟩) (rs.getD j []).length cj) ∧ ∀ k, k < (rs.getD j []).length → W.cell? ⟨gj, k, none⟩ = some (.int .i64 (((rs.getD j []).getD k 0 : Nat) + 1))) := by
            intro j hj
            have hjv : j < vs.length := by rw [HM.out, HML.out]; exact hj
            have hrow := HF.out.row j hj
            have hlen : (Lr.getD j []).length = (rs.getD j []).length := by rw [hrow, List.length_map]
            have hpos := HF.out.pos j hj
            have hI := HR.out.each j hjv
            obtain ⟨Aj, cj, ej⟩ := Rox.row_shape HR.out hjv
            rw [ej] at hI
            obtain ⟨gj, cj', e3, _, _⟩ := shape_some hI (fun e => by rw [e, List.length_nil] at hlen; omega)
            simp only [Value.slice.injEq] at e3
            obtain ⟨rfl, -, rfl⟩ := e3
            rw [hlen] at ej
            refine ⟨gj, cj, fun W hW => ?_⟩
            have HRW := HR.out.below hW (by rw [HG.out]; exact Nat.le_refl _)
            have hI := HRW.each j hjv
            rw [ej] at hI
            refine ⟨?_, fun k hk => ?_⟩
            · rw [Rox.cell HRW rfl hjv, ej]
            · rw [Ints.cell hI (by rw [hlen]; exact hk), hrow]
              generalize rs.getD j [] = row at hk
              simp [List.getD_eq_getElem?_getD, hk]
          -- the row
          obtain ⟨p, hp⟩ : ∃ p, (rs.getD i []).length = p := ⟨_, rfl⟩
          have hp0 : 0 < p := by rw [← hp]; exact HF.out.pos i hirs
          have hpn : p ≤ n := by rw [← hp]; exact HF.out.le i hirs
          obtain ⟨gi, ci, hRI⟩ := HROW.out i hirs
          obtain ⟨hci, hki⟩ := hRI wo HI.out.below
          have hh := hki 0 (by omega)
          obtain ⟨h1, hh1⟩ : ∃ x, (rs.getD i []).getD 0 0 = x := ⟨_, rfl⟩
          rw [hh1] at hh
          rw [hp] at hci
          have HP := Lib.hid hp
          have HH1 := Lib.hid hh1
          have hh1n : h1 < n := by rw [← hh1]; exact HF.out.lt i 0 hirs (by omega)
          have hpz : ((p : Int) == 0) = false := by rw [beq_eq_false_iff_ne]; omega
          have HXI : Hid (∀ i', i' + 1 = i → ∃ gk ck' h0 p', wo.cell? ⟨g2, i', none⟩ = some (.slice (some ⟨gk, 0, none⟩) p' ck') ∧ wo.cell? ⟨gk, 0, none⟩ = some (.int .i64 ((h0 : Nat) + 1)) ∧ h0 < h1 ∧ 0 < p' ∧ p' ≤ n) := by
            intro i' hi'
            have hirs' : i' < rs.length := by omega
            obtain ⟨gk, ck', hRK⟩ := HROW.out i' hirs'
            obtain ⟨hck, hkk⟩ := hRK wo HI.out.below
            have hh0 := hkk 0 (HF.out.pos i' hirs')
            obtain ⟨h0, hh0e⟩ : ∃ x, (rs.getD i' []).getD 0 0 = x := ⟨_, rfl⟩
            rw [hh0e] at hh0
            refine ⟨gk, ck', h0, _, hck, hh0, ?_, HF.out.pos i' hirs', HF.out.le i' hirs'⟩
            have := HF.out.up i' (by omega)
            rw [hi', hh0e, hh1] at this; exact this
          have HRI := Lib.hid hRI
          have HIRS := Lib.hid hirs
          clear hki hh1 hp HROW hirs hRI
          by_cases hi0 : i = 0
          case' pos =>
            have hi1 : decide (0 < i) = false := by rw [decide_eq_false_iff_not]; omega
            clear HXI hi0
            go_wp2_with fail
            go_quiet (fail)
          case' neg =>
            obtain ⟨i', hi'⟩ : ∃ i', i' + 1 = i := ⟨i - 1, by omega⟩
            obtain ⟨gk, ck', h0, p', hck, hh0, h01, hp0', hp1'⟩ := HXI.out i' hi'
            have hi1 : decide (0 < i) = true := by rw [decide_eq_true_eq]; omega
            have hi2 : i' < m := by omega
            have hpi : (i : Int) - 1 = (i' : Int) := by omega
            have hge : decide (h1 ≤ h0) = false := by rw [decide_eq_false_iff_not]; omega
            clear hi0 HXI hi'
            go_wp2_with fail
            go_quiet (fail)
          all_goals
            have HI2 := Lib.hid (HI.out.drewN nq)
            go_wp2
            clear hci hh
            go_loopw [11] (fun iv wq => ∃ (k : Nat) (E : List Int), iv = .int .i64 k ∧ k ≤ p ∧ Hid (In gI n w2 E (Rpr.seen rs i k) wq)) (fun iv _ => p - (intOf iv).toNat)
            case atStart => exact ⟨0, D, rfl, Nat.zero_le _, HI2⟩
            case round =>
              clear HI HI2
              obtain ⟨k, E, rfl, hk, HI⟩ := hrel
              obtain ⟨hci, hki⟩ := HRI.out wr HI.out.below
              rw [HP.out] at hci hki
              by_cases hkp : k < p
              · obtain ⟨a, ha⟩ : ∃ x, (rs.getD i []).getD k 0 = x := ⟨_, rfl⟩
                have hka := hki k hkp
                rw [ha] at hka
                have han : a < n := by rw [← ha]; exact HF.out.lt i k HIRS.out (by rw [HP.out]; exact hkp)
                have hle : h1 ≤ a := by rw [← ha, ← HH1.out]; exact HF.out.least i k HIRS.out (by rw [HP.out]; exact hkp)
                have hnx := HF.out.next i k HIRS.out (by rw [HP.out]; exact hkp)
                have hfr := HF.out.fresh i k HIRS.out (by rw [HP.out]; exact hkp)
                rw [ha, HP.out] at hnx
                rw [ha] at hfr
                obtain ⟨q, hq⟩ : ∃ q, (k + 1) % p = q := ⟨_, rfl⟩
                have hqp : q < p := by rw [← hq]; exact Nat.mod_lt _ hp0
                have hmod : ((k : Int) + 1) % (p : Int) = (q : Int) := by rw [← hq, Int.natCast_emod]; simp
                have hkq := hki q hqp
                have hk0 := hki 0 hp0
                rw [HH1.out] at hk0
                rw [hq] at hnx
                obtain ⟨b, hb⟩ : ∃ x, (rs.getD i []).getD q 0 = x := ⟨_, rfl⟩
                rw [hb] at hnx hkq
                obtain ⟨bA, oA, rfl, hbA, hcA⟩ := arg_cell HV2.out (show a < tq.length by rw [HTL.out]; omega)
                obtain ⟨x, hx⟩ : ∃ x, tq.getD a 0 = x := ⟨_, rfl⟩
                have hxr : -9223372036854775808 ≤ x ∧ x ≤ 9223372036854775807 := by
                  rw [← hx]; exact hf.out.each _ (by rw [HTL.out]; omega)
                rw [hx, ← HI.out.below.cell (by rw [← HG.out]; exact hbA)] at hcA
                unfold tz at hnx
                rw [hx] at hnx
                have hx0 : 0 ≤ x := by
                  rcases Int.lt_or_le x 0 with h | h
                  · rw [if_neg (by omega)] at hnx; cases hnx
                  · exact h
                rw [if_pos hx0] at hnx
                simp only [Option.some.injEq] at hnx
                have hxb : x % (n : Int) = (b : Int) := by
                  have := Int.emod_nonneg x (show (n : Int) ≠ 0 by omega)
                  omega
                have hbn : b < n := by
                  have := Int.emod_lt_of_pos x (show (0 : Int) < n by omega)
                  omega
                have hea : E.getD a 0 = 0 := HI.out.no a han hfr
                have hec := HI.out.cell han
                rw [hea] at hec
                have HA := Lib.hid ha
                clear hnx hfr hea hki hq hx hb ha
                go_wp2_with fail
                go_quiet (fail)
                have FIN := Lib.hid ((HI.out.drewN nq).put han (show (0 : Int) < (i : Int) + 1 by omega))
                have HFZ := FIN.out.2
                go_wp2
                go_roundw
                case rel => exact ⟨k + 1, _, by go_num, by omega, FIN.out.1.congr fun y => by rw [Rpr.seen_step (by rw [HP.out]; exact hkp), HA.out]⟩
                case measure => simp [intOf]; omega
              · have hkp2 : k = p := by omega
                subst hkp2
                have HI3 : Hid (In gI n w2 E (Rpr.seen rs (i + 1) 0) wr) := HI.out.congr fun y => by rw [Rpr.seen_next, HP.out]
                clear hki HI hkp
                go_wp2
                go_roundw
                case rel => exact ⟨i + 1, E, by go_num, by omega, HI3⟩
                case measure => simp [intOf]; omega
        · have him : i = m := by omega
          subst him
          rw [HML.out] at HI
          clear hlt hi
          obtain ⟨Wb, rfl⟩ : ∃ W : World, W = wr := ⟨_, rfl⟩
          go_wp2
          go_loopw [14] (fun iv wr => ∃ j : Nat, iv = .int .i64 j ∧ j ≤ n ∧ Hid (In gI n w2 D (Rpr.seen rs rs.length 0) wr)) (fun iv _ => n - (intOf iv).toNat)
          case atStart => exact ⟨0, rfl, Nat.zero_le _, HI⟩
          case round =>
            clear HI
            obtain ⟨j, rfl, hj, HI⟩ := hrel
            obtain ⟨wo, rfl⟩ : ∃ W : World, W = wr := ⟨_, rfl⟩
            by_cases hlt : j < n
            · go_wp2
              go_loopw [15, 16] (fun av sv wq => ∃ (at_ q : Nat), av = .int .i64 at_ ∧ sv = .int .i64 q ∧ at_ < n ∧ q ≤ n ∧ Hid (Rrf.Wy (leadsF (lof tq n n)) n j q at_) ∧ Hid (In gI n w2 D (Rpr.seen rs rs.length 0) wq)) (fun _ sv _ => n - (intOf sv).toNat)
              case atStart => exact ⟨j, 0, rfl, rfl, hlt, Nat.zero_le _, Rrf.wy_start _ _ _, HI⟩
              case round =>
                clear HI
                obtain ⟨a, q, rfl, rfl, han, hqn, HWY, HI⟩ := hrel
                obtain ⟨bA, oA, rfl, hbA, hcA⟩ := arg_cell HV2.out (show a < tq.length by rw [HTL.out]; omega)
                obtain ⟨x, hx⟩ : ∃ x, tq.getD a 0 = x := ⟨_, rfl⟩
                have hxr : -9223372036854775808 ≤ x ∧ x ≤ 9223372036854775807 := by
                  rw [← hx]; exact hf.out.each _ (by rw [HTL.out]; omega)
                rw [hx, ← HI.out.below.cell (by rw [← HG.out]; exact hbA)] at hcA
                have hec := HI.out.cell han
                have hyes := HI.out.yes a han
                obtain ⟨e, he⟩ : ∃ e, D.getD a 0 = e := ⟨_, rfl⟩
                rw [he] at hec hyes
                have HX := Lib.hid hx
                clear he hx
                by_cases he0 : e = 0
                · subst he0
                  have HNS : Hid (¬ Rpr.seen rs rs.length 0 a) := fun h => by have := hyes h; omega
                  clear hyes
                  by_cases hx0 : 0 ≤ x
                  · obtain ⟨b, hb⟩ : ∃ b : Nat, x % (n : Int) = b := ⟨(x % (n : Int)).toNat, by have := Int.emod_nonneg x (show (n : Int) ≠ 0 by omega); omega⟩
                    have hbn : b < n := by
                      have := Int.emod_lt_of_pos x (show (0 : Int) < n by omega)
                      omega
                    have HW2 : Hid (Rrf.Wy (leadsF (lof tq n n)) n j (q + 1) b) := by
                      refine Rrf.wy_step hW.out hlt HWY.out (by rw [HRS.out]; exact HNS.out) ?_
                      rw [leads_lof han, Rrf.tz_some (by rw [HX.out]; exact hx0), HX.out, hb]
                      rfl
                    have hq1 := HW2.out.le
                    go_wp2
                    go_roundw
                    case rel => exact ⟨b, q + 1, by rw [hb], by go_num, hbn, hq1, HW2, HI⟩
                    case measure => simp [intOf]; omega
                  · go_wp2
                    go_roundw
                    case rel => exact ⟨j + 1, by go_num, by omega, HI⟩
                    case measure => simp [intOf]; omega
                · have heb : (e == 0) = false := by rw [beq_eq_false_iff_ne]; exact he0
                  clear hyes
                  go_wp2
                  go_roundw
                  case rel => exact ⟨j + 1, by go_num, by omega, HI⟩
                  case measure => simp [intOf]; omega
            · go_wp2
              try rw [Exit.noGoto_ret]
              go_ret
              have hz1 := HB1.out.size
              have hz2 := HB2.out.size
              exact ⟨rfl, HB1.out.trans ((HB2.out.mono hz1).trans (HI.out.below.mono (by rw [← HG.out]; omega)))⟩
end Go.Proofs.YtclcbiiijoeplaaDoor.Rru
