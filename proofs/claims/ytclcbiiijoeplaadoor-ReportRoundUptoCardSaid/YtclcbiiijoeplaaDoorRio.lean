/- report.one. -/
import Derived.Test.YtclcbiiijoeplaaDoorRsp
import Derived.Test.YtclcbiiijoeplaaDoorRnm
import Derived.Test.YtclcbiiijoeplaaDoorRev
import Derived.Test.YtclcbiiijoeplaaDoorDrw
import Derived.Test.YtclcbiiijoeplaaDoorRon
import Derived.Test.YtclcbiiijoeplaaDoorRtw
set_option linter.unusedVariables false
namespace Go.Proofs.YtclcbiiijoeplaaDoor.Rio
open Go.RowKit Go.Sort Rpl Rwd Rmy Rln Rpp Rpq Rwo Rbk Rpt Rrd Rsp Rnp Ron

/-- How report.one answers. -/
def Post (s : ByteArray) (line : Int) (w : World) (e : Ending) (w' : World) : Prop := Below w.heap.size w w' ∧ match whoseOf s with
  | some b => e = .returned (.tuple #[b.val, .nilIface])
  | none => ∃ g, e = .returned (.tuple #[Rbk.bk0.val, .iface 71 (.pointer (some ⟨g, 0, none⟩))]) ∧ w.heap.size ≤ g ∧ w'.heap[g]? = some (.cells #[.int .i64 line] 75 (0, 0))
theorem six_whose {s x0 x1 x2 x3 x4 r : ByteArray} (e : s.data.toList = parts x0.data.toList x1.data.toList x2.data.toList x3.data.toList x4.data.toList r.data.toList)
    (h0 : solid x0.data.toList) (h1 : solid x1.data.toList) (h2 : solid x2.data.toList) (h3 : solid x3.data.toList) (h4 : solid x4.data.toList)
    (h : ∀ b, may b = true → x0.data.toList = gor → x1 = dec b.ser → x2.data.toList = Rpp.lin → x3 = dec b.lin → x4 = wd b.on → r = b.fn → False) : whoseOf s = none :=
  whose_eq fun b hb he => by
    obtain ⟨e0, e1, e2, e3, e4, e5⟩ := whose_fields e h0 h1 h2 h3 h4 hb he
    exact h b hb e0 e1 e2 e3 e4 e5
theorem six_some {s x0 x1 x2 x3 x4 r : ByteArray} {n1 n3 on : Int} (e : s.data.toList = parts x0.data.toList x1.data.toList x2.data.toList x3.data.toList x4.data.toList r.data.toList)
    (hx0 : x0.data.toList = gor) (hx2 : x2.data.toList = Rpp.lin) (k1 : Num x1 1 n1 true) (k3 : Num x3 0 n3 true) (ho1 : 1 ≤ on) (ho2 : on ≤ 8) (hx4 : wd on = x4) (h10 : (10 : UInt8) ∉ s.data.toList) : whoseOf s = some ⟨n1, n3, r, on⟩ := by
  refine whose_eq ⟨?_, ?_⟩
  · have hf : flat r.data.toList = true := by
      rw [flat, List.all_eq_true]
      intro c hc
      have : c ≠ 10 := fun h => h10 (by
        rw [e, ← h]; unfold parts
        simp [hc])
      simpa using this
    unfold may
    rw [show (⟨n1, n3, r, on⟩ : Bk).fn = r from rfl, hf, (inb_iff _).2 ⟨k1.2.1, k1.2.2, k3.2.1, k3.2.2, ho1, ho2⟩]; rfl
  · refine ba_ext ?_
    rw [line_parts, e, hx0, hx2, ← k1.1, ← k3.1, hx4]
theorem bk_cells {W : World} {g : Nat} {b : Bk} (h : W.heap[g]? = some (.cells b.row 33 (0, 0))) : W.cell? ⟨g, 0, none⟩ = some (.int .i64 b.ser) ∧ W.cell? ⟨g, 1, none⟩ = some (.int .i64 b.lin) ∧ W.cell? ⟨g, 2, none⟩ = some (.string b.fn) ∧ W.cell? ⟨g, 3, none⟩ = some (.int .i64 b.on) := by
  refine ⟨?_, ?_, ?_, ?_⟩ <;> (rw [Lib.cell_of_heap h]; rfl)
/-- The world of the first blocks. -/
abbrev W1 (w : World) (cs : Array Value) : World := (w.alloc (.cells Rbk.bk0.row 33)).alloc (.cells cs 9)
theorem below_W1 (w : World) (cs : Array Value) : Below w.heap.size w (W1 w cs) := by
  have h1 := (Below.refl _ w).alloc (Nat.le_refl _) (.cells Rbk.bk0.row 33)
  exact h1.alloc h1.size _
theorem W1_first (w : World) (cs : Array Value) : (W1 w cs).heap[w.heap.size]? = some (.cells Rbk.bk0.row 33 (0, 0)) := by
  rw [heap_alloc_old _ _ (by simp), heap_alloc_new]
/-- Behind the fault: its box is laid, the result's row is nought. -/
theorem fault_end {w W : World} {line : Int} (hb : Below w.heap.size w W) (hf : W.heap[w.heap.size]? = some (.cells Rbk.bk0.row 33 (0, 0))) :
    ((put4 W w.heap.size (.int .i64 0) (.int .i64 0) (.string ⟨#[]⟩) (.int .i64 0)).alloc (.cells #[.int .i64 line] 75)).heap[w.heap.size]? = some (.cells Rbk.bk0.row 33 (0, 0)) ∧
    Below w.heap.size w ((put4 W w.heap.size (.int .i64 0) (.int .i64 0) (.string ⟨#[]⟩) (.int .i64 0)).alloc (.cells #[.int .i64 line] 75)) ∧
    w.heap.size ≤ W.heap.size ∧
    ((put4 W w.heap.size (.int .i64 0) (.int .i64 0) (.string ⟨#[]⟩) (.int .i64 0)).alloc (.cells #[.int .i64 line] 75)).heap[W.heap.size]? = some (.cells #[.int .i64 line] 75 (0, 0)) := by
  have hlt : w.heap.size < W.heap.size := (Array.getElem?_eq_some_iff.1 hf).1
  have hz : (put4 W w.heap.size (.int .i64 0) (.int .i64 0) (.string ⟨#[]⟩) (.int .i64 0)).heap.size = W.heap.size := by simp [put4]
  have h1 := put4_row hf (.int .i64 0) (.int .i64 0) (.string ⟨#[]⟩) (.int .i64 0)
  refine ⟨by rw [heap_alloc_old _ _ (by rw [hz]; exact hlt)]; exact h1, (put4_below hb (Nat.le_refl _) _ _ _ _).alloc (by rw [hz]; omega) _, by omega, ?_⟩
  rw [← hz]; exact heap_alloc_new _ _
theorem fault_plain {w W : World} {line : Int} (hb : Below w.heap.size w W) (hf : W.heap[w.heap.size]? = some (.cells Rbk.bk0.row 33 (0, 0))) :
    (W.alloc (.cells #[.int .i64 line] 75)).heap[w.heap.size]? = some (.cells Rbk.bk0.row 33 (0, 0)) ∧
    Below w.heap.size w (W.alloc (.cells #[.int .i64 line] 75)) ∧
    w.heap.size ≤ W.heap.size ∧
    (W.alloc (.cells #[.int .i64 line] 75)).heap[W.heap.size]? = some (.cells #[.int .i64 line] 75 (0, 0)) := by
  have hlt : w.heap.size < W.heap.size := (Array.getElem?_eq_some_iff.1 hf).1
  have h1 : (W.alloc (.cells #[.int .i64 line] 75)).heap[w.heap.size]? = some (.cells Rbk.bk0.row 33 (0, 0)) := by rw [heap_alloc_old _ _ hlt]; exact hf
  exact ⟨h1, hb.alloc (by omega) _, by omega, heap_alloc_new W _⟩
set_option maxHeartbeats 4000000 in
set_option maxRecDepth 100000 in
theorem one_any (s : ByteArray) (line : Int) (w : World) (hs : s.size ≤ 33554432) (hE : Hid (Rev.Env w)) (h10 : Hid ((10 : UInt8) ∉ s.data.toList)) :
    Calls Tryd.prog 35 #[.string s, .int .i64 line] w (Post s line w) := by
  go_enter Tryd.func35, Tryd.ntmps35
  go_wp2_with fail
  have hE1 : Hid (Rev.Env (w.alloc (.cells Rbk.bk0.row 33))) := hE.out.below ((Below.refl _ _).alloc (Nat.le_refl _) _)
  obtain ⟨m, hm⟩ := hE1.out.len
  refine (splitn s m _ (by omega) hm).mono ?_
  clear hm
  rintro e w1 ⟨F, n, hF, hFn, rfl, rfl⟩
  cases hF with
  | few _ hF1 hw =>
    have HW : Hid (whoseOf s = none) := whose_eq hw
    clear hw
    have HE2 := Lib.hid (fault_plain (line := line) (below_W1 w (Lib.cellsOf F n)) (W1_first w (Lib.cellsOf F n)))
    go_wp2
    refine bodyPost_ret (results_row2 rfl _ _ w.heap.size _ _ _ _ rfl HE2.out.1 Tryd.underlying33 rfl (by kernel_rfl)) rfl ?_
    refine ⟨HE2.out.2.1, ?_⟩
    rw [HW.out]
    have h3 := HE2.out.2.2.2
    rw [show (W1 w (Lib.cellsOf F n)).heap.size = w.heap.size + 1 + 1 by simp] at h3
    exact ⟨w.heap.size + 1 + 1, rfl, by omega, h3⟩
  | six x0 x1 x2 x3 x4 r e h0 h1 h2 h3 h4 =>
    have hn : 6 ≤ n := hFn
    obtain ⟨d, rfl⟩ : ∃ d, n = d + 6 := ⟨n - 6, by omega⟩
    have HSX : Hid (∀ j y, [x0, x1, x2, x3, x4, r][j]? = some y → (W1 w (Lib.cellsOf [x0, x1, x2, x3, x4, r] (d + 6))).cell? ⟨w.heap.size + 1, j, none⟩ = some (.string y)) := by
      intro j y hy
      have hw1 : (W1 w (Lib.cellsOf [x0, x1, x2, x3, x4, r] (d + 6))).heap[w.heap.size + 1]? = some (.cells (Lib.cellsOf [x0, x1, x2, x3, x4, r] (d + 6)) 9 (0, 0)) := by
        have := heap_alloc_new (w.alloc (.cells Rbk.bk0.row 33)) (.cells (Lib.cellsOf [x0, x1, x2, x3, x4, r] (d + 6)) 9)
        simpa using this
      rw [Lib.cell_of_heap hw1]
      unfold Lib.cellsOf
      have hj : j < 6 := (List.getElem?_eq_some_iff.1 hy).1
      rw [List.getElem?_toArray, List.getElem?_append_left (by simpa using hj), List.getElem?_map, hy]; rfl
    have k0 := HSX.out 0 x0 rfl
    have k2 := HSX.out 2 x2 rfl
    have k1 := HSX.out 1 x1 rfl
    obtain ⟨W, hW⟩ : ∃ W, W = W1 w (Lib.cellsOf [x0, x1, x2, x3, x4, r] (d + 6)) := ⟨_, rfl⟩
    have HWB : Hid (Below w.heap.size w W) := by rw [hW]; exact below_W1 w _
    have HWF : Hid (W.heap[w.heap.size]? = some (.cells Rbk.bk0.row 33 (0, 0))) := by show _ = _; rw [hW]; exact W1_first w _
    have hWz : W.heap.size = w.heap.size + 1 + 1 := by rw [hW]; simp
    have c0 := bk_cells HWF.out
    obtain ⟨c00, c01, c02, c03⟩ := c0
    have f00 := Lib.frozen_of_heap HWF.out 0
    have f01 := Lib.frozen_of_heap HWF.out 1
    have f02 := Lib.frozen_of_heap HWF.out 2
    have f03 := Lib.frozen_of_heap HWF.out 3
    rw [← hW] at k0 k1 k2
    have HSW : Hid (∀ j y, [x0, x1, x2, x3, x4, r][j]? = some y → W.cell? ⟨w.heap.size + 1, j, none⟩ = some (.string y)) := by rw [hW]; exact HSX.out
    have hW2 : ((w.alloc (.cells #[.int .i64 0, .int .i64 0, .string ⟨#[]⟩, .int .i64 0] 33)).alloc (.cells (Lib.cellsOf [x0, x1, x2, x3, x4, r] (d + 6)) 9)) = W := hW.symm
    rw [show ((w.alloc (.cells Rbk.bk0.row 33)).alloc (.cells (Lib.cellsOf [x0, x1, x2, x3, x4, r] (d + 6)) 9)) = W from hW.symm]
    clear hW hW2 hFn
    have HE2 : ∀ W', Below W.heap.size W W' → Hid _ := fun W' hb => Lib.hid (fault_end (line := line) (HWB.out.trans (hb.mono HWB.out.size)) ((hb.block _ (by omega)).trans HWF.out))
    have key : ∀ {x : ByteArray} {l : List UInt8}, ((x.toList == l) = true ∧ (!(x.toList == l)) = false ∧ x.data.toList = l) ∨ ((x.toList == l) = false ∧ (!(x.toList == l)) = true ∧ x.data.toList ≠ l) := by
      intro x l
      cases h : (x.toList == l) with
      | true => exact .inl ⟨rfl, rfl, by rw [← Lib.toList_data]; simpa using h⟩
      | false => exact .inr ⟨rfl, rfl, by rw [← Lib.toList_data]; simpa using h⟩
    have key0 := key (x := x0) (l := gor)
    have key2 := key (x := x2) (l := Rpp.lin)
    rcases key0 with ⟨q0, q0', p0⟩ | ⟨q0, q0', p0⟩
    rotate_left
    · have HW : Hid (whoseOf s = none) := six_whose e h0 h1 h2 h3 h4 fun b _ e0 _ _ _ _ _ => p0 e0
      unfold gor at q0 q0'
      have HEE := HE2 W (Below.refl _ _)
      clear e h0 h1 h2 h3 h4 key key2 HE2 p0
      go_wp2
      refine bodyPost_ret (results_row2 rfl _ _ w.heap.size _ _ _ _ rfl HEE.out.1 Tryd.underlying33 rfl (by kernel_rfl)) rfl ?_
      refine ⟨HEE.out.2.1, ?_⟩
      rw [HW.out]
      exact ⟨w.heap.size + 1 + 1, rfl, by omega, hWz ▸ HEE.out.2.2.2⟩
    rcases key2 with ⟨q2, q2', p2⟩ | ⟨q2, q2', p2⟩
    rotate_left
    · have HW : Hid (whoseOf s = none) := six_whose e h0 h1 h2 h3 h4 fun b _ _ _ e2 _ _ _ => p2 e2
      unfold gor at q0 q0'
      unfold Rpp.lin at q2 q2'
      have HEE := HE2 W (Below.refl _ _)
      clear e h0 h1 h2 h3 h4 key HE2 p0 p2
      go_wp2
      refine bodyPost_ret (results_row2 rfl _ _ w.heap.size _ _ _ _ rfl HEE.out.1 Tryd.underlying33 rfl (by kernel_rfl)) rfl ?_
      refine ⟨HEE.out.2.1, ?_⟩
      rw [HW.out]
      exact ⟨w.heap.size + 1 + 1, rfl, by omega, hWz ▸ HEE.out.2.2.2⟩
    unfold gor at q0 q0'
    unfold Rpp.lin at q2 q2'
    have HP : Hid (x0.data.toList = gor ∧ x2.data.toList = Rpp.lin) := ⟨p0, p2⟩
    have HX := Lib.hid e
    have HSOL : Hid (solid x0.data.toList ∧ solid x1.data.toList ∧ solid x2.data.toList ∧ solid x3.data.toList ∧ solid x4.data.toList) := ⟨h0, h1, h2, h3, h4⟩
    have hxs : ∀ x ∈ [x1, x3], x.size ≤ 4611686018427387904 := by
      have hl := congrArg List.length e
      unfold parts at hl
      simp only [List.length_append, List.length_cons, list_size] at hl
      intro x hx
      simp only [List.mem_cons, List.not_mem_nil, or_false] at hx
      rcases hx with rfl | rfl <;> omega
    have hx1 := hxs x1 (by simp)
    have hx3 := hxs x3 (by simp)
    have HCS : Hid (∀ W', Below W.heap.size W W' → ∀ j y, [x0, x1, x2, x3, x4, r][j]? = some y → W'.cell? ⟨w.heap.size + 1, j, none⟩ = some (.string y)) := by
      intro W' hb j y hy
      exact (hb.cell (p := ⟨w.heap.size + 1, j, none⟩) (by show w.heap.size + 1 < W.heap.size; omega)).trans (HSW.out j y hy)
    clear e h0 h1 h2 h3 h4 key p0 p2 hxs
    go_wp2_with fail
    refine (Rnm.number_any x1 1 W (by omega) (by omega) hx1).mono ?_
    rintro e W2 ⟨n1, ok1, rfl, K1, hb2⟩
    have HK1 := Lib.hid K1
    have k3 := HCS.out W2 hb2 3 x3 rfl
    clear k0 k1 k2 c00 c01 c02 c03 f00 f01 f02 f03 K1
    go_wp2_with fail
    refine (Rnm.number_any x3 0 W2 (by omega) (by omega) hx3).mono ?_
    rintro e W3 ⟨n3, ok3, rfl, K3, hb3⟩
    have HK3 := Lib.hid K3
    have HB3 : Hid (Below W.heap.size W W3) := hb2.trans (hb3.mono hb2.size)
    clear k3 K3 hb2 hb3
    have hz3 := HB3.out.size
    have hoks : (ok1 = false ∨ ok1 = true ∧ ok3 = false) ∨ (ok1 = true ∧ ok3 = true) := by cases ok1 <;> cases ok3 <;> simp
    rcases hoks with hno | ⟨rfl, rfl⟩
    · have HW : Hid (whoseOf s = none) := six_whose HX.out HSOL.out.1 HSOL.out.2.1 HSOL.out.2.2.1 HSOL.out.2.2.2.1 HSOL.out.2.2.2.2 fun b hb _ e1 _ e3 _ _ => by
        obtain ⟨a1, a2, a3, a4, a5, a6⟩ := may_in hb
        rcases hno with h | h
        · have := HK1.out; rw [h] at this
          exact this b.ser a1 a2 e1
        · have := HK3.out; rw [h.2] at this
          exact this b.lin a3 a4 e3
      have HEE := HE2 W3 HB3.out
      have hf3 := (HB3.out.block _ (by omega)).trans HWF.out
      have HF3 := Lib.hid hf3
      obtain ⟨c00, c01, c02, c03⟩ := bk_cells hf3
      have f00 := Lib.frozen_of_heap hf3 0
      have f01 := Lib.frozen_of_heap hf3 1
      have f02 := Lib.frozen_of_heap hf3 2
      have f03 := Lib.frozen_of_heap hf3 3
      have hlt3 : w.heap.size < W3.heap.size := by omega
      clear hf3 HE2 HK1 HK3
      rcases hno with rfl | ⟨rfl, rfl⟩
      all_goals
        go_wp2
        go_loopw [11] (fun ov wr => ov = .int .i64 1 ∧ wr = W3) (fun ov _ => 0)
        case atStart => exact ⟨rfl, rfl⟩
        case round =>
          obtain ⟨rfl, rfl⟩ := hrel
          go_wp2
          refine bodyPost_ret (results_row2 rfl _ _ w.heap.size _ _ _ _ rfl HEE.out.1 Tryd.underlying33 rfl (by kernel_rfl)) rfl ?_
          refine ⟨HEE.out.2.1, ?_⟩
          rw [HW.out]
          exact ⟨wr.heap.size, rfl, by omega, HEE.out.2.2.2⟩
    · have hWlt : w.heap.size < W.heap.size := by omega
      clear hWz
      go_wp2
      go_loopw [11] (fun ov wr => ∃ k : Nat, ov = .int .i64 ((k : Int) + 1) ∧ k ≤ 8 ∧ Hid (Below W.heap.size W wr) ∧ Hid (∀ j : Int, 1 ≤ j → j ≤ k → wd j ≠ x4)) (fun ov _ => (9 - (intOf ov).toNat))
      case atStart => exact ⟨0, rfl, by omega, HB3.out, fun j h1 h2 => absurd h2 (by omega)⟩
      case round =>
        obtain ⟨k, rfl, hk, HBW, HNO⟩ := hrel
        have hz4 := HBW.out.size
        have hltw : w.heap.size < wr.heap.size := by omega
        by_cases hk8 : k < 8
        · have k4 := cell_regrown (HCS.out wr HBW.out 4 x4 rfl)
          obtain ⟨D, hD⟩ : ∃ D, D = wd ((k : Int) + 1) := ⟨_, rfl⟩
          have C1 := Rtw.reg (f := 11) (args := #[.int .i64 ((k : Int) + 1)]) (v := .string D) (w := wr) fun W' _ => hD ▸ word_any _ W'
          have HD := Lib.hid hD
          clear hD
          cases hq : (D.toList == x4.toList) with
          | true =>
            have HDX : Hid (wd ((k : Int) + 1) = x4) := by
              show _ = _
              rw [← HD.out]
              refine ba_ext ?_
              rw [← Lib.toList_data, ← Lib.toList_data]; simpa using hq
            have HW : Hid (whoseOf s = some ⟨n1, n3, r, (k : Int) + 1⟩) := six_some HX.out HP.out.1 HP.out.2 HK1.out HK3.out (by omega) (by omega) HDX.out h10.out
            go_wp2_with fail
            refine wp_region_quiet_below (by kernel_rfl) (by kernel_rfl) ?_
            go_big_quiet_step (fail)
            go_big_quiet_step (exact C1.out _ _)
            go_big_quiet_step (fail)
            go_big_quiet_step (fail)
            go_big_quiet_step (fail)
            go_big_quiet_step (fail)
            refine wpQuiet_nil ?_
            intro w4 hw4
            have hb4 := Drw.cls_below (w := wr) hw4
            clear hw4 k4
            have HB4 : Hid (Below W.heap.size W w4) := HBW.out.trans (hb4.mono hz4)
            have c5 := HCS.out w4 HB4.out 5 r rfl
            have hz5 := hb4.size
            have hf4 := (HB4.out.block _ (by omega)).trans HWF.out
            have HF4 := Lib.hid hf4
            obtain ⟨c00, c01, c02, c03⟩ := bk_cells hf4
            have f00 := Lib.frozen_of_heap hf4 0
            have f01 := Lib.frozen_of_heap hf4 1
            have f02 := Lib.frozen_of_heap hf4 2
            have f03 := Lib.frozen_of_heap hf4 3
            have HBB := Lib.hid (HWB.out.trans (HB4.out.mono HWB.out.size))
            clear hf4 hb4 HE2
            go_wp2
            refine bodyPost_ret (results_row2 rfl _ _ w.heap.size _ (Bk.row ⟨n1, n3, r, (k : Int) + 1⟩) _ _ rfl (put4_row HF4.out _ _ _ _) Tryd.underlying33 rfl (by kernel_rfl)) rfl ?_
            refine ⟨put4_below HBB.out (Nat.le_refl _) _ _ _ _, ?_⟩
            rw [HW.out]
            rfl
          | false =>
            have HNO2 : Hid (∀ j : Int, 1 ≤ j → j ≤ (k + 1 : Nat) → wd j ≠ x4) := by
              intro j h1 h2 e
              by_cases hj : j ≤ k
              · exact HNO.out j h1 hj e
              · have : j = (k : Int) + 1 := by omega
                rw [this, ← HD.out] at e
                rw [e] at hq; simp at hq
            go_wp2_with fail
            refine wp_region_quiet_below (by kernel_rfl) (by kernel_rfl) ?_
            go_big_quiet_step (fail)
            go_big_quiet_step (exact C1.out _ _)
            go_big_quiet_step (fail)
            go_big_quiet_step (fail)
            go_big_quiet_step (fail)
            go_big_quiet_step (fail)
            refine wpQuiet_nil ?_
            intro w4 hw4
            have hb4 := Drw.cls_below (w := wr) hw4
            clear hw4 k4
            have HB4 : Hid (Below W.heap.size W w4) := HBW.out.trans (hb4.mono hz4)
            go_wp2
            go_roundw
            case rel => exact ⟨k + 1, by go_num, by omega, HB4, HNO2⟩
            case measure => simp [intOf]; omega
        · have hk9 : k = 8 := by omega
          subst hk9
          have HW : Hid (whoseOf s = none) := six_whose HX.out HSOL.out.1 HSOL.out.2.1 HSOL.out.2.2.1 HSOL.out.2.2.2.1 HSOL.out.2.2.2.2 fun b hb _ _ _ _ e4 _ => by
            obtain ⟨a1, a2, a3, a4, a5, a6⟩ := may_in hb
            exact HNO.out b.on a5 (by omega) e4.symm
          have HEE := HE2 wr HBW.out
          have hf4 := (HBW.out.block _ (by omega)).trans HWF.out
          obtain ⟨c00, c01, c02, c03⟩ := bk_cells hf4
          have f00 := Lib.frozen_of_heap hf4 0
          have f01 := Lib.frozen_of_heap hf4 1
          have f02 := Lib.frozen_of_heap hf4 2
          have f03 := Lib.frozen_of_heap hf4 3
          clear hf4 HE2
          go_wp2
          refine bodyPost_ret (results_row2 rfl _ _ w.heap.size _ _ _ _ rfl HEE.out.1 Tryd.underlying33 rfl (by kernel_rfl)) rfl ?_
          refine ⟨HEE.out.2.1, ?_⟩
          rw [HW.out]
          exact ⟨wr.heap.size, rfl, by omega, HEE.out.2.2.2⟩
end Go.Proofs.YtclcbiiijoeplaaDoor.Rio
