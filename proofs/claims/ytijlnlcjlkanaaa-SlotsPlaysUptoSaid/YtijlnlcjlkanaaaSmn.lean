/- (*drowselaw10.pair).all: the walk. -/
import Derived.Test.YtijlnlcjlkanaaaSmo
import Derived.Sort.CutIn
set_option linter.unusedVariables false
namespace Go.Proofs.Ytijlnlcjlkanaaa.Smn
open Go.RowKit Go.Shelf Sta Stb Stc Stg Ste Stl Stn Sue Suf Sug Suj Suk Sud Sul Smm Smo Rng
attribute [local go_sem] Oper.semAt_some

/-- The first loop is over. -/
def Fin1 (W7 : World) (T : List (Hd × Int)) (early : Int) (W : World) : Prop :=
  Below W7.heap.size W7 W ∧ Boxed W (W7.heap.size + 1) 4 (.bool true) ∧ ∃ nn : Nat, Boxed W W7.heap.size 3 (.int .i64 nn) ∧ nn ≤ T.length ∧ (nn = T.length ∨ (nn : Int) = early)
abbrev hdv (h : Hd) : Value := .agg #[.int .u32 h.slot, .int .u32 h.gen]
/-- The first loop, left by its break. -/
def X1 (W7 : World) (T : List (Hd × Int)) (early : Int) (pre : List (Hd × Int)) (W : World) : Prop := I1 W7 T early pre W ∧ ((pre.length : Nat) : Int) = early
theorem x1_own (W7 : World) (T : List (Hd × Int)) (early : Int) (B : Nat) (hB : W7.heap.size ≤ B) : OwnFrom B (X1 W7 T early) :=
  fun s W W' row h hg hr => ⟨i1_own W7 T early B hB s W W' row h.1 hg hr, h.2⟩
theorem i1_start (W7 : World) (T : List (Hd × Int)) (early : Int) : I1 W7 T early [] ((W7.alloc (.cells #[.int .i64 0] 3)).alloc (.cells #[.bool true] 4)) := by
  have k1 := Sug.below_new W7 (.cells #[.int .i64 0] 3)
  have k2 := Sug.below_new (W7.alloc (.cells #[.int .i64 0] 3)) (.cells #[.bool true] 4)
  have x2 := Boxed.new (W7.alloc (.cells #[.int .i64 0] 3)) 4 (.bool true)
  rw [alloc_size] at x2
  exact ⟨k1.trans (k2.mono k1.size), boxed_below (Boxed.new W7 3 (.int .i64 0)) k2, by rw [okv_nil]; exact x2⟩
theorem i1_alloc {W7 W : World} {T : List (Hd × Int)} {early : Int} {pre : List (Hd × Int)} (h : I1 W7 T early pre W) (o : Obj) : I1 W7 T early pre (W.alloc o) := by
  have k := Sug.below_new W o
  exact ⟨h.below.trans (k.mono h.below.size), boxed_below h.n k, boxed_below h.ok k⟩
abbrev hbx (x : Hd × Int) : Array Value := #[.int .u32 x.1.slot, .int .u32 x.1.gen]
abbrev f1 (tm : Array Value) (x : Hd × Int) (Bx : Nat) : Array Value := (((tm.setIfInBounds 29 (hdv x.1)).setIfInBounds 30 (.int .i64 x.2)).setIfInBounds 9 (.pointer (some ⟨Bx, 0, none⟩))).setIfInBounds 10 (.int .i64 x.2)
theorem i2_start {W7 W : World} {D : Nat} {T : List (Hd × Int)} (hb : Below W7.heap.size W7 W) (ho : Boxed W (W7.heap.size + 1) 4 (.bool true)) (hd : W.heap[D]? = some (.deferred (some []))) : I2 W7 D W.heap.size T [] (W.alloc (.cells #[.int .i64 0] 3)) := by
  have k := Sug.below_new W (.cells #[.int .i64 0] 3)
  exact ⟨hb.trans (k.mono hb.size), by rw [okh_nil]; exact boxed_below ho k, Boxed.new W 3 (.int .i64 0), (k.block D (Array.getElem?_eq_some_iff.1 hd).1).trans hd⟩
abbrev f2 (tm : Array Value) (x : Hd × Int) (Bx : Nat) : Array Value := ((tm.setIfInBounds 71 (hdv x.1)).setIfInBounds 72 (.int .i64 x.2)).setIfInBounds 12 (.pointer (some ⟨Bx, 0, none⟩))
abbrev f3 (tm : Array Value) (x : Hd × Int) (Bx : Nat) : Array Value := (((tm.setIfInBounds 96 (hdv x.1)).setIfInBounds 97 (.int .i64 x.2)).setIfInBounds 14 (.pointer (some ⟨Bx, 0, none⟩))).setIfInBounds 15 (.int .i64 x.2)
set_option maxHeartbeats 16000000 in
set_option maxRecDepth 100000 in
theorem pall_any (gp g gb : Nat) (vs vo vr vt : Value) (t : Tab) (R : List Th) (most : Nat) (early : Int) (w : World)
    (hp : w.heap[gp]? = some (.cells #[.pointer (some ⟨g, 0, none⟩), .pointer (some ⟨gb, 0, none⟩), vt] 65 (0, 0))) (hT : TabAt g vs vo t w) (hR : RefAt gb vr R most w) (hs : Small t) (hv : Sim t R) (hn : R.length ≤ 1000) :
    Calls Try.prog 28 #[.pointer (some ⟨gp, 0, none⟩), .int .i64 early] w fun e w' => e = .returned (.bool true) ∧ Below w.heap.size w w' := by
  have HP := Lib.hid hp
  have HT := Lib.hid hT
  have HS := Lib.hid hs
  have HV := Lib.hid hv
  have k1 := Sug.below_new w (.cells #[.pointer (some ⟨gp, 0, none⟩)] 63)
  have k2 := Sug.below_new (w.alloc (.cells #[.pointer (some ⟨gp, 0, none⟩)] 63)) (.cells #[.int .i64 early] 3)
  have k12 := k1.trans (k2.mono k1.size)
  obtain ⟨w2, hw2⟩ : ∃ w2, w2 = (w.alloc (.cells #[.pointer (some ⟨gp, 0, none⟩)] 63)).alloc (.cells #[.int .i64 early] 3) := ⟨_, rfl⟩
  have CT := Lib.hid (told_any gb vr R most w2 (Lib.hid (hR.below (by rw [hw2]; exact k12))) (by omega))
  have x2 := Boxed.new w 63 (.pointer (some ⟨gp, 0, none⟩))
  have c2 := (boxed_below x2 k2).cell
  have p0 : w2.cell? ⟨gp, 1, none⟩ = some (.pointer (some ⟨gb, 0, none⟩)) := by
    rw [hw2, cell_of_row _ gp _ _ _ _ ((k12.block gp (Array.getElem?_eq_some_iff.1 hp).1).trans hp)]; rfl
  have p1 : w2.cell? ⟨w.heap.size, 0, none⟩ = some (.pointer (some ⟨gp, 0, none⟩)) := by rw [hw2]; exact c2
  have HPP := Lib.hid (And.intro p0 p1)
  clear k1 k2 k12 x2 c2 hp hT hR hs hv
  refine (callsIn_wide (n := 9)).1 ?_
  refine callsIn_of_wp_marks Try.func28 rfl trivial ?_ rfl
  refine wpIn_wide.2 ?_
  simp only [Try.ntmps28, List.size_toArray, List.length_cons, List.length_nil, Nat.reduceAdd, Nat.reduceSub, Array.replicate_succ, Array.replicate_zero, List.push_toArray, List.append_toArray, List.nil_append, List.cons_append]
  have HW2 := Lib.hid hw2
  clear p0 p1 hw2
  go_upto_region 1 with fail
  rw [← HW2.out]
  obtain ⟨p0, p1⟩ := HPP.out
  go_wp2_with fail
  refine CT.out.mono ?_
  rintro e w4 ⟨vl, rfl, hO4, hb4⟩
  obtain ⟨L, hL⟩ : ∃ L, L = R.filter here := ⟨_, rfl⟩
  rw [← hL] at hO4
  have HLL := Lib.hid hL
  clear hL
  obtain ⟨A2, k2, rfl⟩ := hO4.shape
  have HF := Lib.hid (fx_start (gb := gb) (vt := vt) (R := R) (L := L) (most := most) (vr := vr) (early := early) HP.out HT.out (by rw [← HW2.out]; exact hb4) (by rw [← HW2.out]; exact hO4))
  have HB2 : Hid (Below w.heap.size w w4) := by
    have h1 := Sug.below_new w (.cells #[.pointer (some ⟨gp, 0, none⟩)] 63)
    have h2 := Sug.below_new (w.alloc (.cells #[.pointer (some ⟨gp, 0, none⟩)] 63)) (.cells #[.int .i64 early] 3)
    have h3 := h1.trans (h2.mono h1.size)
    rw [← HW2.out] at h3
    exact h3.trans (hb4.mono h3.size)
  have hzz : Hid (w2.heap.size = w.heap.size + 2) := by show _ = _; rw [HW2.out]; simp
  have hbc := Sug.below_new w4 (.cells #[.slice A2 L.length k2] 67)
  have hz4 : Hid (w4.heap.size + 1 = (w4.alloc (.cells #[.slice A2 L.length k2] 67)).heap.size) := by show _ = _; simp
  have q0 : (w4.alloc (.cells #[.slice A2 L.length k2] 67)).cell? ⟨gp, 0, none⟩ = some (.pointer (some ⟨g, 0, none⟩)) := by
    have h3 := HB2.out.trans (hbc.mono HB2.out.size)
    rw [cell_of_row _ gp _ _ _ _ ((h3.block gp (Array.getElem?_eq_some_iff.1 HP.out).1).trans HP.out)]; rfl
  have q1 : (w4.alloc (.cells #[.slice A2 L.length k2] 67)).cell? ⟨w.heap.size, 0, none⟩ = some (.pointer (some ⟨gp, 0, none⟩)) := by
    have h4 : w.heap.size < w2.heap.size := by have := hzz.out; omega
    have h5 := (hb4.trans (hbc.mono hb4.size)).cell (p := ⟨w.heap.size, 0, none⟩) h4
    exact h5.trans p1
  clear p0 p1 CT hb4 hO4 hbc
  obtain ⟨w5, hw5⟩ : ∃ w5, w5 = w4.alloc (.cells #[.slice A2 L.length k2] 67) := ⟨_, rfl⟩
  rw [← hw5] at q0 q1 hz4 HF
  have HW5 := Lib.hid hw5
  clear hw5
  go_upto_region 2 with fail
  rw [← HW5.out]
  go_wp2_with fail
  refine (Sua.all_any (some ⟨g, 0, none⟩) w5).mono ?_
  rintro e w7 ⟨rfl, rfl⟩
  have hfn := Sua.func_nil w5.heap.size
  rw [hz4.out] at HF
  obtain ⟨W7, hW7⟩ : ∃ W7, W7 = w5.alloc (.cells #[.pointer (some ⟨g, 0, none⟩)] 25) := ⟨_, rfl⟩
  rw [← hW7] at HF
  rw [← hW7]
  clear hW7 q0 q1
  obtain ⟨b5, hb5⟩ : ∃ b5, b5 = w4.heap.size := ⟨_, rfl⟩
  rw [← hb5] at HF
  rw [← hb5]
  obtain ⟨b6, hb6⟩ : ∃ b6, b6 = w5.heap.size := ⟨_, rfl⟩
  rw [← hb6] at HF hfn
  rw [← hb6]
  obtain ⟨b2, hb2⟩ : ∃ b2, b2 = w.heap.size := ⟨_, rfl⟩
  have HB2' : Hid (b2 = w.heap.size) := hb2
  clear hb5 hb6 hb2 hz4 HW5
  go_wp2_with fail
  clear hfn
  refine (wpIn_wide (n := 9)).1 ?_
  have HI0 := Lib.hid (i1_start W7 (tells t) early)
  have hsz9 : Hid (((W7.alloc (.cells #[.int .i64 0] 3)).alloc (.cells #[.bool true] 4)).heap.size = W7.heap.size + 2) := by show _ = _; simp
  obtain ⟨W9, hW9⟩ : ∃ W9, W9 = (W7.alloc (.cells #[.int .i64 0] 3)).alloc (.cells #[.bool true] 4) := ⟨_, rfl⟩
  rw [← hW9] at HI0 hsz9
  rw [← hW9]
  clear hW9
  have HF9 := Lib.hid (HF.out.grow HI0.out.below)
  have HST := Lib.hid (all_stops 8 g b6 vs vo t W9 (by omega) HF9.out.tab HS.out (sim_lives HV.out) HF9.out.c6.cell HF9.out.c6.lt)
  have hTL : Hid ((tells t).length = L.length ∧ tells t = L.map (fun s => (s.h, s.x))) := by
    have := sim_tells HV.out
    rw [← HLL.out] at this
    exact ⟨by rw [this, List.length_map], this⟩
  refine range_break 0 rfl (by omega) (gf := 46) (lb := #[.pointer (some ⟨b6, 0, none⟩)]) rfl trivial (enters_of Try.func46 (by kernel_rfl) rfl)
    HST.out kept_t (fun W l o o' a b c d => kept_b (w := W9) W l o o' a b c d) (fun _ => rfl) (I1 W7 (tells t) early) (X1 W7 (tells t) early) (i1_own _ _ _ _ (by rw [hsz9.out]; omega)) (x1_own _ _ _ _ (by rw [hsz9.out]; omega)) HI0.out hbx 33 f1 (W7.heap.size + 2) ?assign ?body (fun _ _ h => h) (Fin1 W7 (tells t) early) ?done ?stop ?rest
  case assign =>
    intro l pre x W K hi hK
    have hK2 := hK W.heap.size (W.alloc (.cells (hbx x) 33)) ((KeepsOthers.alloc _ _).from _) (kept_alloc _ _) (i1_alloc hi _) (by have := hi.ok.lt; omega) (heap_alloc_new W _)
    clear hK
    gi_wp2
    exact hK2
  case body =>
    intro l pre x Bx W hl hr hi hlo hbx hlen
    have HI := Lib.hid hi
    have HFW := Lib.hid (HF.out.grow hi.below)
    have hnL : pre.length < L.length := by rw [← hTL.out.1]; exact hlen
    obtain ⟨bl, cl, _, hvl, _⟩ := Rwo.Own.some HFW.out.l (by intro e; rw [e, List.length_nil] at hnL; omega)
    simp only [Value.slice.injEq] at hvl
    obtain ⟨rfl, _, rfl⟩ := hvl
    obtain ⟨s, hsl⟩ : ∃ s, L.getD pre.length th0 = s := ⟨_, rfl⟩
    obtain ⟨d0, d1, d2, d3⟩ := th_cells HFW.out.l pre.length hnL hsl
    have hy : (tells t)[pre.length] = (s.h, s.x) := by
      have h2 := hTL.out.2
      have : (L.map (fun s => (s.h, s.x)))[pre.length]'(by rw [List.length_map]; exact hnL) = (s.h, s.x) := by
        rw [List.getElem_map, ← getD_at hnL, hsl]
      simp only [h2]
      exact this
    have hoks := ok_ne (x := x) hlen hy
    have cl5 := HFW.out.l5.cell
    have ce3 := HFW.out.e3.cell
    have cn := hi.n.cell
    have fn := hi.n.frozen
    have fo := hi.ok.frozen
    obtain ⟨h0, h1, _, _⟩ := hd_cells hbx
    have hnI : (pre.length : Int) < (L.length : Int) := by omega
    have hne : W7.heap.size ≠ W7.heap.size + 1 := by omega
    have hne' : W7.heap.size + 1 ≠ W7.heap.size := by omega
    have hew : w.heap.size + 1 ≠ W7.heap.size := by have := HF.out.e3.lt; omega
    have hew' : w.heap.size + 1 ≠ W7.heap.size + 1 := by have := HF.out.e3.lt; omega
    have hLn : L.length ≤ 1000 := by rw [HLL.out]; exact Nat.le_trans (List.length_filter_le _ _) hn
    have hmix : Try.prog.follows .mixedOrders = true := by kernel_rfl
    have hwr := fun (u v : Value) => wrote_two (B := W9.heap.size) (u := u) (v := v) hi.below hi.n hi.ok hne (Nat.le_refl _) (by omega) (by rw [hsz9.out]; omega) (by rw [hsz9.out]; omega)
    have HWR := Lib.hid hwr
    have cok := hi.ok.cell
    clear hi hbx hl hr hy hsl hlo hwr hlen
    dsimp only [f1]
    simp only [List.setIfInBounds_toArray, List.set_cons_zero, List.set_cons_succ]
    gi_wp2_with fail
    have hl1 : Hid ((((pre ++ [x]).length : Nat) : Int) = (pre.length : Int) + 1) := by show _ = _; simp
    cases e3 : (((pre.length : Int) + 1) == early)
    all_goals
      rcases hoks with ⟨o1, o2⟩ | ⟨o1, e1, o2⟩ | ⟨o1, e1, e2, o2⟩ | ⟨o1, e1, e2, o2⟩
      all_goals
        rw [o1] at cok
        have HO2 := Lib.hid o2
        have HE3 := Lib.hid e3
        clear o1 o2
        refine Rnd.round_quiet 25 hmix (by kernel_rfl) (by kernel_rfl) (by rintro ⟨_, _, h⟩; exact h) ?_
        simp only [List.take_succ_cons, List.take_zero, List.drop_succ_cons, List.drop_zero]
        repeat (go_big_quiet_step (fail))
        refine wpQuiet_nil ?_
        change wpList _ _ _ _ _ W.drew
        go_wp2
        gi_wp2
        first
        | exact ⟨(HWR.out _ _).from_, (HWR.out _ _).kept, (HWR.out _ _).below, by rw [hl1.out]; exact (HWR.out _ _).n, by rw [HO2.out]; exact (HWR.out _ _).ok⟩
        | exact ⟨(HWR.out _ _).from_, rfl, ⟨(HWR.out _ _).below, by rw [hl1.out]; exact (HWR.out _ _).n, by rw [HO2.out]; exact (HWR.out _ _).ok⟩, by rw [hl1.out]; exact eq_of_beq HE3.out⟩
  case done =>
    rintro xs W rfl hi
    exact ⟨hi.below, by have := hi.ok; rw [okv_all] at this; exact this, _, hi.n, Nat.le_refl _, .inl rfl⟩
  case stop =>
    rintro pre W hpre ⟨hi, he⟩
    exact ⟨hi.below, by have := hi.ok; rw [okv_pre hpre] at this; exact this, _, hi.n, hpre.length_le, .inr he⟩
  case rest =>
    rintro D W hD ⟨hB, hok, nn, hnb, hnle, hcase⟩ hdf
    have HFW := Lib.hid (HF.out.grow hB)
    have HB := Lib.hid hB
    have HOK := Lib.hid hok
    have HDF := Lib.hid hdf
    have cl5 := HFW.out.l5.cell
    have ce3 := HFW.out.e3.cell
    have cn := hnb.cell
    have cok := hok.cell
    have hns : ((nn : Int) != (L.length : Int)) = false ∨ (((nn : Int) != (L.length : Int)) = true ∧ ((nn : Int) != early) = false) := by
      by_cases e : nn = L.length
      · left; rw [bne_eq_false_iff_eq, e]
      · right
        refine ⟨by rw [bne_iff_ne]; omega, ?_⟩
        rw [bne_eq_false_iff_eq]
        rcases hcase with h | h
        · rw [hTL.out.1] at h; exact absurd h e
        · exact h
    have HDZ : Hid (W7.heap.size ≤ D) := by have := hsz9.out; show _ ≤ _; omega
    clear hB hok hdf hcase hnb hD
    dsimp only
    rcases hns with e1 | ⟨e1, e2⟩
    all_goals
      go_wp2_with fail
      have HI2 := Lib.hid (i2_start (T := tells t) HB.out HOK.out HDF.out)
      have hsz11 : Hid ((W.alloc (.cells #[.int .i64 0] 3)).heap.size = W.heap.size + 1) := by show _ = _; simp
      obtain ⟨bm, hbm⟩ : ∃ bm, bm = W.heap.size := ⟨_, rfl⟩
      have HBM : Hid (W7.heap.size + 2 ≤ bm) := by have := HOK.out.lt; show _ ≤ _; omega
      rw [← hbm] at HI2 hsz11
      rw [← hbm]
      obtain ⟨W11, hW11⟩ : ∃ W11, W11 = W.alloc (.cells #[.int .i64 0] 3) := ⟨_, rfl⟩
      rw [← hW11] at HI2 hsz11
      rw [← hW11]
      clear hbm hW11 cn cok cl5 ce3
      refine (wpIn_wide (n := 9)).1 ?_
      have HF11 := Lib.hid (HF.out.grow HI2.out.below)
      have HST2 := Lib.hid (all_stops 8 g b6 vs vo t W11 (by omega) HF11.out.tab HS.out (sim_lives HV.out) HF11.out.c6.cell HF11.out.c6.lt)
      refine range_break 2 rfl (by omega) (gf := 46) (lb := #[.pointer (some ⟨b6, 0, none⟩)]) rfl trivial (enters_of Try.func46 (by kernel_rfl) rfl)
        HST2.out kept_t (fun W l o o' a b c d => kept_b (w := W11) W l o o' a b c d) (fun _ => rfl) (I2 W7 D bm (tells t)) (fun _ _ => False) (i2_own _ _ _ _ _ (by have := hsz11.out; have := HBM.out; omega) (Array.getElem?_eq_some_iff.1 HI2.out.dfr).1) (fun _ _ _ _ h _ _ => h) HI2.out hbx 33 f2 (bm + 1) ?assign2 ?body2 (fun _ _ h => h) (fun W => I2 W7 D bm (tells t) (tells t) W) ?done2 ?stop2 ?rest2
      case assign2 =>
        intro l pre x W K hi hK
        have hK2 := hK W.heap.size (W.alloc (.cells (hbx x) 33)) ((KeepsOthers.alloc _ _).from _) (kept_alloc _ _) (i2_alloc hi _) (by have := hi.m.lt; omega) (heap_alloc_new W _)
        clear hK
        gi_wp2
        exact hK2
      case body2 =>
        rintro l pre x Bx W hl ⟨rr, hrr⟩ hi hlo hbx hlen
        have HI := Lib.hid hi
        have HRR := Lib.hid hrr
        have HFW := Lib.hid (HF.out.grow hi.below)
        have hnL : pre.length < L.length := by rw [← hTL.out.1]; exact hlen
        obtain ⟨bl, cl, _, hvl, _⟩ := Rwo.Own.some HFW.out.l (by intro e; rw [e, List.length_nil] at hnL; omega)
        simp only [Value.slice.injEq] at hvl
        obtain ⟨rfl, _, rfl⟩ := hvl
        obtain ⟨s, hsl⟩ : ∃ s, L.getD pre.length th0 = s := ⟨_, rfl⟩
        obtain ⟨d0, d1, d2, d3⟩ := th_cells HFW.out.l pre.length hnL hsl
        have hy : (tells t)[pre.length] = (s.h, s.x) := by
          have h2 := hTL.out.2
          have : (L.map (fun s => (s.h, s.x)))[pre.length]'(by rw [List.length_map]; exact hnL) = (s.h, s.x) := by
            rw [List.getElem_map, ← getD_at hnL, hsl]
          simp only [h2]
          exact this
        have hoks := okh_ne (x := x) hlen hy
        have cl5 := HFW.out.l5.cell
        have cn := hi.m.cell
        have fn := hi.m.frozen
        have fo := hi.ok.frozen
        have cok := hi.ok.cell
        obtain ⟨h0, h1, _, _⟩ := hd_cells hbx
        have hnI : (pre.length : Int) < (L.length : Int) := by omega
        have hbmz := HBM.out
        have hne : bm ≠ W7.heap.size + 1 := by omega
        have hne' : W7.heap.size + 1 ≠ bm := by omega
        have hLn : L.length ≤ 1000 := by rw [HLL.out]; exact Nat.le_trans (List.length_filter_le _ _) hn
        have hmix : Try.prog.follows .mixedOrders = true := by kernel_rfl
        have HWR := Lib.hid (fun (u v : Value) => wrote_two (B := W11.heap.size) (u := u) (v := v) hi.below hi.m hi.ok hne (by omega) (by omega) (by rw [hsz11.out]; omega) (by rw [hsz11.out]; omega))
        have HLO := Lib.hid (And.intro hl hlo)
        clear hi hbx hrr hl hy hsl hlo hlen hbmz
        dsimp only [f2]
        simp only [List.setIfInBounds_toArray, List.set_cons_zero, List.set_cons_succ]
        gi_wp2_with fail
        obtain ⟨o', ho'⟩ : ∃ o', okh (tells t) (pre ++ [x]) = o' := ⟨_, rfl⟩
        rw [ho'] at hoks
        have HO2 := Lib.hid ho'
        clear ho'
        obtain ⟨W19, hW19⟩ : ∃ W19, W19 = ((W.setCell ⟨W7.heap.size + 1, 0, none⟩ (.bool o')).setCell ⟨bm, 0, none⟩ (.int .i64 ((pre.length : Int) + 1))).drew := ⟨_, rfl⟩
        have HW0 : Hid (Wrote W11.heap.size W7 bm (W7.heap.size + 1) (.int .i64 ((pre.length + 1 : Nat) : Int)) (.bool o') 3 4 W W19) := by
          have := HWR.out (.bool o') (.int .i64 ((pre.length : Int) + 1))
          rw [← hW19] at this
          exact this
        have HD19 : Hid (W19.heap[D]? = some (.deferred (some []))) := by rw [hW19]; exact dfr_wrote HI.out.dfr HI.out.m HI.out.ok
        have HW19 := Lib.hid hW19
        have HF19 := Lib.hid (HF.out.grow HW0.out.below)
        have HL19 : Hid (W19.heap[l]? = some (.loop rr)) := HW0.out.from_.same l _ HLO.out.1 HRR.out rfl
        clear hW19
        rcases hoks with ⟨o1, o2⟩ | ⟨o1, e1, o2⟩ | ⟨o1, e1, e2, o2⟩ | ⟨o1, e1, e2, o2⟩
        all_goals
          rw [o1] at cok
          subst o2
          clear o1
          refine Rnd.round_quiet 16 hmix (by kernel_rfl) (by kernel_rfl) (by rintro ⟨_, _, h⟩; exact h) ?_
          simp only [List.take_succ_cons, List.take_zero, List.drop_succ_cons, List.drop_zero]
          repeat (go_big_quiet_step (fail))
          refine wpQuiet_nil ?_
          change wpList _ _ _ _ _ W.drew
          go_wp2
          gi_upto_region 20 with fail
          rw [← HW19.out]
          clear HW19 HWR cok cl5 cn fn fo h0 h1 d0 d1 d2 d3
          try clear e1
          try clear e2
          gi_upto_region 21 with fail
          have k20 := Sug.below_new W19 (.cells #[.int .i64 0] 3)
          have HF20 := Lib.hid (HF19.out.grow k20)
          have HI3 := Lib.hid (i3_start (vv := .pointer (some ⟨g, 0, none⟩)) (T := tells t) HW0.out HD19.out)
          have HL20 := Lib.hid ((k20.block l (Array.getElem?_eq_some_iff.1 HL19.out).1).trans HL19.out)
          have HZ20 : Hid ((W19.alloc (.cells #[.int .i64 0] 3)).heap.size = W19.heap.size + 1) := by show _ = _; simp
          obtain ⟨W20, hW20⟩ : ∃ W20, W20 = W19.alloc (.cells #[.int .i64 0] 3) := ⟨_, rfl⟩
          rw [← hW20] at HF20 HI3 HL20 HZ20
          rw [← hW20]
          clear hW20 k20
          obtain ⟨bk, hbk⟩ : ∃ bk, bk = W19.heap.size := ⟨_, rfl⟩
          rw [← hbk] at HI3 HZ20
          rw [← hbk]
          have HBK : Hid (bk = W19.heap.size) := hbk
          clear hbk
          have g0 := HF20.out.p2.cell
          have g1 : W20.cell? ⟨gp, 0, none⟩ = some (.pointer (some ⟨g, 0, none⟩)) := by rw [cell_of_row _ gp _ _ _ _ HF20.out.pr]; rfl
          gi_wp2_with fail
          refine ⟨trivial, (CallsIn.inRound l (callsIn_wide.2 (Sua.all_any (some ⟨g, 0, none⟩) W20))).mono ?_⟩
          rintro e w21 ⟨rfl, rfl⟩
          have k21 := Sug.below_new W20 (.cells #[.pointer (some ⟨g, 0, none⟩)] 25)
          have HF21 := Lib.hid (HF20.out.grow k21)
          have HC21 := Lib.hid (Boxed.new W20 25 (.pointer (some ⟨g, 0, none⟩)))
          have HL21 := Lib.hid ((k21.block l (Array.getElem?_eq_some_iff.1 HL20.out).1).trans HL20.out)
          have HZ21 : Hid ((W20.alloc (.cells #[.pointer (some ⟨g, 0, none⟩)] 25)).heap.size = W20.heap.size + 1) := by show _ = _; simp
          obtain ⟨W21, hW21⟩ : ∃ W21, W21 = W20.alloc (.cells #[.pointer (some ⟨g, 0, none⟩)] 25) := ⟨_, rfl⟩
          rw [← hW21] at HF21 HI3 HL21 HZ21 HC21
          rw [← hW21]
          clear hW21 k21 g0 g1
          obtain ⟨b9, hb9⟩ : ∃ b9, b9 = W20.heap.size := ⟨_, rfl⟩
          rw [← hb9] at HC21 HZ21
          rw [← hb9]
          have HB9 : Hid (b9 = bk + 1) := by show _ = _; rw [hb9]; exact HZ20.out
          clear hb9
          gi_wp2_with fail
          have hD19 : D < W19.heap.size := (Array.getElem?_eq_some_iff.1 HD19.out).1
          have HI4 : Hid (I3 W7 D bm bk W11.heap.size W (okh (tells t) (pre ++ [x])) (pre.length + 1) (tells t) [] W21) := by rw [HO2.out]; exact HI3.out
          have HSS := Lib.hid ((all_stops 6 g b9 vs vo t W21 (by omega) HF21.out.tab HS.out (sim_lives HV.out) HC21.out.cell HC21.out.lt).inRound l)
          refine range_break_in 4 rfl HL21.out (by omega) (gf := 46) (lb := #[.pointer (some ⟨b9, 0, none⟩)]) rfl trivial (enters_of Try.func46 (by kernel_rfl) rfl)
            HSS.out kept_t (fun W l o o' a b c d => kept_b (w := W21) W l o o' a b c d) (fun _ => rfl) (I3 W7 D bm bk W11.heap.size W (okh (tells t) (pre ++ [x])) (pre.length + 1) (tells t)) (fun pre' W' => I3 W7 D bm bk W11.heap.size W (okh (tells t) (pre ++ [x])) (pre.length + 1) (tells t) pre' W' ∧ 2 < pre.length + 1)
            (i3_own _ _ _ _ _ _ _ _ _ _ HI3.out.below.size HI3.out.kept.1 (Array.getElem?_eq_some_iff.1 HI3.out.dfr).1) (x3_own _ _ _ _ _ _ _ _ _ _ HI3.out.below.size HI3.out.kept.1 (Array.getElem?_eq_some_iff.1 HI3.out.dfr).1) HI4.out hbx 33 f3 (bk + 1) ?assign3 ?body3 (fun _ _ h => h) (Fin3 W7 D bm bk W11.heap.size W (okh (tells t) (pre ++ [x])) (pre.length + 1) L.length) ?done3 ?stop3 ?rest3
          case assign3 =>
            intro l3 pre3 x3 W3 K hi hK
            have hK2 := hK W3.heap.size (W3.alloc (.cells (hbx x3) 33)) ((KeepsOthers.alloc _ _).from _) (kept_alloc _ _) (i3_alloc hi _) (by have := hi.k.lt; omega) (heap_alloc_new W3 _)
            clear hK
            gi_wp2
            exact hK2
          case body3 =>
            rintro l3 pre3 x3 Bx3 W3 hl3 hr3 hi hlo hbx hlen
            have HI := Lib.hid hi
            have HFW := Lib.hid (HF.out.grow hi.below)
            have hnL : pre3.length < L.length := by rw [← hTL.out.1]; exact hlen
            obtain ⟨s3, hsl⟩ : ∃ s, L.getD pre3.length th0 = s := ⟨_, rfl⟩
            obtain ⟨d0, d1, d2, d3⟩ := th_cells HFW.out.l pre3.length hnL hsl
            have hy : (tells t)[pre3.length] = (s3.h, s3.x) := by
              have h2 := hTL.out.2
              have : (L.map (fun s => (s.h, s.x)))[pre3.length]'(by rw [List.length_map]; exact hnL) = (s3.h, s3.x) := by
                rw [List.getElem_map, ← getD_at hnL, hsl]
              simp only [h2]
              exact this
            have hoks := okw_ne (o := okh (tells t) (pre ++ [x])) (x := x3) hlen hy
            have cl5 := HFW.out.l5.cell
            have cn := hi.k.cell
            have fn := hi.k.frozen
            have fo := hi.ok.frozen
            have cok := hi.ok.cell
            have cmm := hi.m.cell
            obtain ⟨h0, h1, _, _⟩ := hd_cells hbx
            have hnI3 : (pre3.length : Int) < (L.length : Int) := by omega
            have hbk := HBK.out
            have hb19 := HW0.out.below.size
            have hbmk : bm < bk := by have := HW0.out.n.lt; omega
            have hne1 : bk ≠ W7.heap.size + 1 := by have := HW0.out.ok.lt; omega
            have hne1' : W7.heap.size + 1 ≠ bk := fun e => hne1 e.symm
            have hne2 : bm ≠ bk := by omega
            have hne2' : bk ≠ bm := by omega
            have HNX := Lib.hid (fun (o3 : Bool) (ho : okw (okh (tells t) (pre ++ [x])) (tells t) (pre3 ++ [x3]) = o3) => i3_next (C := W21.heap.size) (x := x3) hi hne1 hne2 hne (by have := HBM.out; have := hsz11.out; omega) (by rw [hbk]; exact HW0.out.kept.1) (by omega) (by have := HI3.out.k.lt; omega) (by have := HI3.out.ok.lt; omega) ho)
            clear hi hbx hl3 hr3 hy hsl hlo hbk hb19 hbmk hlen
            dsimp only [f3]
            simp only [List.setIfInBounds_toArray, List.set_cons_zero, List.set_cons_succ]
            gi_wp2_with fail
            obtain ⟨mI, hmI⟩ : ∃ mI : Int, mI = (pre.length : Int) + 1 := ⟨_, rfl⟩
            have cmm2 : W3.cell? ⟨bm, 0, none⟩ = some (.int .i64 mI) := by rw [hmI]; exact cmm
            have HMI := Lib.hid hmI
            have hml : mI ≤ 1001 := by omega
            clear cmm hmI
            by_cases e3 : (2 : Int) < mI
            all_goals
              rcases hoks with ⟨o1, o2⟩ | ⟨o1, e1, o2⟩ | ⟨o1, e1, e2, o2⟩ | ⟨o1, e1, e2, o2⟩
              all_goals
                rw [o1] at cok
                have HO3 := Lib.hid o2
                have HE3 := Lib.hid e3
                clear o1 o2
                refine Rnd.round_quiet 25 hmix (by kernel_rfl) (by kernel_rfl) (by rintro ⟨_, _, h⟩; exact h) ?_
                simp only [List.take_succ_cons, List.take_zero, List.drop_succ_cons, List.drop_zero]
                repeat (go_big_quiet_step (fail))
                refine wpQuiet_nil ?_
                change wpList _ _ _ _ _ W3.drew
                go_wp2
                gi_wp2
                first
                | exact HNX.out _ HO3.out
                | exact ⟨(HNX.out _ HO3.out).1, rfl, (HNX.out _ HO3.out).2.2, by have := HE3.out; have := HMI.out; omega⟩
          case done3 =>
            rintro xs W3 rfl hi
            exact fin3_done hi hTL.out.1
          case stop3 =>
            rintro pre3 W3 hpre ⟨hi, hm⟩
            exact fin3_stop hi hpre hm
          case rest3 =>
            intro W3 hF3
            have HF3 := Lib.hid hF3
            have HFX := Lib.hid (HF.out.grow hF3.below)
            have cl5 := HFX.out.l5.cell
            have cok := hF3.ok.cell
            have fok := hF3.ok.frozen
            have cmm := hF3.mb.cell
            obtain ⟨kk, hkk, hkc⟩ := hF3.k
            have ckk := hkk.cell
            have hB1 : W7.heap.size + 1 < W11.heap.size := by have := HBM.out; have := hsz11.out; omega
            have hcs : okh (tells t) (pre ++ [x]) = false ∨ (okh (tells t) (pre ++ [x]) = true ∧ (((kk : Int) == (L.length : Int)) = true ∨ (((kk : Int) == (L.length : Int)) = false ∧ (2 : Int) < (pre.length : Int) + 1))) := by
              cases okh (tells t) (pre ++ [x]) with
              | false => exact .inl rfl
              | true =>
                refine .inr ⟨rfl, ?_⟩
                by_cases e : kk = L.length
                · exact .inl (by rw [beq_iff_eq, e])
                · exact .inr ⟨by rw [beq_eq_false_iff_ne]; omega, by rcases hkc with h | h; exact absurd h e; omega⟩
            clear hF3 hkk hkc HO2
            rcases hcs with e1 | ⟨e1, e2 | ⟨e2, e3⟩⟩
            all_goals
              rw [e1] at cok
              have HE1 := Lib.hid e1
              clear e1
              gi_wp2
              exact i2_next HF3.out hne hB1 HE1.out
      case done2 =>
        rintro xs W rfl hi
        exact hi
      case stop2 =>
        rintro pre W _ h
        exact h.elim
      case rest2 =>
        rintro D2 W2 hD2 ⟨hB2, hok2, hm2, hd1⟩ hdf2
        have HWD := Lib.hid hD2
        rw [okh_all] at hok2
        rw [hTL.out.1] at hm2
        have HF2 := Lib.hid (HF.out.grow hB2)
        have HDD := Lib.hid (And.intro hd1 hdf2)
        have cl5 := HF2.out.l5.cell
        have cm := hm2.cell
        have cok := hok2.cell
        clear hB2 hok2 hm2 hd1 hdf2 hD2
        dsimp only
        go_wp2
        have hDD : D < W11.heap.size := (Array.getElem?_eq_some_iff.1 HI2.out.dfr).1
        have hd3 := (World.putObj_heap_other (w := W2) (o := .deferred none) (show D ≠ D2 by have := HWD.out; omega)).trans HDD.out.1
        have hww : w.heap.size ≤ W7.heap.size := HF.out.below.size
        have hw11 : W7.heap.size ≤ W11.heap.size := HI2.out.below.size
        have HBX := HF2.out.below
        refine ⟨by simp, .inl ⟨_, _, rfl, run_takeDeferred HDD.out.2, ⟨by simp, .inl ⟨_, _, rfl, run_takeDeferred hd3, ?_⟩⟩⟩⟩
        exact ⟨_, results_tmp rfl _ _ _, rfl, (HBX.trans (belowK_b (w := w) (Nat.le_refl _) W2 D2 _ _ (by have := HWD.out; omega) HDD.out.2 rfl rfl)).trans (belowK_b (w := w) (Nat.le_refl _) _ D _ _ (by have := HDZ.out; omega) hd3 rfl rfl)⟩
end Go.Proofs.Ytijlnlcjlkanaaa.Smn
