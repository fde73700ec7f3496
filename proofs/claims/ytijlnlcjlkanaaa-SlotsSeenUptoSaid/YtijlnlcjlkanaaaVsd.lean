/- SlotsSeen: the walk. -/
import Derived.Test.YtijlnlcjlkanaaaVse
import Derived.Test.YtijlnlcjlkanaaaVsf
import Derived.Deep.DeepCutAuto
import Derived.StillTailTactics
import Derived.Deep.RegionHeld3
import Derived.Deep.CutBlock
import Derived.Deep.CutRange
import Derived.Sort.CutIn
set_option linter.unusedVariables false
namespace Go.Proofs.Ytijlnlcjlkanaaa.Vsd
open Sta (Hd hdE Step)
open Sud (Kept kept_t kept_b)
open Slp (i64E strE IntsFit TextsFit)
open Slo (Arg)
open Go.RowKit Go.Shelf Rwo Vta Vtb Vtc Vtd Vtg Vte Vtj Vtk Vtl Vtn Vud Vsa Vsb Vsc Vse
attribute [local go_sem] Oper.semAt_some

def L1e (w0 : World) (ba bh bl bo bi g : Nat) (vl vO vi : Value) (l : List ByteArray) (k : Nat) (w : World) : Prop := ∃ hs xs vs vo vh t, L1 w0 ba ba bh bl bo bi g vl vO vi l k hs xs vs vo vh t w
theorem arg_shape {α : Type} {E : Rwo.Enc α} {w : World} {v : Value} {l : List α} (h : Arg E w v l) : ∃ A c, v = .slice A l.length c := by
  rcases h with ⟨h0, x, c, h1⟩ | ⟨b, o, c, h1, _⟩
  · exact ⟨x, c, by rw [h1, h0]; rfl⟩
  · exact ⟨_, _, h1⟩
theorem str_at {w : World} {b o : Nat} {l : List ByteArray} (h : ∀ j, j < l.length → ∀ i, i < strE.z → w.cell? ⟨b, o + j * strE.z + i, none⟩ = (strE.f (l.getD j strE.d))[i]?) (j : Nat) (hj : j < l.length) {s : ByteArray} (hs : l.getD j .empty = s) : w.cell? ⟨b, o + j, none⟩ = some (.string s) := by
  have := h j hj 0 (by show 0 < 1; omega)
  rw [show o + j * strE.z + 0 = o + j from by show o + j * 1 + 0 = _; omega] at this
  rw [this, ← hs]; rfl
theorem S3_alloc {w : World} {p q r : Addr} {u v x : Value} (h : w.cell? p = some u ∧ w.cell? q = some v ∧ w.cell? r = some x) (o : Obj) : (w.alloc o).cell? p = some u ∧ (w.alloc o).cell? q = some v ∧ (w.alloc o).cell? r = some x := by
  have hb := Vsb.below_new w o
  exact ⟨(hb.cell (Slo.cell_lt h.1)).trans h.1, (hb.cell (Slo.cell_lt h.2.1)).trans h.2.1, (hb.cell (Slo.cell_lt h.2.2)).trans h.2.2⟩
theorem S3_drew {w : World} {p q r : Addr} {u v x : Value} (h : w.cell? p = some u ∧ w.cell? q = some v ∧ w.cell? r = some x) : w.drew.cell? p = some u ∧ w.drew.cell? q = some v ∧ w.drew.cell? r = some x := h
abbrev hdv (h : Hd) : Value := .agg #[.int .u32 h.slot, .int .u32 h.gen]
abbrev hbx {T : List (Hd × Th)} (x : {p : Hd × Th // p ∈ T}) : Array Value := #[.int .u32 x.1.1.slot, .int .u32 x.1.1.gen]
abbrev xbx {T : List (Hd × Th)} (x : {p : Hd × Th // p ∈ T}) : Array Value := #[.string x.1.2.a, .slice x.1.2.p x.1.2.n x.1.2.c]
abbrev f1 {T : List (Hd × Th)} (tm : Array Value) (x : {p : Hd × Th // p ∈ T}) (B1 B2 : Nat) : Array Value := (((tm.setIfInBounds 75 (hdv x.1.1)).setIfInBounds 76 x.1.2.val).setIfInBounds 17 (.pointer (some ⟨B1, 0, none⟩))).setIfInBounds 18 (.pointer (some ⟨B2, 0, none⟩))
theorem i64_at {w : World} {b o : Nat} {l : List Int} (h : ∀ j, j < l.length → ∀ i, i < i64E.z → w.cell? ⟨b, o + j * i64E.z + i, none⟩ = (i64E.f (l.getD j i64E.d))[i]?) (j : Nat) (hj : j < l.length) {s : Int} (hs : l.getD j 0 = s) : w.cell? ⟨b, o + j, none⟩ = some (.int .i64 s) := by
  have := h j hj 0 (by show 0 < 1; omega)
  rw [show o + j * i64E.z + 0 = o + j from by show o + j * 1 + 0 = _; omega] at this
  rw [this, ← hs]; rfl
theorem pick_q (c : Int) (n : Nat) (w : World) (h0 : -9223372036854775808 ≤ c) (h1 : c ≤ 9223372036854775807) (hn : 0 < n) (hn2 : n ≤ 1000000) :
    Calls Try.prog 8 #[.int .i64 c, .int .i64 n] w fun e w' => e = .returned (.int .i64 (Stp.pk c n)) ∧ w' = w := (Stp.pick_any c n w h0 h1 hn hn2).mono fun e w' h => ⟨h.1, h.2.symm⟩
abbrev f2 {T : List (Hd × Th)} (tm : Array Value) (x : {p : Hd × Th // p ∈ T}) (B1 B2 : Nat) : Array Value := (((tm.setIfInBounds 184 (hdv x.1.1)).setIfInBounds 185 x.1.2.val).setIfInBounds 25 (.pointer (some ⟨B1, 0, none⟩))).setIfInBounds 26 (.pointer (some ⟨B2, 0, none⟩))
set_option maxHeartbeats 16000000 in
set_option maxRecDepth 100000 in
theorem walk (vl vO vi : Value) (l : List ByteArray) (out : List Int) (inn : List ByteArray) (w : World) (hfl : TextsFit l) (hal : Arg strE w vl l) (hfo : IntsFit out) (hao : Arg i64E w vO out) (hfi : TextsFit inn) (hai : Arg strE w vi inn) :
    Calls Try.prog 4 #[vl, vO, vi] w fun e w' => e = .returned (.bool true) ∧ Below w.heap.size w w' := by
  have HL := Lib.hid hal
  have HO := Lib.hid hao
  have HI := Lib.hid hai
  have HFL := Lib.hid hfl
  have HFO := Lib.hid hfo
  have HFI := Lib.hid hfi
  obtain ⟨Al, cl, rfl⟩ := arg_shape hal
  obtain ⟨Ao, co, rfl⟩ := arg_shape hao
  obtain ⟨Ai, ci, rfl⟩ := arg_shape hai
  clear hal hao hai hfl hfo hfi
  refine (callsIn_wide (n := 9)).1 ?_
  refine callsIn_of_wp_marks Try.func4 rfl trivial ?_ rfl
  refine wpIn_wide.2 ?_
  simp only [Try.ntmps4, List.size_toArray, List.length_cons, List.length_nil, Nat.reduceAdd, Nat.reduceSub, Array.replicate_succ, Array.replicate_zero, List.push_toArray, List.append_toArray, List.nil_append, List.cons_append]
  go_upto_region 1 with fail
  have CA := Stm.awake_any (((w.alloc (.cells #[.slice Al l.length cl] 45)).alloc (.cells #[.slice Ao out.length co] 30)).alloc (.cells #[.slice Ai inn.length ci] 45))
  go_wp2_with fail
  refine CA.mono ?_
  rintro e w1 ⟨rfl, hb1⟩
  have HB1 := Lib.hid hb1
  have CN := new_ok 500 w1 (by omega) (by omega)
  clear CA hb1
  go_wp2_with fail
  refine CN.mono ?_
  rintro e w2 ⟨rfl, hT, hb2⟩
  have HC := Lib.hid (l1_start l (cur_start HB1.out hT hb2))
  clear CN hT hb2
  go_upto_region 6 with fail
  obtain ⟨W0, hW0⟩ : ∃ W, W = (w2.alloc (.cells #[.pointer (some ⟨w1.heap.size, 0, none⟩)] 46)).alloc (.cells #[.slice none 0 0] 29) := ⟨_, rfl⟩
  rw [← hW0] at HC
  rw [← hW0]
  obtain ⟨bh, hbh⟩ : ∃ b, b = w2.heap.size + 1 := ⟨_, rfl⟩
  rw [← hbh] at HC
  rw [← hbh]
  obtain ⟨ba, hba⟩ : ∃ b, b = w2.heap.size := ⟨_, rfl⟩
  rw [← hba] at HC
  rw [← hba]
  obtain ⟨g, hg⟩ : ∃ b, b = w1.heap.size := ⟨_, rfl⟩
  rw [← hg] at HC
  rw [← hg]
  obtain ⟨bi, hbi⟩ : ∃ b, b = w.heap.size + 1 + 1 := ⟨_, rfl⟩
  rw [← hbi] at HC
  rw [← hbi]
  obtain ⟨bo, hbo⟩ : ∃ b, b = w.heap.size + 1 := ⟨_, rfl⟩
  rw [← hbo] at HC
  rw [← hbo]
  obtain ⟨bl, hbl⟩ : ∃ b, b = w.heap.size := ⟨_, rfl⟩
  rw [← hbl] at HC
  rw [← hbl]
  clear hW0 hbh hba hg hbi hbo hbl
  have HC0 : Hid (L1e w ba bh bl bo bi g (.slice Al l.length cl) (.slice Ao out.length co) (.slice Ai inn.length ci) l 0 W0) := ⟨_, _, _, _, _, _, HC.out⟩
  clear HC HB1
  go_upto_block 0 with fail
  go_cut [] from 44 to 71 (fun wx => ∃ k hs xs vs vo vh t, k ≤ 100 ∧ k ≤ l.length ∧ Hid (L1 w ba ba bh bl bo bi g (.slice Al l.length cl) (.slice Ao out.length co) (.slice Ai inn.length ci) l k hs xs vs vo vh t wx))
  case first =>
    go_wp2_with fail
    go_loopw [11] (fun iv wr => ∃ k : Nat, k ≤ 100 ∧ k ≤ l.length ∧ iv = .int .i64 k ∧ Hid (L1e w ba bh bl bo bi g (.slice Al l.length cl) (.slice Ao out.length co) (.slice Ai inn.length ci) l k wr)) (fun iv _ => 100 - (intOf iv).toNat)
    case atStart => exact ⟨0, by omega, by omega, rfl, HC0.out⟩
    case round =>
      obtain ⟨k, hk1, hk2, rfl, HK⟩ := hrel
      clear HC0
      obtain ⟨hs, xs, vs, vo, vh, t, hL1⟩ := HK.out
      have S1 := Lib.hid hL1
      clear HK hL1
      have c1 := S1.out.cur.a.cell
      have c2 := S1.out.cur.l.cell
      by_cases hgo : k < l.length ∧ k < 100
      · obtain ⟨g1, g2⟩ := hgo
        rcases HL.out with ⟨h0, _⟩ | ⟨bv, ov, cv, hv, hbv, hcv⟩
        · rw [h0] at g1; simp at g1
        simp only [Value.slice.injEq] at hv
        obtain ⟨rfl, _, rfl⟩ := hv
        obtain ⟨s, hsk⟩ : ∃ s, l.getD k .empty = s := ⟨_, rfl⟩
        have c3 := (S1.out.cur.below.cell (p := ⟨bv, ov + k, none⟩) hbv).trans (str_at hcv k g1 hsk)
        have HSK := Lib.hid hsk
        clear hsk
        obtain ⟨F, y, hty⟩ := Fine.rooms S1.out.fine (by omega)
        have hsm := S1.out.fine.small (by omega)
        have kA := (Vsb.below_new wr (iB k)).drew
        have kM := ((Vsb.below_new wr (iB k)).trans ((Vsb.below_new (wr.alloc (iB k)) hB0).mono (by simp))).drew
        have kF := ((Vsb.below_new wr hB0).trans ((Vsb.below_new (wr.alloc hB0) (iB k)).mono (by simp))).drew
        have CA := Lib.hid (take_ok g vs vo t (thing s wr.heap.size) (wr.alloc (iB k)).drew (S1.out.cur.tab.below kA) hsm (hty _))
        have CM := Lib.hid (take_ok g vs vo t (thing s wr.heap.size) ((wr.alloc (iB k)).alloc hB0).drew (S1.out.cur.tab.below kM) hsm (hty _))
        have CF := Lib.hid (take_ok g vs vo t (thing s (wr.heap.size + 1)) ((wr.alloc hB0).alloc (iB k)).drew (S1.out.cur.tab.below kF) hsm (hty _))
        have HS3 : Hid (∀ (vs vo vh : Value) (hs : List Hd) (xs : List Th) (t : Tab) (W : World), Cur w ba ba bh bl bo bi g (.slice (some ⟨bv, ov, none⟩) l.length cl) (.slice Ao out.length co) (.slice Ai inn.length ci) hs xs vs vo vh t W → W.cell? ⟨ba, 0, none⟩ = some (.pointer (some ⟨g, 0, none⟩)) ∧ W.cell? ⟨bl, 0, none⟩ = some (.slice (some ⟨bv, ov, none⟩) l.length cl) ∧ W.cell? ⟨bv, ov + k, none⟩ = some (.string s)) :=
          fun vs vo vh hs xs t W c => ⟨c.a.cell, c.l.cell, (c.below.cell (p := ⟨bv, ov + k, none⟩) hbv).trans (str_at hcv k g1 HSK.out)⟩
        have hsW := HS3.out _ _ _ _ _ _ _ S1.out.cur
        have hsB : wr.drew.cell? ⟨ba, 0, none⟩ = some (.pointer (some ⟨g, 0, none⟩)) ∧ wr.drew.cell? ⟨bl, 0, none⟩ = some (.slice (some ⟨bv, ov, none⟩) l.length cl) ∧ wr.drew.cell? ⟨bv, ov + k, none⟩ = some (.string s) := hsW
        have HTY := Lib.hid hty
        clear hty kA kM kF hcv c3 hsm
        go_wp2_with fail
        go_region_held3 (fun W => W.cell? ⟨ba, 0, none⟩ = some (.pointer (some ⟨g, 0, none⟩)) ∧ W.cell? ⟨bl, 0, none⟩ = some (.slice (some ⟨bv, ov, none⟩) l.length cl) ∧ W.cell? ⟨bv, ov + k, none⟩ = some (.string s))
          (first | assumption | (refine S3_drew ?_; repeat (first | assumption | refine S3_alloc ?_ _)))
          (first | (go_at_call 18; (with_reducible refine CA.out.mono ?_); rintro e w5 ⟨rfl, vs5, vo5, hT5, hS5⟩; have HLD := Lib.hid (laid_last (a := s) (y := y) S1.out hT5 hS5); have hs5 := HS3.out _ _ _ _ _ _ _ HLD.out.1; have hs6 := S3_alloc hs5 hB0; have hs7 := HS3.out _ _ _ _ _ _ _ HLD.out.2.cur; clear hT5 hS5) | (go_at_call 18; (with_reducible refine CM.out.mono ?_); rintro e w5 ⟨rfl, vs5, vo5, hT5, hS5⟩; have HLD := Lib.hid (laid_mid (a := s) (y := y) S1.out hT5 hS5); have hs5 := HS3.out _ _ _ _ _ _ _ HLD.out.1; have hs7 := HS3.out _ _ _ _ _ _ _ HLD.out.2.1.cur; obtain ⟨d0, d1, d2, d3⟩ := hd_cells HLD.out.2.2; clear hT5 hS5) | (go_at_call 18; (with_reducible refine CF.out.mono ?_); rintro e w5 ⟨rfl, vs5, vo5, hT5, hS5⟩; have HLD := Lib.hid (laid_first (a := s) (y := y) S1.out hT5 hS5); have hs5 := HS3.out _ _ _ _ _ _ _ HLD.out.1; have hs7 := HS3.out _ _ _ _ _ _ _ HLD.out.2.1.cur; obtain ⟨d0, d1, d2, d3⟩ := hd_cells HLD.out.2.2; clear hT5 hS5))
        all_goals
          clear hs5 hs7 CA CM CF hsW hsB c1 c2
          try clear hs6
          try clear d0 d1 d2 d3
          first
          | (obtain ⟨W5, hW5⟩ : ∃ x, x = w5.alloc (hB y) := ⟨_, rfl⟩
             have HLd := Lib.hid HLD.out.2
             rw [← hW5] at HLd; rw [← hW5]; clear hW5 HLD)
          | (obtain ⟨W5, hW5⟩ : ∃ x, x = (w5.setCell ⟨wr.heap.size, 0, none⟩ (.int .u32 y.slot)).setCell ⟨wr.heap.size, 1, none⟩ (.int .u32 y.gen) := ⟨_, rfl⟩
             have HLd := Lib.hid HLD.out.2.1
             rw [← hW5] at HLd; rw [← hW5]; clear hW5 HLD)
          | (obtain ⟨W5, hW5⟩ : ∃ x, x = (w5.setCell ⟨wr.heap.size + 1, 0, none⟩ (.int .u32 y.slot)).setCell ⟨wr.heap.size + 1, 1, none⟩ (.int .u32 y.gen) := ⟨_, rfl⟩
             have HLd := Lib.hid HLD.out.2.1
             rw [← hW5] at HLd; rw [← hW5]; clear hW5 HLD)
          have HCC := Lib.hid HLd.out.cur
          obtain ⟨A9, c9, h9⟩ := HCC.out.told.shape
          subst h9
          have c1 := HCC.out.h.cell
          have f1 := HCC.out.h.frozen
          obtain ⟨d0, d1, d2, d3⟩ := hd_cells HLd.out.box
          have hlh : hs.length ≤ 100 := by have := S1.out.lh; omega
          have hgz : w.heap.size ≤ W5.heap.size := HCC.out.below.size
          go_wp2_with (at_builtin; refine wpList_append (E := hdE) (by rfl) _ _ _ (by rfl) 33 _ 8 Try.underlying29 infoHd (by rfl) w.heap.size _ hs W5 HCC.out.told (by rfl) y _ (by rfl) _ W5.heap.size (by rfl) (by rfl) (by omega) ⟨hgz, rfl⟩ ?_; intro g3 cp3 w6 hO6 hb6 hfar6 hsz6 hat6; have HP := Lib.hid (HCC.out.put ⟨by rfl, by rfl, by rfl⟩ (Nat.le_refl _) hO6 hb6 hfar6 hsz6 hat6); have hbx6 := (hfar6 bh HCC.out.h.lt (Vsb.row_ne HCC.out.told HCC.out.h (by decide))).trans HCC.out.h; have c6 := Boxed.cell hbx6; have f6 := Boxed.frozen hbx6; have HSZ := Lib.hid hsz6; clear hO6 hb6 hfar6 hsz6 hat6 hbx6)
          have HE : Hid (L1e w ba bh bl bo bi g (.slice (some ⟨bv, ov, none⟩) l.length cl) (.slice Ao out.length co) (.slice Ai inn.length ci) l (k + 1) (w6.setCell ⟨bh, 0, none⟩ (.slice (some ⟨g3, 0, none⟩) (hs.length + 1) cp3))) :=
            ⟨_, _, _, _, _, _, S1.out.next (by rw [HSK.out]; exact HTY.out _) (by rw [HSK.out]; exact HP.out) (by have := HLd.out.lt; have := HSZ.out; simp; omega) (by have := HLd.out.size; have := HSZ.out; simp; omega)⟩
          clear c1 f1 d0 d1 d2 d3 c6 f6
          go_wp2
          go_roundw
          case rel => exact ⟨k + 1, by omega, by omega, by go_num, HE.out⟩
          case measure => simp [intOf]; omega
      · have hex : (l.length : Int) ≤ (k : Int) ∨ ((k : Int) < (l.length : Int) ∧ (100 : Int) ≤ (k : Int)) := by omega
        clear hgo
        rcases hex with g1 | ⟨g1, g2⟩
        all_goals
          go_wp2_with fail
          go_meet
          exact ⟨k, _, _, _, _, _, _, hk1, hk2, S1⟩
  case rest =>
    obtain ⟨k, hs, xs, vs, vo, vh, t, hk1, hkl, S1⟩ := hcut
    clear HC0
    obtain ⟨wr, rfl⟩ : ∃ wr : World, wr = wc := ⟨_, rfl⟩
    go_upto_region 15 with fail
    have c1 := S1.out.cur.a.cell
    have c3 := (((Vsb.below_new wr (.cells #[.int .i64 0] 3)).trans ((Vsb.below_new (wr.alloc (.cells #[.int .i64 0] 3)) (.cells #[.bool true] 4)).mono (by simp))).cell (p := ⟨ba, 0, none⟩) S1.out.cur.a.lt).trans c1
    obtain ⟨W2, hW2⟩ : ∃ W, W = (wr.alloc (.cells #[.int .i64 0] 3)).alloc (.cells #[.bool true] 4) := ⟨_, rfl⟩
    rw [← hW2] at c3
    rw [← hW2]
    have HZ2 : Hid (W2.heap.size = wr.heap.size + 2) := by show _ = _; rw [hW2]; simp
    have HW2 := Lib.hid hW2
    clear hW2
    go_wp2_with fail
    refine (all_any (some ⟨g, 0, none⟩) W2).mono ?_
    rintro e W3' ⟨rfl, rfl⟩
    obtain ⟨W3, hW3⟩ : ∃ W, W = W2.alloc (.cells #[.pointer (some ⟨g, 0, none⟩)] 46) := ⟨_, rfl⟩
    have HR := Lib.hid (r1_start S1.out hk1 (W3 := W3) (by rw [hW3, HW2.out]) (tells t))
    have HBB := Lib.hid HR.out.2.2.2.1
    rw [← hW3, HZ2.out]
    clear hW3 HW2 c1 c3 HZ2
    obtain ⟨bn, hbn⟩ : ∃ b, b = wr.heap.size := ⟨_, rfl⟩
    have HBN := Lib.hid hbn
    rw [← hbn] at HR
    rw [← hbn]
    clear hbn
    go_wp2_with fail
    refine (wpIn_wide (n := 9)).1 ?_
    have HST := Lib.hid (Vud.all_stops 8 g (bn + 2) vs vo t W3 (by omega) (S1.out.cur.tab.below HBB.out) (S1.out.fine.small (by omega)) S1.out.fine.lv HR.out.2.2.1.cell HR.out.2.2.1.lt)
    refine range_all rfl (by omega) (gf := 36) (lb := #[.pointer (some ⟨bn + 2, 0, none⟩)]) rfl trivial (enters_of Try.func36 (by kernel_rfl) rfl)
      HST.out kept_t (fun W l o o' a b c d => kept_b (w := W3) W l o o' a b c d) (fun _ => rfl) (R1 w (bn + 2) ba bh bl bo bi g bn (bn + 1) W3.heap.size (.slice Al l.length cl) (.slice Ao out.length co) (.slice Ai inn.length ci) vh hs xs (tells t)) (r1_own _ (by have := S1.out.cur.below.size; have := HBB.out.size; omega)) HR.out.2.1 hbx xbx 33 50 f1 0 ?assign ?body ?rest
    case assign =>
      intro l' pre x W K hi hK
      have k1 := Vsb.below_new W (.cells (hbx x) 33)
      have k2 := Vsb.below_new (W.alloc (.cells (hbx x) 33)) (.cells (xbx x) 50)
      have k12 := k1.trans (k2.mono k1.size)
      have z1 : (W.alloc (.cells (hbx x) 33)).heap.size = W.heap.size + 1 := by simp
      have hn2 := heap_alloc_new (W.alloc (.cells (hbx x) 33)) (.cells (xbx x) 50)
      rw [z1] at hn2
      have hK2 := hK W.heap.size (W.heap.size + 1) ((W.alloc (.cells (hbx x) 33)).alloc (.cells (xbx x) 50)) (from_below k12) (kept_below k12) (R1.quiet hi k12) (Nat.zero_le _) (Nat.zero_le _) ((k2.block W.heap.size (by omega)).trans (heap_alloc_new W _)) hn2
      clear hK hn2 z1 k1 k2 k12
      gi_wp2
      exact hK2
    case body =>
      intro l' pre x B1 B2 W hl hr hi _ _ hb1 hb2 hlen
      have HII := Lib.hid hi
      obtain ⟨vs1, vo1, t1, hc, hf, hp, hn, hk⟩ := hi
      obtain ⟨hjk, hTj⟩ := L1.nth S1.out hlen
      rcases HL.out with ⟨h0, _⟩ | ⟨bv, ov, cv, hv, hbv, hcv⟩
      · exfalso
        have : l.length = 0 := by rw [h0]; rfl
        omega
      simp only [Value.slice.injEq] at hv
      obtain ⟨rfl, _, rfl⟩ := hv
      have hlh := S1.out.lh
      have hlx := S1.out.lx
      obtain ⟨bt, ct, _, hvh, _⟩ := Rwo.Own.some hc.told (by intro e; rw [e, List.length_nil] at hlh; omega)
      subst hvh
      obtain ⟨y, hy⟩ : ∃ y, hs.getD pre.length ⟨0, 0⟩ = y := ⟨_, rfl⟩
      obtain ⟨s, hsj⟩ : ∃ s, l.getD pre.length .empty = s := ⟨_, rfl⟩
      obtain ⟨b', hb', hxj⟩ := S1.out.th pre.length hjk
      rw [hsj] at hxj
      have hT1 : ((tells t)[pre.length]).1 = y := by rw [hTj, hy]
      have hT2 : (tells t)[pre.length] = (y, thing s b') := by rw [hTj, hy, hxj]
      have hoks := okx_ne (by rw [tells_fst]; exact S1.out.fine.nd) (x := x) hlen hT1
      rw [hT2] at hoks
      obtain ⟨d0, d1⟩ := Ste.hd_at hc.told pre.length (by omega) hy
      have c3 := (hc.below.cell (p := ⟨bv, ov + pre.length, none⟩) hbv).trans (str_at hcv pre.length (by omega) hsj)
      have cb := (hc.xs pre.length (by omega) b' (by rw [hxj])).cell
      have cl5 := hc.l.cell
      have ch := hc.h.cell
      have cn := hn.cell
      have cok := hk.cell
      have fn := hn.frozen
      have fo := hk.frozen
      obtain ⟨h0, h1, _, _⟩ := hd_cells hb1
      obtain ⟨x0, x1, _, _⟩ := hd_cells hb2
      have hnI : (pre.length : Int) < (hs.length : Int) := by omega
      have hnL : (pre.length : Int) < (l.length : Int) := by omega
      have hne : bn ≠ bn + 1 := by omega
      have hne' : bn + 1 ≠ bn := by omega
      have hhl : hs.length ≤ 100 := by omega
      have hmix : Try.prog.follows .mixedOrders = true := by kernel_rfl
      have HHR := Lib.hid (And.intro hl hr)
      clear hc hf hp hn hk hTj hcv hlh hlx hy hsj hxj hT1 hT2 hb1 hb2 hl hr
      dsimp only [f1]
      simp only [List.setIfInBounds_toArray, List.set_cons_zero, List.set_cons_succ]
      gi_upto_region 19 with fail
      gi_cut [] from 213 (fun wx => ∃ ob : Bool, Hid (okx (tells t) (pre ++ [x]) = ob) ∧ wx = (W.setCell ⟨bn + 1, 0, none⟩ (.bool ob)).drew)
      case first =>
        rcases hoks with ⟨o1, o2⟩ | ⟨o1, e1, o2⟩ | ⟨o1, e1, e2, o2⟩ | ⟨o1, e1, o2⟩
        all_goals
          rw [o1] at cok
          try (rw [e1] at h0 h1 x0 x1; clear e1)
          have HO2 := Lib.hid o2
          clear o1 o2
          refine Rnd.round_quiet 38 hmix (by kernel_rfl) (by kernel_rfl) (by rintro ⟨_, _, h⟩; exact h) ?_
          simp only [List.take_succ_cons, List.take_zero, List.drop_succ_cons, List.drop_zero]
          repeat (go_big_quiet_step (fail))
          refine wpQuiet_nil ?_
          change wpList _ _ _ _ _ W.drew
          go_wp2
          gi_meet
          exact ⟨_, HO2, rfl⟩
      case rest =>
        clear hoks h0 h1 x0 x1 cb c3 cl5 ch
        obtain ⟨ob, HO2, rfl⟩ := hcut
        have hcase : (((pre.length : Int) + 1 == 1) = false ∧ Hid (pre ≠ [])) ∨ (((pre.length : Int) + 1 == 1) = true ∧ Hid (pre = [])) := by
          cases pre with
          | nil => exact .inr ⟨rfl, Lib.hid rfl⟩
          | cons a l => exact .inl ⟨by rw [beq_eq_false_iff_ne]; simp; omega, Lib.hid (by simp)⟩
        rcases hcase with ⟨e3, HPR⟩ | ⟨e3, HPR⟩
        · gi_wp2_with fail
          exact r1_next HR.out.1 HO2.out HII.out
        have HE3 := Lib.hid e3
        gi_wp2_with fail
        clear cok cn fn fo d0 d1 e3
        obtain ⟨W19, hW19⟩ : ∃ W', W' = ((W.setCell ⟨bn + 1, 0, none⟩ (.bool ob)).setCell ⟨bn, 0, none⟩ (.int .i64 ((pre.length : Int) + 1))).drew := ⟨_, rfl⟩
        have HM0 := Lib.hid (mid_start HR.out.1 (o' := ob) HPR.out HII.out (x := x))
        have hp0 : (pre.length : Int) + 1 = 1 := by rw [HPR.out]; rfl
        rw [← hp0, ← hW19] at HM0
        rw [← hW19]
        clear hW19 hp0
        have hz1 : 0 < hs.length := by omega
        have HE0 : Hid (MidE w (bn + 2) ba bh bl bo bi g bn (bn + 1) W3.heap.size (.slice (some ⟨bv, ov, none⟩) l.length cl) (.slice Ao out.length co) (.slice Ai inn.length ci) (.slice (some ⟨bt, 0, none⟩) hs.length ct) hs xs W 1 ob 100 W19) := HM0.out
        clear HM0
        gi_loopw [19] (fun iv wx => ∃ i : Nat, i ≤ out.length ∧ iv = .int .i64 i ∧ Hid (MidE w (bn + 2) ba bh bl bo bi g bn (bn + 1) W3.heap.size (.slice (some ⟨bv, ov, none⟩) l.length cl) (.slice Ao out.length co) (.slice Ai inn.length ci) (.slice (some ⟨bt, 0, none⟩) hs.length ct) hs xs W 1 ob 100 wx)) (fun iv _ => out.length - (intOf iv).toNat)
        case atStart => exact ⟨0, Nat.zero_le _, rfl, HE0.out⟩
        case round =>
          obtain ⟨i, hi1, rfl, HMi⟩ := hrel
          clear HE0
          obtain ⟨vs2, vo2, t2, hm⟩ := HMi.out
          have HM := Lib.hid hm
          clear hm
          have c1 := HM.out.cur.a.cell
          have c2 := HM.out.cur.o.cell
          have c3 := HM.out.cur.h.cell
          have hol : out.length ≤ 1048576 := HFO.out.1
          by_cases hlt : i < out.length
          · rcases HO.out with ⟨h0, _⟩ | ⟨bvo, ovo, cvo, hvo, hbvo, hcvo⟩
            · exfalso
              have : out.length = 0 := by rw [h0]; rfl
              omega
            simp only [Value.slice.injEq] at hvo
            obtain ⟨rfl, _, rfl⟩ := hvo
            obtain ⟨q, hq⟩ : ∃ q, out.getD i 0 = q := ⟨_, rfl⟩
            have cq := (HM.out.cur.below.cell (p := ⟨bvo, ovo + i, none⟩) hbvo).trans (i64_at hcvo i hlt hq)
            obtain ⟨q1, q2⟩ := HFO.out.2 i hlt
            have CP := pick_q q hs.length wr.drew (by rw [← hq]; exact q1) (by rw [← hq]; exact q2) hz1 (by omega)
            have hjl : Stp.pk q hs.length < hs.length := Stp.pk_lt _ _ hz1
            obtain ⟨j, hj⟩ : ∃ j, Stp.pk q hs.length = j := ⟨_, rfl⟩
            rw [hj] at CP hjl
            obtain ⟨y2, hy2⟩ : ∃ y, hs.getD j ⟨0, 0⟩ = y := ⟨_, rfl⟩
            have hys : y2.slot < 4294967296 := by
              have := lives_le S1.out.fine (S1.out.fine.lv y2 (by rw [S1.out.oh, ← hy2]; exact getD_mem hjl))
              omega
            obtain ⟨e0, e1⟩ := Ste.hd_at HM.out.cur.told j hjl hy2
            have CF := Lib.hid (Mid.free HR.out.1 HM.out (by omega) y2 hys (Below.refl _ wr).drew)
            have hjI : (j : Int) < (hs.length : Int) := by omega
            clear hcvo hq q1 q2 hj hy2 hys hjl
            gi_wp2_with fail
            refine Rnd.round_quiet 11 hmix (by kernel_rfl) (by kernel_rfl) (by rintro ⟨_, _, h⟩; exact h) ?_
            simp only [List.take_succ_cons, List.take_zero, List.drop_succ_cons, List.drop_zero]
            repeat (go_big_quiet_step (fail))
            go_big_quiet_want
            go_big_quiet_op
            apply Exists.intro
            refine ⟨CP, ?_⟩
            go_big_quiet_on
            repeat (go_big_quiet_step (fail))
            refine wpQuiet_nil ?_
            change wpList _ _ _ _ _ wr.drew
            clear CP c1 c2 c3 cq e0 e1 hjI
            go_wp2_with fail
            refine CF.out.mono ?_
            rintro e w9 ⟨⟨c, rfl⟩, hM9⟩
            have HM9 := Lib.hid hM9
            clear hM9 CF HM
            go_wp2
            gi_wp2
            go_roundw
            case rel => exact ⟨i + 1, by omega, by go_num, HM9.out⟩
            case measure => simp [intOf]; omega
          · have HE1 := Lib.hid HMi.out
            clear HM HMi c1 c3
            gi_wp2_with fail
            clear c2
            gi_loopw [20] (fun iv wx => ∃ i : Nat, i ≤ 100 ∧ i ≤ inn.length ∧ iv = .int .i64 i ∧ Hid (MidE w (bn + 2) ba bh bl bo bi g bn (bn + 1) W3.heap.size (.slice (some ⟨bv, ov, none⟩) l.length cl) (.slice Ao out.length co) (.slice Ai inn.length ci) (.slice (some ⟨bt, 0, none⟩) hs.length ct) hs xs W 1 ob (100 + i) wx)) (fun iv _ => 100 - (intOf iv).toNat)
            case atStart => exact ⟨0, Nat.zero_le _, Nat.zero_le _, rfl, HE1.out⟩
            case round =>
              obtain ⟨i, hi1, hi2, rfl, HMi⟩ := hrel
              clear HE1
              obtain ⟨vs2, vo2, t2, hm⟩ := HMi.out
              have HM := Lib.hid hm
              clear hm
              have c1 := HM.out.cur.a.cell
              have c2 := HM.out.cur.i.cell
              by_cases hgo : i < inn.length ∧ i < 100
              · obtain ⟨g1, g2⟩ := hgo
                rcases HI.out with ⟨h0, _⟩ | ⟨bvi, ovi, cvi, hvi, hbvi, hcvi⟩
                · exfalso
                  have : inn.length = 0 := by rw [h0]; rfl
                  omega
                simp only [Value.slice.injEq] at hvi
                obtain ⟨rfl, _, rfl⟩ := hvi
                obtain ⟨s2, hs2⟩ : ∃ s, inn.getD i .empty = s := ⟨_, rfl⟩
                have cq := (HM.out.cur.below.cell (p := ⟨bvi, ovi + i, none⟩) hbvi).trans (str_at hcvi i g1 hs2)
                have HS3 : Hid (∀ (vs vo : Value) (t : Tab) (W : World), Cur w (bn + 2) ba bh bl bo bi g (.slice (some ⟨bv, ov, none⟩) l.length cl) (.slice Ao out.length co) (.slice (some ⟨bvi, ovi, none⟩) inn.length ci) hs xs vs vo (.slice (some ⟨bt, 0, none⟩) hs.length ct) t W → W.cell? ⟨ba, 0, none⟩ = some (.pointer (some ⟨g, 0, none⟩)) ∧ W.cell? ⟨bi, 0, none⟩ = some (.slice (some ⟨bvi, ovi, none⟩) inn.length ci) ∧ W.cell? ⟨bvi, ovi + i, none⟩ = some (.string s2)) :=
                  fun vs vo t W c => ⟨c.a.cell, c.i.cell, (c.below.cell (p := ⟨bvi, ovi + i, none⟩) hbvi).trans (str_at hcvi i g1 hs2)⟩
                clear hcvi hs2
                have CT1 := Lib.hid (Mid.take HR.out.1 HM.out (by omega) ⟨s2, none, 0, 0⟩ (Below.refl _ wr).drew)
                have CT2 := Lib.hid (Mid.take HR.out.1 HM.out (by omega) ⟨s2, none, 0, 0⟩ (Vsb.below_new wr hB0).drew)
                have hb0 := (Vsb.below_new wr hB0).drew
                have c1' := (hb0.cell (p := ⟨ba, 0, none⟩) HM.out.cur.a.lt).trans c1
                have c2' := (hb0.cell (p := ⟨bi, 0, none⟩) HM.out.cur.i.lt).trans c2
                have cq' := (hb0.cell (p := ⟨bvi, ovi + i, none⟩) (Nat.lt_of_lt_of_le hbvi HM.out.cur.below.size)).trans cq
                clear hb0
                gi_wp2_with fail
                refine Vsf.round_held (fun W => W.cell? ⟨ba, 0, none⟩ = some (.pointer (some ⟨g, 0, none⟩)) ∧ W.cell? ⟨bi, 0, none⟩ = some (.slice (some ⟨bvi, ovi, none⟩) inn.length ci) ∧ W.cell? ⟨bvi, ovi + i, none⟩ = some (.string s2)) hmix (by kernel_rfl) (by rintro ⟨_, _, h⟩; exact h) ⟨c1, c2, cq⟩ (fun hHeld => ?_)
                refine wpAnyH_take (i := 0) (v := ?_) rfl (by kernel_rfl) (by kernel_rfl) (by kernel_rfl) (fun _ _ _ h => h) (Or.inl ⟨by rfl, ?_⟩) hHeld ?_
                rotate_left
                · intro w hSw
                  try dsimp only at hSw
                  go_simp
                  with_reducible rfl
                try dsimp only [Act.put]
                try simp only [List.setIfInBounds_toArray]
                refine wpAnyH_take (i := 1) (v := ?_) rfl (by kernel_rfl) (by kernel_rfl) (by kernel_rfl) (fun _ _ _ h => h) (Or.inl ⟨by rfl, ?_⟩) hHeld ?_
                rotate_left
                · intro w hSw
                  try dsimp only at hSw
                  go_simp
                  with_reducible rfl
                try dsimp only [Act.put]
                try simp only [List.setIfInBounds_toArray]
                refine wpAnyH_take (i := 2) (v := ?_) rfl (by kernel_rfl) (by kernel_rfl) (by kernel_rfl) (fun _ _ _ h => h) (Or.inl ⟨by rfl, ?_⟩) hHeld ?_
                rotate_left
                · intro w hSw
                  try dsimp only at hSw
                  go_simp
                  with_reducible rfl
                try dsimp only [Act.put]
                try simp only [List.setIfInBounds_toArray]
                refine wpAnyH_take (i := 3) (v := ?_) rfl (by kernel_rfl) (by kernel_rfl) (by kernel_rfl) (fun _ _ _ h => h) (Or.inl ⟨by rfl, ?_⟩) hHeld ?_
                rotate_left
                · intro w hSw
                  try dsimp only at hSw
                  go_simp
                  with_reducible rfl
                try dsimp only [Act.put]
                try simp only [List.setIfInBounds_toArray]
                refine wpAnyH_take (i := 4) (v := ?_) rfl (by kernel_rfl) (by kernel_rfl) (by kernel_rfl) (fun _ _ _ h => h) (Or.inl ⟨by rfl, ?_⟩) hHeld ?_
                rotate_left
                · intro w hSw
                  try dsimp only at hSw
                  go_simp
                  with_reducible rfl
                try dsimp only [Act.put]
                try simp only [List.setIfInBounds_toArray]
                refine wpAnyH_take (i := 5) (v := ?_) rfl (by kernel_rfl) (by kernel_rfl) (by kernel_rfl) (fun _ _ _ h => h) (Or.inl ⟨by rfl, ?_⟩) hHeld ?_
                rotate_left
                · intro w hSw
                  try dsimp only at hSw
                  go_simp
                  with_reducible rfl
                try dsimp only [Act.put]
                try simp only [List.setIfInBounds_toArray]
                refine wpAnyH_ready (rs := [6, 10]) (by kernel_rfl) (by simp) ?_
                refine AllReadyH.cons rfl (fun K hK => ?_) (AllReadyH.cons rfl (fun K hK => ?_) AllReadyH.nil)
                · go_simp
                  go_at_call 18
                  refine CT1.out.mono ?_
                  rintro e w9 ⟨⟨y, rfl⟩, vs9, vo9, t9, hM9, hS9⟩
                  have HMA := Lib.hid hM9
                  have HMB := Lib.hid (hM9.quiet (Vsb.below_new w9 (hB y)))
                  have hs9 := HS3.out _ _ _ _ hM9.cur
                  have hs10 := HS3.out _ _ _ _ HMB.out.cur
                  clear hM9 hS9
                  refine hK.out _ _ hs9 (fun hHeld => ?_)
                  clear hK K
                  try dsimp only [Act.put]
                  try simp only [List.setIfInBounds_toArray]
                  refine wpAnyH_take (i := 7) (v := ?_) rfl (by kernel_rfl) (by kernel_rfl) (by kernel_rfl) (fun _ _ _ h => h) (Or.inl ⟨by rfl, ?_⟩) hHeld ?_
                  rotate_left
                  · intro w hSw
                    try dsimp only at hSw
                    go_simp
                    with_reducible rfl
                  try dsimp only [Act.put]
                  try simp only [List.setIfInBounds_toArray]
                  refine wpAnyH_take (i := 8) (v := ?_) rfl (by kernel_rfl) (by kernel_rfl) (by kernel_rfl) (fun _ _ _ h => h) (Or.inl ⟨by rfl, ?_⟩) hHeld ?_
                  rotate_left
                  · intro w hSw
                    try dsimp only at hSw
                    go_simp
                    with_reducible rfl
                  try dsimp only [Act.put]
                  try simp only [List.setIfInBounds_toArray]
                  refine wpAnyH_take (i := 9) (v := ?_) rfl (by kernel_rfl) (by kernel_rfl) (by kernel_rfl) (fun _ _ _ h => h) (Or.inl ⟨by rfl, ?_⟩) hHeld ?_
                  rotate_left
                  · intro w hSw
                    try dsimp only at hSw
                    go_simp
                    with_reducible rfl
                  try dsimp only [Act.put]
                  try simp only [List.setIfInBounds_toArray]
                  refine wpAnyH_ready (rs := [10]) (by kernel_rfl) (by simp) ?_
                  refine AllReadyH.cons rfl (fun K hK => ?_) AllReadyH.nil
                  go_simp
                  refine hK.out _ _ (S3_alloc hs9 _) (fun hHeld => ?_)
                  clear hK K
                  try dsimp only [Act.put]
                  try simp only [List.setIfInBounds_toArray]
                  refine wpAnyH_ready (rs := [11]) (by kernel_rfl) (by simp) ?_
                  refine AllReadyH.cons rfl (fun K hK => ?_) AllReadyH.nil
                  go_simp
                  refine hK.out _ _ hs10 (fun hHeld => ?_)
                  clear hK K
                  refine wpAnyH_ready (rs := [12]) (by kernel_rfl) (by simp) ?_
                  refine AllReadyH.cons rfl (fun K hK => ?_) AllReadyH.nil
                  go_simp
                  refine hK.out _ _ hs10 (fun hHeld => ?_)
                  clear hK K
                  try dsimp only [Act.put]
                  try simp only [List.setIfInBounds_toArray]
                  refine wpAnyH_done (by kernel_rfl) ?_ _
                  obtain ⟨W9, hW9⟩ : ∃ x, x = w9.alloc (hB y) := ⟨_, rfl⟩
                  have HMC := Lib.hid HMB.out
                  rw [← hW9] at HMC; rw [← hW9]
                  clear hW9 HMB HMA hs9 hs10 hHeld CT1 CT2 c1 c2 cq c1' c2' cq'
                  have cok := HMC.out.k.cell
                  have fok := HMC.out.k.frozen
                  have HMD := Lib.hid (fun o' => HMC.out.setOk HR.out.1 o')
                  cases ob
                  all_goals
                    gi_wp2
                    go_roundw
                    case rel => exact ⟨i + 1, by omega, by omega, by go_num, _, _, _, HMD.out _⟩
                    case measure => simp [intOf]; omega
                · go_simp
                  refine hK.out _ _ ⟨c1', c2', cq'⟩ (fun hHeld => ?_)
                  clear hK K
                  try dsimp only [Act.put]
                  try simp only [List.setIfInBounds_toArray]
                  refine wpAnyH_ready (rs := [6]) (by kernel_rfl) (by simp) ?_
                  refine AllReadyH.cons rfl (fun K hK => ?_) AllReadyH.nil
                  go_simp
                  go_at_call 18
                  refine CT2.out.mono ?_
                  rintro e w9 ⟨⟨y, rfl⟩, vs9, vo9, t9, hM9, hS9⟩
                  have HPT := Lib.hid (Mid.put (y := y) HR.out.1 HM.out hM9 hS9 (heap_alloc_new wr hB0) (Nat.le_refl _) (by simp))
                  have hs9 := HS3.out _ _ _ _ hM9.cur
                  have hs10 := HS3.out _ _ _ _ HPT.out.1.cur
                  obtain ⟨d0, d1, d2, d3⟩ := hd_cells HPT.out.2
                  clear hM9 hS9
                  refine hK.out _ _ hs9 (fun hHeld => ?_)
                  clear hK K
                  try dsimp only [Act.put]
                  try simp only [List.setIfInBounds_toArray]
                  refine wpAnyH_take (i := 7) (v := ?_) rfl (by kernel_rfl) (by kernel_rfl) (by kernel_rfl) (fun _ _ _ h => h) (Or.inl ⟨by rfl, ?_⟩) hHeld ?_
                  rotate_left
                  · intro w hSw
                    try dsimp only at hSw
                    go_simp
                    with_reducible rfl
                  try dsimp only [Act.put]
                  try simp only [List.setIfInBounds_toArray]
                  refine wpAnyH_take (i := 8) (v := ?_) rfl (by kernel_rfl) (by kernel_rfl) (by kernel_rfl) (fun _ _ _ h => h) (Or.inl ⟨by rfl, ?_⟩) hHeld ?_
                  rotate_left
                  · intro w hSw
                    try dsimp only at hSw
                    go_simp
                    with_reducible rfl
                  try dsimp only [Act.put]
                  try simp only [List.setIfInBounds_toArray]
                  refine wpAnyH_take (i := 9) (v := ?_) rfl (by kernel_rfl) (by kernel_rfl) (by kernel_rfl) (fun _ _ _ h => h) (Or.inl ⟨by rfl, ?_⟩) hHeld ?_
                  rotate_left
                  · intro w hSw
                    try dsimp only at hSw
                    go_simp
                    with_reducible rfl
                  try dsimp only [Act.put]
                  try simp only [List.setIfInBounds_toArray]
                  refine wpAnyH_ready (rs := [11]) (by kernel_rfl) (by simp) ?_
                  refine AllReadyH.cons rfl (fun K hK => ?_) AllReadyH.nil
                  go_simp
                  refine hK.out _ _ hs10 (fun hHeld => ?_)
                  clear hK K
                  refine wpAnyH_ready (rs := [12]) (by kernel_rfl) (by simp) ?_
                  refine AllReadyH.cons rfl (fun K hK => ?_) AllReadyH.nil
                  go_simp
                  refine hK.out _ _ hs10 (fun hHeld => ?_)
                  clear hK K
                  try dsimp only [Act.put]
                  try simp only [List.setIfInBounds_toArray]
                  refine wpAnyH_done (by kernel_rfl) ?_ _
                  obtain ⟨W9, hW9⟩ : ∃ x, x = (w9.setCell ⟨wr.heap.size, 0, none⟩ (.int .u32 y.slot)).setCell ⟨wr.heap.size, 1, none⟩ (.int .u32 y.gen) := ⟨_, rfl⟩
                  have HMC := Lib.hid HPT.out.1
                  rw [← hW9] at HMC; rw [← hW9]
                  clear hW9 HPT hs9 hs10 hHeld CT1 CT2 c1 c2 cq c1' c2' cq' d0 d1 d2 d3
                  have cok := HMC.out.k.cell
                  have fok := HMC.out.k.frozen
                  have HMD := Lib.hid (fun o' => HMC.out.setOk HR.out.1 o')
                  cases ob
                  all_goals
                    gi_wp2
                    go_roundw
                    case rel => exact ⟨i + 1, by omega, by omega, by go_num, _, _, _, HMD.out _⟩
                    case measure => simp [intOf]; omega
              · have hex : (inn.length : Int) ≤ (i : Int) ∨ ((i : Int) < (inn.length : Int) ∧ (100 : Int) ≤ (i : Int)) := by omega
                have HE2 := Lib.hid HMi.out
                clear hgo HMi HM c1
                rcases hex with g1 | ⟨g1, g2⟩
                all_goals
                  gi_wp2_with fail
                  clear c2 g1
                  try clear g2
                  gi_loopw [23] (fun iv wx => ∃ j : Nat, j ≤ hs.length ∧ iv = .int .i64 j ∧ Hid (MidE w (bn + 2) ba bh bl bo bi g bn (bn + 1) W3.heap.size (.slice (some ⟨bv, ov, none⟩) l.length cl) (.slice Ao out.length co) (.slice Ai inn.length ci) (.slice (some ⟨bt, 0, none⟩) hs.length ct) hs xs W 1 ob (100 + i) wx)) (fun iv _ => hs.length - (intOf iv).toNat)
                  case atStart => exact ⟨0, Nat.zero_le _, rfl, HE2.out⟩
                  case round =>
                    obtain ⟨j, hj1, rfl, HMj⟩ := hrel
                    clear HE2
                    obtain ⟨vs2, vo2, t2, hm⟩ := HMj.out
                    have HM := Lib.hid hm
                    clear hm
                    have c1 := HM.out.cur.a.cell
                    have c3 := HM.out.cur.h.cell
                    by_cases hlt : j < hs.length
                    · obtain ⟨y2, hy2⟩ : ∃ y, hs.getD j ⟨0, 0⟩ = y := ⟨_, rfl⟩
                      have hys : y2.slot < 4294967296 := by
                        have := lives_le S1.out.fine (S1.out.fine.lv y2 (by rw [S1.out.oh, ← hy2]; exact getD_mem hlt))
                        omega
                      obtain ⟨e0, e1⟩ := Ste.hd_at HM.out.cur.told j hlt hy2
                      have CF := Lib.hid (Mid.set HR.out.1 HM.out (by omega) y2 hys ⟨⟨#[111, 116, 104, 101, 114]⟩, none, 0, 0⟩ (Below.refl _ wr).drew)
                      clear hy2 hys
                      gi_wp2_with fail
                      refine Rnd.round_quiet 6 hmix (by kernel_rfl) (by kernel_rfl) (by rintro ⟨_, _, h⟩; exact h) ?_
                      simp only [List.take_succ_cons, List.take_zero, List.drop_succ_cons, List.drop_zero]
                      repeat (go_big_quiet_step (fail))
                      refine wpQuiet_nil ?_
                      change wpList _ _ _ _ _ wr.drew
                      clear c1 c3 e0 e1
                      go_wp2_with fail
                      refine CF.out.mono ?_
                      rintro e w9 ⟨⟨c, rfl⟩, hM9⟩
                      have HM9 := Lib.hid hM9
                      clear hM9 CF HM
                      go_wp2
                      gi_wp2
                      go_roundw
                      case rel => exact ⟨j + 1, by omega, by go_num, HM9.out⟩
                      case measure => simp [intOf]; omega
                    · clear HM c1
                      gi_wp2
                      obtain ⟨vs9, vo9, t9, hm9⟩ := HMj.out
                      have hO := HO2.out
                      have hp := HPR.out
                      subst hp
                      exact r1_first hO (by omega) hm9
    case rest =>
      rintro D xs' W hD rfl ⟨vs9, vo9, t9, hc9, hf9, _, hn9, hk9⟩ hdf
      rw [okx_all] at hk9
      have hln : (tells t).attach.length = hs.length := by rw [List.length_attach, ← S1.out.oh, ← tells_fst t, List.length_map]
      rw [hln] at hn9
      obtain ⟨A9, k9, hvh⟩ := hc9.told.shape
      subst hvh
      have HC9 := Lib.hid hc9
      have HF9 := Lib.hid hf9
      have HK9 := Lib.hid (And.intro hn9 hk9)
      have HDF := Lib.hid hdf
      have HDZ := Lib.hid hD
      have cn := hn9.cell
      have cok := hk9.cell
      have ch := hc9.h.cell
      have hhl : hs.length ≤ 100 := by have := S1.out.lh; omega
      clear hc9 hf9 hn9 hk9 hdf hD hln
      dsimp only
      go_wp2_with fail
      have HI2 := Lib.hid (r2_start HC9.out HK9.out.2 HDF.out)
      have hz11 : Hid ((W.alloc (.cells #[.int .i64 0] 3)).heap.size = W.heap.size + 1) := by show _ = _; simp
      obtain ⟨W11, hW11⟩ : ∃ W', W' = W.alloc (.cells #[.int .i64 0] 3) := ⟨_, rfl⟩
      rw [← hW11] at HI2 hz11
      rw [← hW11]
      obtain ⟨bm, hbm⟩ : ∃ b, b = W.heap.size := ⟨_, rfl⟩
      have HBM := Lib.hid hbm
      rw [← hbm] at HI2 hz11
      rw [← hbm]
      clear hW11 hbm cn cok ch
      refine (wpIn_wide (n := 9)).1 ?_
      have HST2 := Lib.hid (Vud.all_stops 8 g (bn + 2) vs9 vo9 t9 W11 (by omega) HI2.out.cur.tab (HF9.out.small (by omega)) HF9.out.lv HI2.out.cur.q.cell HI2.out.cur.q.lt)
      have HBS : Hid (w.heap.size ≤ W11.heap.size ∧ D < W11.heap.size ∧ W3.heap.size ≤ W11.heap.size) := ⟨HI2.out.cur.below.size, (Array.getElem?_eq_some_iff.1 HI2.out.dfr).1, by have := HDZ.out; have := (Array.getElem?_eq_some_iff.1 HI2.out.dfr).1; omega⟩
      refine range_all rfl (by omega) (gf := 36) (lb := #[.pointer (some ⟨bn + 2, 0, none⟩)]) rfl trivial (enters_of Try.func36 (by kernel_rfl) rfl)
        HST2.out kept_t (fun W l o o' a b c d => kept_b (w := W11) W l o o' a b c d) (fun _ => rfl) (R2 w (bn + 2) ba bh bl bo bi g (bn + 1) bm D (.slice Al l.length cl) (.slice Ao out.length co) (.slice Ai inn.length ci) (.slice A9 hs.length k9) hs xs vs9 vo9 t9) (r2_own _ HBS.out.1 HBS.out.2.1) HI2.out hbx xbx 33 50 f2 0 ?assign2 ?body2 ?rest2
      case assign2 =>
        intro l' pre x W K hi hK
        have k1 := Vsb.below_new W (.cells (hbx x) 33)
        have k2 := Vsb.below_new (W.alloc (.cells (hbx x) 33)) (.cells (xbx x) 50)
        have k12 := k1.trans (k2.mono k1.size)
        have z1 : (W.alloc (.cells (hbx x) 33)).heap.size = W.heap.size + 1 := by simp
        have hn2 := heap_alloc_new (W.alloc (.cells (hbx x) 33)) (.cells (xbx x) 50)
        rw [z1] at hn2
        have hK2 := hK W.heap.size (W.heap.size + 1) ((W.alloc (.cells (hbx x) 33)).alloc (.cells (xbx x) 50)) (from_below k12) (kept_below k12) (R2.quiet hi k12) (Nat.zero_le _) (Nat.zero_le _) ((k2.block W.heap.size (by omega)).trans (heap_alloc_new W _)) hn2
        clear hK hn2 z1 k1 k2 k12
        gi_wp2
        exact hK2
      case body2 =>
        intro l' pre x B1 B2 W hl hr hi _ _ hb1 hb2 hlen
        have HII := Lib.hid hi
        obtain ⟨y, hy⟩ : ∃ y, x.1.1 = y := ⟨_, rfl⟩
        obtain ⟨z, hz⟩ : ∃ z, x.1.2 = z := ⟨_, rfl⟩
        obtain ⟨hlv, hth⟩ := HF9.out.told x.2
        rw [hy] at hlv hth
        rw [hz] at hth
        have CG := Lib.hid (get_yes g vs9 vo9 t9 y.slot y.gen W (Lib.hid hi.cur.tab) (Lib.hid (HF9.out.small (by omega))) (Lib.hid hlv) z (Lib.hid hth))
        have c1 := hi.cur.a.cell
        obtain ⟨h0, h1, _, _⟩ := hd_cells hb1
        obtain ⟨x0, _, _, _⟩ := hd_cells hb2
        rw [hy] at h0 h1
        rw [hz] at x0
        have HB12 := Lib.hid (And.intro hb1 hb2)
        have hpl : pre.length ≤ 200 := by
          have h3 : (tells t9).length = t9.ord.length := by rw [← tells_fst t9, List.length_map]
          have := HF9.out.ok.ord; have := HF9.out.c; omega
        clear hi hb1 hb2 hl hr hlen hlv hth
        dsimp only [f2]
        rw [hy, hz]
        have HYZ := Lib.hid (And.intro hy hz)
        clear hy hz
        simp only [List.setIfInBounds_toArray, List.set_cons_zero, List.set_cons_succ]
        gi_wp2_with fail
        refine ⟨trivial, (CallsIn.inRound l' (callsIn_wide.2 CG.out)).mono ?_⟩
        rintro e w5 ⟨rfl, hb5⟩
        have HB5 := Lib.hid (hb5.trans ((Vsb.below_new w5 (xbox z)).mono hb5.size))
        have x5 := (hb5.cell (p := ⟨B2, 0, none⟩) (Array.getElem?_eq_some_iff.1 HB12.out.2).1).trans x0
        have HQ := Lib.hid (HII.out.quiet HB5.out)
        have HNX := Lib.hid (r2_next HR.out.1 HBS.out.2.2 (bm := bm) ⟨by have := HC9.out.below.size; have := HBM.out; omega, by have := hz11.out; omega⟩ (by have := HR.out.1.k; have := HBM.out; have := HK9.out.2.lt; omega) (fun j hj e => by have := (HC9.out.xs j hj _ e).lt; have := HBM.out; omega) x HII.out HB5.out)
        gi_upto_region 42 with fail
        have hx5 := hd_cells (heap_alloc_new w5 (xbox z))
        have hx6 : (w5.alloc (xbox z)).cell? ⟨B2, 0, none⟩ = some (.string z.a) := ((Vsb.below_new w5 (xbox z)).cell (p := ⟨B2, 0, none⟩) (Slo.cell_lt x5)).trans x5
        obtain ⟨W5, hW5⟩ : ∃ W', W' = w5.alloc (xbox z) := ⟨_, rfl⟩
        rw [← hW5] at HB5 hx5 hx6 HNX HQ
        rw [← hW5]
        clear hW5 x5 x0 h0 h1 c1 hb5 CG
        obtain ⟨y0, _, _, _⟩ := hx5
        have cok := HQ.out.k.cell
        have fok := HQ.out.k.frozen
        have cm := HQ.out.m.cell
        have fm := HQ.out.m.frozen
        have hmk : bm ≠ bn + 1 := by have := HK9.out.2.lt; have := HBM.out; omega
        have hkm : bn + 1 ≠ bm := fun e => hmk e.symm
        gi_wp2
        exact HNX.out
      case rest2 =>
        rintro D2 xs2 W2 hD2 rfl hR2 hdf2
        have hlt : (tells t9).attach.length = t9.count := by
          rw [List.length_attach, ← HF9.out.ok.ord, ← tells_fst t9, List.length_map]
        have HR2 := Lib.hid hR2
        have cm := hR2.m.cell
        rw [hlt] at cm
        have cok := hR2.k.cell
        have c1 := hR2.cur.a.cell
        have CC := Lib.hid (fun q => Vtg.count_any g vs9 vo9 t9 (W2.drewN q) (Lib.hid ((CK.tab (CK.of_below (Sta.below_drewN W2 q)) hR2.cur.tab))))
        have HDD := Lib.hid (And.intro hR2.dfr hdf2)
        have HBX := Lib.hid hR2.cur.below
        have HD2 := Lib.hid hD2
        clear hR2 hdf2 hD2 hlt
        dsimp only
        go_wp2_with fail
        go_quiet ((go_at_call 23; exact Calls.quiet_of_same ((CC.out _).mono fun e w' h => ⟨h.1, h.2.symm⟩)))
        go_wp2
        have hdA : (W2.drewN nq).heap[D2]? = some (.deferred (some [])) := HDD.out.2
        have hdB : (W2.drewN nq).heap[D]? = some (.deferred (some [])) := HDD.out.1
        have hbx : Below w.heap.size w (W2.drewN nq) := Sta.below_drewN_up HBX.out nq
        obtain ⟨WQ, hWQ⟩ : ∃ W', W' = W2.drewN nq := ⟨_, rfl⟩
        rw [← hWQ] at hdA hdB hbx
        rw [← hWQ]
        clear hWQ
        have hDD := HBS.out
        have hd2 := HD2.out
        have hdz := HDZ.out
        have hw3 := HBB.out.size
        have hww := S1.out.cur.below.size
        have hd3 := (World.putObj_heap_other (w := WQ) (o := .deferred none) (show D ≠ D2 by omega)).trans hdB
        refine ⟨by simp, .inl ⟨_, _, rfl, run_takeDeferred hdA, ⟨by simp, .inl ⟨_, _, rfl, run_takeDeferred hd3, ?_⟩⟩⟩⟩
        exact ⟨_, results_tmp rfl _ _ _, rfl, (hbx.trans (belowK_b (w := w) (Nat.le_refl _) WQ D2 _ _ (by omega) hdA rfl rfl)).trans (belowK_b (w := w) (Nat.le_refl _) _ D _ _ (by omega) hd3 rfl rfl)⟩
theorem walks (vl : Value) (l : List ByteArray) (vO : Value) (out : List Int) (vi : Value) (inn : List ByteArray) (w : World) (hfl : TextsFit l) (hal : Arg strE w vl l) (hfo : IntsFit out) (hao : Arg i64E w vO out) (hfi : TextsFit inn) (hai : Arg strE w vi inn) :
    Calls Try.prog 4 #[vl, vO, vi] w fun e w' => e = .returned (.bool true) ∧ Below w.heap.size w w' := walk vl vO vi l out inn w hfl hal hfo hao hfi hai
end Go.Proofs.Ytijlnlcjlkanaaa.Vsd
