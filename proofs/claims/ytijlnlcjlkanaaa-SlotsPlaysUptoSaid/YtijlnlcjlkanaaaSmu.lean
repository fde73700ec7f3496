/- SlotsPlays: the walk. -/
import Derived.Test.YtijlnlcjlkanaaaSms
import Derived.Deep.DeepCutAuto
import Derived.StillTailTactics
set_option linter.unusedVariables false
namespace Go.Proofs.Ytijlnlcjlkanaaa.Smu
open Go.RowKit Rwo Sta Stb Stc Stg Ste Stl Stm Stn Sto Slo Slp Stp Sue Suf Suj Suk Smp Smq Smr Smt Sms

theorem ins_cells {w : World} {b o : Nat} {l : List Ins} (h : ∀ j, j < l.length → ∀ i, i < opE.z → w.cell? ⟨b, o + j * opE.z + i, none⟩ = (opE.f (l.getD j opE.d))[i]?) (j : Nat) (hj : j < l.length) {s : Ins} (hs : l.getD j opE.d = s) :
    w.cell? ⟨b, o + j * 7, none⟩ = some (.int .i64 s.kind) ∧ w.cell? ⟨b, o + j * 7 + 1, none⟩ = some (.int .i64 s.x) ∧ w.cell? ⟨b, o + j * 7 + 2, none⟩ = some (.int .i64 s.which) ∧ w.cell? ⟨b, o + j * 7 + 3, none⟩ = some (.int .i64 s.early) ∧
    w.cell? ⟨b, o + j * 7 + 4, none⟩ = some (.int .u32 s.slot) ∧ w.cell? ⟨b, o + j * 7 + 5, none⟩ = some (.int .u32 s.gen) ∧ w.cell? ⟨b, o + j * 7 + 6, none⟩ = some (.bool s.hand) := by
  subst hs
  exact ⟨h j hj 0 (by show 0 < 7; omega), h j hj 1 (by show 1 < 7; omega), h j hj 2 (by show 2 < 7; omega), h j hj 3 (by show 3 < 7; omega), h j hj 4 (by show 4 < 7; omega), h j hj 5 (by show 5 < 7; omega), h j hj 6 (by show 6 < 7; omega)⟩
set_option maxHeartbeats 1000000 in
set_option maxRecDepth 100000 in
theorem new_no (size : Int) (w : World) (h1 : size < 1 ∨ 500 < size) :
    Calls Try.prog 9 #[.int .i64 size] w fun e w' => e = .returned (.tuple #[.pointer none, .int .i64 1]) ∧ w = w' := by
  rcases h1 with h1 | h1
  · go_enter Try.func9, Try.ntmps9
    go_wp2
    go_ret2
    exact ⟨rfl, rfl⟩
  · have a1 : decide (size < (1 : Int)) = false := decide_eq_false (by omega)
    go_enter Try.func9, Try.ntmps9
    go_wp2
    go_ret2
    exact ⟨rfl, rfl⟩
theorem count_q (g : Nat) (vs vo : Value) (t : Tab) (w : World) (n C : Nat) (h : Hid (TabAt g vs vo t w)) (hC : t.count = C) :
    Calls Try.prog 15 #[.pointer (some ⟨g, 0, none⟩)] (w.drewN n) fun e w' => e = .returned (.int .i64 C) ∧ w' = w.drewN n :=
  (count_any g vs vo t (w.drewN n) (Lib.hid (h.out.below (below_drewN w n)))).mono fun e w' h => ⟨by rw [h.1, hC], h.2.symm⟩
theorem born_q (g : Nat) (vs vo : Value) (t : Tab) (w : World) (n C : Nat) (h : Hid (TabAt g vs vo t w)) (hC : t.born = C) :
    Calls Try.prog 16 #[.pointer (some ⟨g, 0, none⟩)] (w.drewN n) fun e w' => e = .returned (.int .i64 C) ∧ w' = w.drewN n :=
  (born_any g vs vo t (w.drewN n) (Lib.hid (h.out.below (below_drewN w n)))).mono fun e w' h => ⟨by rw [h.1, hC], h.2.symm⟩
theorem rcount_q (g : Nat) (vr : Value) (R : List Th) (most : Nat) (w : World) (n C : Nat) (h : Hid (RefAt g vr R most w)) (hn : R.length ≤ 1000000) (hC : R.countP here = C) :
    Calls Try.prog 27 #[.pointer (some ⟨g, 0, none⟩)] (w.drewN n) fun e w' => e = .returned (.int .i64 C) ∧ w' = w.drewN n :=
  (rcount_any g vr R most (w.drewN n) (Lib.hid (h.out.below (below_drewN w n))) hn).mono fun e w' h => ⟨by rw [h.1, hC], h.2.symm⟩
theorem both_start {w w1 w2 w3 : World} {n : Nat} (hb1 : Below w.heap.size w w1) (hT : TabAt w1.heap.size (.slice none 0 0) (.slice none 0 0) ⟨[], n, 0, 0, []⟩ w2) (hb2 : Below w1.heap.size w1 w2) (hR : RefAt w2.heap.size (.slice none 0 0) [] n w3) (hb3 : Below w2.heap.size w2 w3) :
    Both w w3.heap.size w1.heap.size w2.heap.size (.slice none 0 0) (.slice none 0 0) (.slice none 0 0) (.slice none 0 0) ⟨[], n, 0, 0, []⟩ [] n [] (w3.alloc (.cells #[.pointer (some ⟨w1.heap.size, 0, none⟩), .pointer (some ⟨w2.heap.size, 0, none⟩), .slice none 0 0] 65)) := by
  have h1 := hb1.size
  have h2 := hb2.size
  have h3 := hb3.size
  have hb4 := Sug.below_new w3 (.cells #[.pointer (some ⟨w1.heap.size, 0, none⟩), .pointer (some ⟨w2.heap.size, 0, none⟩), .slice none 0 0] 65)
  exact ⟨heap_alloc_new w3 _, (hT.below hb3).below hb4, hR.below hb4, Own.nil _ _, fun b e => (by cases e), by omega, by omega, by omega, ((hb1.trans (hb2.mono h1)).trans (hb3.mono (by omega))).trans (hb4.mono (by omega))⟩
def Loop (w0 : World) (gp g gb n : Nat) (v : Value) (l : List Ins) (k : Nat) (w : World) : Prop := Sms.Good w0 gp g gb n k w ∧ Arg opE w v l
set_option maxHeartbeats 4000000 in
set_option maxRecDepth 100000 in
theorem walk_bad (size : Int) (v : Value) (w : World) (hb : size < 1 ∨ 500 < size) :
    Calls Try.prog 5 #[.int .i64 size, v] w fun e w' => e = .returned (.bool true) ∧ Below w.heap.size w w' := by
  have CA := awake_any w
  have H0 := Lib.hid hb
  clear hb
  go_enter Try.func5, Try.ntmps5
  go_wp2_with fail
  refine CA.mono ?_
  rintro e w1 ⟨rfl, hb1⟩
  have HB := Lib.hid hb1
  have CN := new_no size w1 H0.out
  clear CA hb1
  go_wp2_with fail
  refine CN.mono ?_
  rintro e w2 ⟨rfl, rfl⟩
  have CR := rnew_no size w1 H0.out
  clear CN
  go_wp2_with fail
  refine CR.mono ?_
  rintro e w2 ⟨⟨p, rfl⟩, hb2⟩
  have HB2 := Lib.hid (HB.out.trans (hb2.mono HB.out.size))
  have cc := code_at false 1 1 rfl w2
  clear CR hb2
  go_wp2_with fail
  refine cc.mono ?_
  rintro e w3 ⟨rfl, rfl⟩
  go_wp2
  go_ret
  exact ⟨rfl, HB2.out⟩
set_option maxHeartbeats 8000000 in
set_option maxRecDepth 100000 in
theorem walk_ok (n : Nat) (v : Value) (l : List Ins) (w : World) (n1 : 1 ≤ n) (n2 : n ≤ 500) (hf : OpsFit l) (ha : Arg opE w v l) :
    Calls Try.prog 5 #[.int .i64 n, v] w fun e w' => e = .returned (.bool true) ∧ Below w.heap.size w w' := by
  have HF := Lib.hid hf
  have HA := Lib.hid ha
  have CA := awake_any w
  clear ha hf
  go_enter Try.func5, Try.ntmps5
  go_wp2_with fail
  refine CA.mono ?_
  rintro e w1 ⟨rfl, hb1⟩
  have HB1 := Lib.hid hb1
  have CN := new_ok n w1 n1 n2
  clear CA hb1
  go_wp2_with fail
  refine CN.mono ?_
  rintro e w2 ⟨rfl, hT, hb2⟩
  have HT2 := Lib.hid (And.intro hT hb2)
  have CR := rnew_ok n w2 n1 n2
  clear CN hT hb2
  go_wp2_with fail
  refine CR.mono ?_
  rintro e w3 ⟨rfl, hR, hb3⟩
  have HC := Lib.hid (both_start HB1.out HT2.out.1 HT2.out.2 hR hb3)
  have cc := code_at true 1 0 rfl w3
  clear CR hR hb3
  obtain ⟨g, hg⟩ : ∃ g, g = w1.heap.size := ⟨_, rfl⟩
  rw [← hg] at HC
  rw [← hg]
  clear hg
  obtain ⟨gb, hgb⟩ : ∃ g, g = w2.heap.size := ⟨_, rfl⟩
  rw [← hgb] at HC
  rw [← hgb]
  clear hgb HT2
  go_wp2_with fail
  refine cc.mono ?_
  rintro e w3' ⟨rfl, rfl⟩
  clear cc
  go_upto_region 9 with fail
  obtain ⟨W, hW⟩ : ∃ W, W = w3.alloc (.cells #[.pointer (some ⟨g, 0, none⟩), .pointer (some ⟨gb, 0, none⟩), .slice none 0 0] 65) := ⟨_, rfl⟩
  rw [← hW] at HC
  rw [← hW]
  obtain ⟨gp, hgp⟩ : ∃ g, g = w3.heap.size := ⟨_, rfl⟩
  rw [← hgp] at HC
  rw [← hgp]
  clear hW hgp
  have HL : Hid (Loop w gp g gb n v l 0 W) := ⟨⟨_, _, _, _, _, _, _, HC.out, Sim.start n n2, Nat.le_refl _, Nat.le_refl _, rfl, fun h hh => by cases hh⟩, HA.out.below HC.out.below⟩
  clear HC
  go_wp2_with fail
  go_loopw [11] (fun iv wr => ∃ i : Nat, i ≤ 1000 ∧ i ≤ l.length ∧ iv = .int .i64 i ∧ Hid (Loop w gp g gb n v l i wr)) (fun iv _ => 1000 - (intOf iv).toNat)
  case atStart => exact ⟨0, by omega, by omega, rfl, HL.out⟩
  case round =>
    obtain ⟨i, hi1, hi2, rfl, HL2⟩ := hrel
    clear HL
    obtain ⟨⟨vs, vo, vr, vt, t, R, ts, hC, hS, hr, hts, hm, hsl⟩, hArg⟩ := HL2.out
    have HC := Lib.hid hC
    have HS := Lib.hid hS
    have HM := Lib.hid hm
    have HSL := Lib.hid hsl
    have HAr := Lib.hid hArg
    clear HL2 hC hS hArg hsl hm
    by_cases hgo : i < l.length ∧ i < 1000
    · obtain ⟨g1, g2⟩ := hgo
      rcases HAr.out with ⟨rfl, _⟩ | ⟨bv, ov, cv, rfl, hbv, hcv⟩
      · simp at g1
      obtain ⟨o, ho⟩ : ∃ o, l.getD i opE.d = o := ⟨_, rfl⟩
      obtain ⟨a0, a1, a2, a3, a4, a5, a6⟩ := ins_cells hcv i g1 ho
      have hfo := HF.out.2 i g1
      rw [ho] at hfo
      have CS := Lib.hid (step_any HC.out HS.out hr (by omega) hts HM.out HSL.out o hfo)
      clear hcv ho hfo
      go_upto_region 13 with (go_at_call 26; (with_reducible refine CS.out.mono ?_); rintro e w5 ⟨rfl, hG⟩)
      have HG := Lib.hid hG
      clear hG CS a0 a1 a2 a3 a4 a5 a6 HC HS HM HSL hr hts
      obtain ⟨vs5, vo5, vr5, vt5, t5, R5, ts5, hC5, hS5, hr5, hts5, hm5, hsl5⟩ := HG.out
      have HC5 := Lib.hid hC5
      obtain ⟨C, hc⟩ : ∃ C, t5.count = C := ⟨_, rfl⟩
      obtain ⟨L, hl⟩ : ∃ L, t5.born = L := ⟨_, rfl⟩
      have CC := Lib.hid (fun k => count_q g vs5 vo5 t5 w5 k C (Lib.hid hC5.tab) hc)
      have CB := Lib.hid (fun k => born_q g vs5 vo5 t5 w5 k L (Lib.hid hC5.tab) hl)
      have CRR := Lib.hid (fun k => rcount_q gb vr5 R5 n w5 k C (Lib.hid hC5.ref) (by omega) (hS5.count.trans hc))
      have hl2 : R5.length = L := by rw [← hS5.born]; exact hl
      obtain ⟨⟨c0, c1⟩, _⟩ := hC5.ref.cells
      obtain ⟨A9, c9, h9⟩ := hC5.ref.all.shape
      rw [h9, hl2] at c0
      have HL5 : Hid (Loop w gp g gb n (.slice (some ⟨bv, ov, none⟩) l.length cv) l (i + 1) w5) := ⟨HG.out, HA.out.below HC5.out.below⟩
      clear hc hl hl2 h9 hC5 hS5 hr5 hts5 hm5 hsl5 HG c1
      go_wp2_with fail
      go_quiet ((first | (go_at_call 15; exact Calls.quiet_of_same (CC.out _)) | (go_at_call 16; exact Calls.quiet_of_same (CB.out _)) | (go_at_call 27; exact Calls.quiet_of_same (CRR.out _))))
      have HL6 : Hid (Loop w gp g gb n (.slice (some ⟨bv, ov, none⟩) l.length cv) l (i + 1) (w5.drewN nq)) := by
        obtain ⟨⟨vs5, vo5, vr5, vt5, t5, R5, ts5, hC5, hrest⟩, ha⟩ := HL5.out
        exact ⟨⟨vs5, vo5, vr5, vt5, t5, R5, ts5, hC5.quiet (below_drewN w5 nq), hrest⟩, ha.below (below_drewN w5 nq)⟩
      go_wp2
      go_roundw
      case rel => exact ⟨i + 1, by omega, by omega, by go_num, HL6.out⟩
      case measure => simp [intOf]; omega
    · have CP := Lib.hid (Smn.pall_any gp g gb vs vo vr vt t R n 0 wr HC.out.pr HC.out.tab HC.out.ref (sm HS.out (by omega)).out HS.out (by omega))
      have HB9 := Lib.hid HC.out.below
      clear HC
      have hex : (l.length : Int) ≤ (i : Int) ∨ ((i : Int) < (l.length : Int) ∧ (1000 : Int) ≤ (i : Int)) := by omega
      clear hgo
      obtain ⟨A1, c1, h1⟩ : ∃ A c, v = .slice A l.length c := by
        rcases HAr.out with ⟨h0, x, c, h1⟩ | ⟨b, o, c, h1, _⟩
        · exact ⟨x, c, by rw [h1, h0]; rfl⟩
        · exact ⟨_, _, h1⟩
      subst h1
      rcases hex with g1 | ⟨g1, g2⟩
      all_goals
        go_wp2_with fail
        refine CP.out.mono ?_
        rintro e w5 ⟨rfl, hb5⟩
        have HB10 := Lib.hid (HB9.out.trans (hb5.mono HB9.out.size))
        clear hb5
        go_wp2
        go_ret
        exact ⟨rfl, HB10.out⟩
theorem walk (size : Int) (v : Value) (l : List Ins) (w : World) (hsz : (Lit.int .i64 size).wf = true) (hf : OpsFit l) (ha : Arg opE w v l) :
    Calls Try.prog 5 #[.int .i64 size, v] w fun e w' => e = .returned (.bool true) ∧ Below w.heap.size w w' := by
  by_cases h : size < 1 ∨ 500 < size
  · exact walk_bad size v w h
  · obtain ⟨n, rfl⟩ : ∃ n : Nat, size = n := ⟨size.toNat, by omega⟩
    exact walk_ok n v l w (by omega) (by omega) hf ha
end Go.Proofs.Ytijlnlcjlkanaaa.Smu
