/- SlotsPlays: a step of both. -/
import Derived.Test.YtijlnlcjlkanaaaSmq
import Derived.Test.YtijlnlcjlkanaaaSmt
import Derived.Test.YtijlnlcjlkanaaaSmn
import Derived.Deep.DeepCutAuto
import Derived.StillTailTactics
import Derived.Deep.RegionHeld3
import Derived.Deep.DrawnRows
set_option linter.unusedVariables false
namespace Go.Proofs.Ytijlnlcjlkanaaa.Sms
open Go.RowKit Sta Stb Stc Stg Ste Stj Stk Stl Stn Sto Sue Suf Sug Suh Sui Suj Suk Slp Stp Smp Smq Smr Smt

abbrev opC (o : Ins) : Obj := .cells #[.int .i64 o.kind, .int .i64 o.x, .int .i64 o.which, .int .i64 o.early, .int .u32 o.slot, .int .u32 o.gen, .bool o.hand] 35
attribute [local go_sem ↓] Go.wp_at_zero Go.wp_at_succ
/-- What the region that asks for the handle reads. -/
def S1 (W1 : World) (r gp : Nat) (o : Ins) (vt : Value) (W : World) : Prop := Below W1.heap.size W1 W ∧ W.cell? ⟨gp, 2, none⟩ = some vt ∧ W.cell? ⟨r, 0, none⟩ = some (.int .i64 o.kind) ∧ W.cell? ⟨r, 1, none⟩ = some (.int .i64 o.x) ∧ W.cell? ⟨r, 2, none⟩ = some (.int .i64 o.which) ∧ W.cell? ⟨r, 3, none⟩ = some (.int .i64 o.early) ∧ W.cell? ⟨r, 4, none⟩ = some (.int .u32 o.slot) ∧ W.cell? ⟨r, 5, none⟩ = some (.int .u32 o.gen) ∧ W.cell? ⟨r, 6, none⟩ = some (.bool o.hand)
theorem s1_of {W1 W : World} {r gp g gb : Nat} {vs vo vr vt : Value} {o : Ins} (hr : Bx g gb vs vo vr r (opC o) W1) (hg : gp < W1.heap.size) (hp : W1.cell? ⟨gp, 2, none⟩ = some vt) (hb : Below W1.heap.size W1 W) : S1 W1 r gp o vt W := by
  have hk : W.heap[r]? = _ := (hb.block r hr.lt).trans hr.blk
  refine ⟨hb, (hb.cell (p := ⟨gp, 2, none⟩) hg).trans hp, ?_, ?_, ?_, ?_, ?_, ?_, ?_⟩
  all_goals (rw [cell_of_row _ r _ _ _ _ hk]; rfl)
theorem ss_of {w0 W : World} {gp g gb most r b5 : Nat} {vs vo vr vt : Value} {t : Tab} {R : List Th} {ts : List Hd} {y : Hd} {o : Ins} (c : Both w0 gp g gb vs vo vr vt t R most ts W) (hy : Bx g gb vs vo vr b5 (hdC y) W) (hr : Bx g gb vs vo vr r (opC o) W) :
    W.cell? ⟨gp, 0, none⟩ = some (.pointer (some ⟨g, 0, none⟩)) ∧ W.cell? ⟨gp, 1, none⟩ = some (.pointer (some ⟨gb, 0, none⟩)) ∧ W.cell? ⟨b5, 0, none⟩ = some (.int .u32 y.slot) ∧ W.cell? ⟨b5, 1, none⟩ = some (.int .u32 y.gen) ∧ W.cell? ⟨r, 1, none⟩ = some (.int .i64 o.x) ∧ W.cell? ⟨r, 3, none⟩ = some (.int .i64 o.early) := by
  obtain ⟨p0, p1, _, _⟩ := c.cells
  obtain ⟨y0, y1, _, _⟩ := Stc.hd_cells hy.blk
  refine ⟨p0, p1, y0, y1, ?_, ?_⟩
  all_goals (rw [cell_of_row _ r _ _ _ _ hr.blk]; rfl)
theorem sr_of {w0 W : World} {gp g gb most r : Nat} {vs vo vr vt : Value} {t : Tab} {R : List Th} {ts : List Hd} {o : Ins} (c : Both w0 gp g gb vs vo vr vt t R most ts W) (hr : Bx g gb vs vo vr r (opC o) W) :
    W.cell? ⟨gp, 0, none⟩ = some (.pointer (some ⟨g, 0, none⟩)) ∧ W.cell? ⟨gp, 1, none⟩ = some (.pointer (some ⟨gb, 0, none⟩)) ∧ W.cell? ⟨r, 1, none⟩ = some (.int .i64 o.x) := by
  obtain ⟨p0, p1, _, _⟩ := c.cells
  refine ⟨p0, p1, ?_⟩
  rw [cell_of_row _ r _ _ _ _ hr.blk]; rfl
theorem hof_slot {o : Ins} {ts : List Hd} {y : Hd} (hf : OpFits o) (hsl : ∀ h ∈ ts, h.slot ≤ 500) (hy : hof o ts = y) : y.slot < 4294967296 := by
  unfold hof at hy
  split at hy
  · subst hy; exact hf.slot
  · next hn =>
    have hlt : pk o.which ts.length < ts.length := pk_lt _ _ (by have : ts.length ≠ 0 := fun e => hn (.inr e); omega)
    have := hsl _ (getD_mem (d := ⟨0, 0⟩) hlt)
    rw [hy] at this
    omega
theorem code_at (b : Bool) (e C : Int) (hc : codeOf b e = C) (w : World) : Calls Try.prog 25 #[.bool b, .int .i64 e] w fun x w' => x = .returned (.int .i64 C) ∧ w = w' :=
  (code_any b e w).mono fun x w' h => ⟨by rw [h.1, ← hc]; rfl, h.2⟩
theorem bx_at {w0 W1 w3 : World} {gp g gb most b : Nat} {vs vo vr vt : Value} {t : Tab} {R : List Th} {ts : List Hd} {ob : Obj} (c : Both w0 gp g gb vs vo vr vt t R most ts W1) (hb : W1.heap.size ≤ b) (h : w3.heap[b]? = some ob) : Bx g gb vs vo vr b ob w3 :=
  ⟨h, by have := c.tab.lt; omega, by have := c.ref.lt; omega, fun e => by have := (c.tab.sl.lt e).2; omega, fun e => by have := (c.tab.ord.lt e).2; omega, fun e => by have := (c.ref.all.lt e).2; omega⟩
/-- What a step keeps. -/
def Good (w0 : World) (gp g gb most : Nat) (k : Nat) (w : World) : Prop :=
  ∃ vs vo vr vt t R ts, Both w0 gp g gb vs vo vr vt t R most ts w ∧ Sim t R ∧ R.length ≤ k ∧ ts.length ≤ k ∧ t.most = most ∧ ∀ h ∈ ts, h.slot ≤ 500
set_option maxHeartbeats 4000000 in
set_option maxRecDepth 100000 in
theorem step_any {w0 w : World} {gp g gb : Nat} {vs vo vr vt : Value} {t : Tab} {R : List Th} {most k : Nat} {ts : List Hd} (c : Both w0 gp g gb vs vo vr vt t R most ts w) (v : Sim t R) (hn : R.length ≤ k) (hk : k ≤ 999) (hts : ts.length ≤ k) (hm : t.most = most) (hsl : ∀ h ∈ ts, h.slot ≤ 500) (o : Ins) (hf : OpFits o) :
    Calls Try.prog 26 #[.pointer (some ⟨gp, 0, none⟩), opV o] w fun e w' => e = .returned (.bool true) ∧ Good w0 gp g gb most (k + 1) w' := by
  obtain ⟨y, hy⟩ : ∃ y, hof o ts = y := ⟨_, rfl⟩
  have HB0 := Lib.hid (Bx.new c (opC o))
  have HC0 := Lib.hid (c.quiet (Sug.below_new w (opC o)))
  obtain ⟨p0, p1, p2, p3⟩ := HC0.out.cells
  obtain ⟨A1, k1, hv1⟩ := HC0.out.told.shape
  subst hv1
  have hy2 : y.slot < 4294967296 := hof_slot hf hsl hy
  have CH := Lib.hid (handle_any o w0.heap.size (.slice A1 ts.length k1) ts (w.alloc (opC o)) hf HC0.out.told (by omega) y hy)
  obtain ⟨W1, hW1⟩ : ∃ W1, W1 = w.alloc (opC o) := ⟨_, rfl⟩
  rw [← hW1] at HB0 HC0 p0 p1 p2 p3 CH
  go_enter Try.func26, Try.ntmps26
  go_upto_region 1 with fail
  rename_i Q' K hK
  rw [← hW1]
  obtain ⟨r, hr⟩ : ∃ r, r = w.heap.size := ⟨_, rfl⟩
  rw [← hr] at HB0
  rw [← hr]
  clear hW1 hr c
  have HS := Lib.hid (fun W (hb : Below W1.heap.size W1 W) => s1_of (gp := gp) (o := o) (vt := .slice A1 ts.length k1) HB0.out (Array.getElem?_eq_some_iff.1 HC0.out.pr).1 p2 hb)
  have HCW := Lib.hid (fun W (hb : Below W1.heap.size W1 W) => handle_any o w0.heap.size (.slice A1 ts.length k1) ts W hf (HC0.out.quiet hb).told (by omega) y hy)
  have hbd : Below W1.heap.size W1 W1.drew := (Below.refl _ _).drew
  have hba : Below W1.heap.size W1 (W1.alloc (.cells #[.int .u32 0, .int .u32 0] 33)).drew := ((Below.refl _ _).alloc (Nat.le_refl _) _).drew
  have cd := HCW.out _ hbd
  have ca := HCW.out _ hba
  have hSd := HS.out _ hbd
  have hSa := HS.out _ hba
  have HSB := Lib.hid (fun w2 (h : Below W1.drew.heap.size W1.drew w2) => let k := hbd.trans (h.mono hbd.size); And.intro (HS.out _ k) (And.intro (HS.out _ (k.alloc k.size (.cells #[.int .u32 0, .int .u32 0] 33))) (HS.out _ (k.alloc k.size (.cells #[.int .u32 y.slot, .int .u32 y.gen] 33)))))
  have HSA := Lib.hid (fun w2 (h : Below ((W1.alloc (.cells #[.int .u32 0, .int .u32 0] 33)).drew).heap.size ((W1.alloc (.cells #[.int .u32 0, .int .u32 0] 33)).drew) w2) => let k := hba.trans (h.mono hba.size); And.intro (HS.out _ k) (HS.out _ (((k.setCell (p := ⟨W1.heap.size, 0, none⟩) (Nat.le_refl _) (.int .u32 y.slot)).setCell (p := ⟨W1.heap.size, 1, none⟩) (Nat.le_refl _) (.int .u32 y.gen)))))
  have HAC := Lib.hid (fun w2 (h : Below ((W1.alloc (.cells #[.int .u32 0, .int .u32 0] 33)).drew).heap.size ((W1.alloc (.cells #[.int .u32 0, .int .u32 0] 33)).drew) w2) => Stc.hd_cells ((h.block W1.heap.size (by simp)).trans (heap_alloc_new W1 (.cells #[.int .u32 0, .int .u32 0] 33))))
  unfold S1 at hSd hSa HSB HSA
  have cont : ∀ (b5 : Nat) (w3 : World), Hid (Both w0 gp g gb vs vo vr (.slice A1 ts.length k1) t R most ts w3) → Hid (Bx g gb vs vo vr b5 (hdC y) w3) → Hid (Bx g gb vs vo vr r (opC o) w3) → Exit.then K Q' .normal { tmps := #[.pointer (some ⟨gp, 0, none⟩), opV o, undef, .pointer (some ⟨r, 0, none⟩), .bool false, .pointer (some ⟨b5, 0, none⟩), undef, undef, undef, undef, undef, undef, undef, undef, undef, undef, undef, undef, undef, undef, undef, undef, undef, undef, .agg #[.int .i64 o.kind, .int .i64 o.x, .int .i64 o.which, .int .i64 o.early, .int .u32 o.slot, .int .u32 o.gen, .bool o.hand], .pointer (some ⟨gp, 0, none⟩), .pointer (some ⟨gp, 0, none⟩), .pointer (some ⟨gp, 2, none⟩), .slice A1 ts.length k1, .agg #[.int .u32 y.slot, .int .u32 y.gen], undef, undef, undef, undef, undef, undef, undef, undef, undef, undef, undef, undef, undef, undef, undef, undef, undef, undef, undef, undef, undef, undef, undef, undef, undef, undef, undef, undef, undef, undef, undef, undef, undef, undef, undef, undef, undef, undef, undef, undef, undef, undef, undef, undef, undef, undef, undef, undef, undef, undef, undef, undef, undef, undef, undef, undef, undef, undef, undef, undef, undef, undef, undef, undef, undef, undef, undef, undef, undef, undef, undef, undef, undef, undef, undef, undef, undef, undef, undef, undef, undef, undef, undef, undef, undef, undef, undef, undef, undef, undef, undef, undef, undef, undef, undef, undef, undef, undef, undef, undef, undef, undef, undef, undef, undef, undef, undef, undef, undef, undef, undef, undef, undef, undef, undef, undef, undef, undef, undef, undef, undef, undef, undef, undef, undef, undef, undef, undef, undef, undef, undef, undef, undef, undef, undef, undef, undef, undef, undef, undef, undef, undef, undef, undef, undef, undef, undef, undef, undef, undef, undef, undef, undef, undef, undef, undef, undef, undef, undef, undef, undef, undef, undef, undef, undef, undef, undef], defers := [] } w3 := by
    intro b5 w3 HC3 HY3 HR3
    refine hK _ _ ?_
    have a0 : Go.World.cell? w3 ⟨r, 0, none⟩ = some (.int .i64 o.kind) := by rw [cell_of_row _ r _ _ _ _ HR3.out.blk]; rfl
    clear HS HCW hbd hba cd ca hSd hSa HSA HSB HAC HC0 HB0
    by_cases ho : o.kind = 1
    · have e1 : (o.kind == 1) = true := by rw [beq_iff_eq]; exact ho
      clear ho
      obtain ⟨b, h, t', R', CL, CR, v', hl', h5, hm'⟩ := plays_take (w0 := w0) (gp := gp) (g := g) (gb := gb) (most := most) (ts := ts) v (by omega) hm o.x
      obtain ⟨C, hc⟩ : ∃ C, codeOf b 101 = C := ⟨_, rfl⟩
      rw [hc] at CL
      have hbd : Below w3.heap.size w3 w3.drew := (Below.refl _ _).drew
      have hba : Below w3.heap.size w3 (w3.alloc (.cells #[.int .u32 0, .int .u32 0] 33)).drew := (Sug.below_new w3 _).drew
      have HRd := Lib.hid (HR3.out.below hbd)
      have HRa := Lib.hid (HR3.out.below hba)
      have hsd := sr_of (HC3.out.quiet hbd) HRd.out
      have hsa := sr_of (HC3.out.quiet hba) HRa.out
      have cl := CL _ _ _ _ _ (HC3.out.quiet hbd)
      have ca := CL _ _ _ _ _ (HC3.out.quiet hba)
      clear CL hbd hba
      go_wp2_with fail
      clear a0
      go_region_held3 (fun W => W.cell? ⟨gp, 0, none⟩ = some (.pointer (some ⟨g, 0, none⟩)) ∧ W.cell? ⟨gp, 1, none⟩ = some (.pointer (some ⟨gb, 0, none⟩)) ∧ W.cell? ⟨r, 1, none⟩ = some (.int .i64 o.x))
        (assumption)
        (first | (go_at_call 10; (with_reducible refine Calls.mono cl ?_); rintro e w4 ⟨rfl, vs4, vo4, hC, hK⟩; have hR := hK _ _ HRd.out; have HP := Lib.hid (put_last (h := h) hC hK); have hs3 := sr_of (hC.quiet (Sug.below_new w4 (.cells #[.int .u32 0, .int .u32 0] 33))) (hR.below (Sug.below_new w4 (.cells #[.int .u32 0, .int .u32 0] 33))); have hs1 := sr_of hC hR; have hs2 := sr_of HP.out.both (HP.out.keep _ _ HR3.out)) | (go_at_call 10; (with_reducible refine Calls.mono ca ?_); rintro e w4 ⟨rfl, vs4, vo4, hC, hK⟩; have hR := hK _ _ HRa.out; have HP := Lib.hid (put_first (h := h) HC3.out hC hK); obtain ⟨d0, d1, d2, d3⟩ := Stc.hd_cells (hK _ _ ((Bx.new HC3.out (.cells #[.int .u32 0, .int .u32 0] 33)).below (Below.refl _ _).drew)).blk; have hs1 := sr_of hC hR; have hs2 := sr_of HP.out.both (HP.out.keep _ _ HR3.out)))
      clear cl ca hsd hsa HRd HRa
      all_goals
        clear hs1 hs2 hC hK
        try clear hs3
        try clear d0 d1 d2 d3
        clear hR
        first
          | (obtain ⟨w5, hw⟩ : ∃ x, x = w4.alloc (.cells #[.int .u32 h.slot, .int .u32 h.gen] 33) := ⟨_, rfl⟩
             obtain ⟨b6, hb⟩ : ∃ x, x = w4.heap.size := ⟨_, rfl⟩
             rw [← hw, ← hb] at HP; rw [← hw, ← hb]; clear hw hb)
          | (obtain ⟨w5, hw⟩ : ∃ x, x = (w4.setCell ⟨w3.heap.size, 0, none⟩ (.int .u32 h.slot)).setCell ⟨w3.heap.size, 1, none⟩ (.int .u32 h.gen) := ⟨_, rfl⟩
             obtain ⟨b6, hb⟩ : ∃ x, x = w3.heap.size := ⟨_, rfl⟩
             rw [← hw, ← hb] at HP; rw [← hw, ← hb]; clear hw hb)
        clear HC3
        have HC5 := Lib.hid HP.out.both
        have HX5 := Lib.hid HP.out.box
        have HR5 := Lib.hid (HP.out.keep _ _ HR3.out)
        have HN6 := Lib.hid (And.intro HP.out.nt HP.out.np)
        clear HP HR3 HY3
        have hbd : Below w5.heap.size w5 w5.drew := (Below.refl _ _).drew
        have hba : Below w5.heap.size w5 (w5.alloc (.cells #[.int .u32 0, .int .u32 0] 33)).drew := (Sug.below_new w5 _).drew
        have HRd := Lib.hid (HR5.out.below hbd)
        have HRa := Lib.hid (HR5.out.below hba)
        have hsd := sr_of (HC5.out.quiet hbd) HRd.out
        have hsa := sr_of (HC5.out.quiet hba) HRa.out
        have cl := CR _ _ _ _ _ (HC5.out.quiet hbd)
        have ca := CR _ _ _ _ _ (HC5.out.quiet hba)
        clear CR hbd hba
        go_wp2_with fail
        go_region_held3 (fun W => W.cell? ⟨gp, 0, none⟩ = some (.pointer (some ⟨g, 0, none⟩)) ∧ W.cell? ⟨gp, 1, none⟩ = some (.pointer (some ⟨gb, 0, none⟩)) ∧ W.cell? ⟨r, 1, none⟩ = some (.int .i64 o.x))
          (assumption)
          (first | (go_at_call 40; (with_reducible refine Calls.mono cl ?_); rintro e w6 ⟨rfl, vr6, hC, hK⟩; have hR := hK _ _ HRd.out; have HP := Lib.hid (put_last (h := h) hC hK); have hs3 := sr_of (hC.quiet (Sug.below_new w6 (.cells #[.int .u32 0, .int .u32 0] 33))) (hR.below (Sug.below_new w6 (.cells #[.int .u32 0, .int .u32 0] 33))); have hs1 := sr_of hC hR; have hs2 := sr_of HP.out.both (HP.out.keep _ _ HR5.out)) | (go_at_call 40; (with_reducible refine Calls.mono ca ?_); rintro e w6 ⟨rfl, vr6, hC, hK⟩; have hR := hK _ _ HRa.out; have HP := Lib.hid (put_first (h := h) HC5.out hC hK); obtain ⟨d0, d1, d2, d3⟩ := Stc.hd_cells (hK _ _ ((Bx.new HC5.out (.cells #[.int .u32 0, .int .u32 0] 33)).below (Below.refl _ _).drew)).blk; have hs1 := sr_of hC hR; have hs2 := sr_of HP.out.both (HP.out.keep _ _ HR5.out)))
        clear cl ca hsd hsa HRd HRa
        all_goals
          clear hs1 hs2 hC hK
          try clear hs3
          try clear d0 d1 d2 d3
          clear hR
          first
            | (obtain ⟨w7, hw⟩ : ∃ x, x = w6.alloc (.cells #[.int .u32 h.slot, .int .u32 h.gen] 33) := ⟨_, rfl⟩
               obtain ⟨b8, hb⟩ : ∃ x, x = w6.heap.size := ⟨_, rfl⟩
               rw [← hw, ← hb] at HP; rw [← hw, ← hb]; clear hw hb)
            | (obtain ⟨w7, hw⟩ : ∃ x, x = (w6.setCell ⟨w5.heap.size, 0, none⟩ (.int .u32 h.slot)).setCell ⟨w5.heap.size, 1, none⟩ (.int .u32 h.gen) := ⟨_, rfl⟩
               obtain ⟨b8, hb⟩ : ∃ x, x = w5.heap.size := ⟨_, rfl⟩
               rw [← hw, ← hb] at HP; rw [← hw, ← hb]; clear hw hb)
          clear HC5
          have HC7 := Lib.hid HP.out.both
          have HY7 := Lib.hid HP.out.box
          have HX7 := Lib.hid (HP.out.keep _ _ HX5.out)
          have HN8 := Lib.hid (And.intro HP.out.nt HP.out.np)
          clear HP HR5 HX5
          cases b with
          | false =>
            obtain ⟨x0, x1, _, _⟩ := Stc.hd_cells HX7.out.blk
            obtain ⟨y0, y1, _, _⟩ := Stc.hd_cells HY7.out.blk
            have cc := code_at false 101 C hc w7
            go_wp2_with fail
            refine cc.mono ?_
            rintro e wz ⟨rfl, rfl⟩
            go_wp2
            go_ret
            exact ⟨rfl, _, _, _, _, _, _, ts, HC7.out, v', by omega, by omega, hm'.trans hm, hsl⟩
          | true =>
            obtain ⟨p0, p1, p2, p3⟩ := HC7.out.cells
            obtain ⟨y0, y1, _, _⟩ := Stc.hd_cells HY7.out.blk
            have hz1 : gp < w7.heap.size := (Array.getElem?_eq_some_iff.1 HC7.out.pr).1
            have hz2 : b8 < w7.heap.size := HY7.out.lt
            have hgh : gp ≠ w7.heap.size := by omega
            have hhg : w7.heap.size ≠ gp := by omega
            have hqh : b8 ≠ w7.heap.size := by omega
            have hhq : w7.heap.size ≠ b8 := by omega
            have hgz : w0.heap.size ≤ w7.heap.size := HC7.out.below.size
            have ngv : Hid ((Value.slice A1 ts.length k1).ownBlock ≠ some gp) := row_ne HC7.out.told HC7.out.pr (by decide)
            clear p0 p1
            go_wp2_with fail
            go_region_law ((refine Rwo.step_append (E := hdE) (by rfl) _ _ _ (by rfl) 33 _ 8 Try.underlying29 infoHd (by rfl) w0.heap.size _ ts w7 HC7.out.told (by rfl) h _ (by rfl) _ w7.heap.size (by rfl) (by rfl) (by omega) ⟨hgz, by rfl⟩ ?_; intro g3 cp3 w9 hO hb hfar hsz hat; have hF := told_put HC7.out (by exact ⟨rfl, rfl, rfl⟩) (Nat.le_refl _) hO hb hfar hsz hat; have hpp := (hfar gp hz1 ngv.out).trans HC7.out.pr; have hf2 : w9.frozen? ⟨gp, 2, none⟩ = false := frozen_of_row w9 gp _ _ _ hpp; have hc2 : w9.cell? ⟨gp, 2, none⟩ = some (.slice A1 ts.length k1) := (by rw [cell_of_row w9 gp _ _ _ _ hpp]; rfl); have HF := Lib.hid hF; clear hF hO hb hfar hsz hat hpp))
            all_goals
              have HC9 := Lib.hid HF.out.1
              have kx := HF.out.2 _ _ HX7.out.blk HN6.out.2 HN6.out.1
              have ky := HF.out.2 _ _ HY7.out.blk HN8.out.2 HN8.out.1
              obtain ⟨x0, x1, _, _⟩ := Stc.hd_cells kx
              obtain ⟨z0, z1, _, _⟩ := Stc.hd_cells ky
              obtain ⟨w8, hw8⟩ : ∃ x, x = w9.setCell ⟨gp, 2, none⟩ (.slice (some ⟨g3, 0, none⟩) (ts.length + 1) cp3) := ⟨_, rfl⟩
              rw [← hw8] at HC9 x0 x1 z0 z1
              rw [← hw8]
              clear hw8 HF kx ky y0 y1 p2 p3 hf2 hc2
              have cc := code_at true 101 C hc w8
              go_wp2_with fail
              refine cc.mono ?_
              rintro e wz ⟨rfl, rfl⟩
              go_wp2
              go_ret
              exact ⟨rfl, _, _, _, _, _, _, ts ++ [h], HC9.out, v', by omega, by rw [List.length_append]; show ts.length + 1 ≤ _; omega, hm'.trans hm, fun x hx => by
                rcases List.mem_append.1 hx with h1 | h1
                · exact hsl x h1
                · rw [List.mem_singleton.1 h1]; exact h5⟩
    have n1 := ho
    clear ho
    by_cases ho : o.kind = 2
    · have e1 : (o.kind == 1) = false := by rw [beq_eq_false_iff_ne]; omega
      have e2 : (o.kind == 2) = true := by rw [beq_iff_eq]; exact ho
      clear ho
      obtain ⟨b, t', R', CL, CR, v', hl', hm'⟩ := plays_free (w0 := w0) (gp := gp) (g := g) (gb := gb) (most := most) (ts := ts) v (by omega) hy2
      obtain ⟨C, hc⟩ : ∃ C, codeOf b 102 = C := ⟨_, rfl⟩
      rw [hc] at CL
      have HCd := Lib.hid (HC3.out.quiet (Below.refl _ w3).drew)
      have HYd := Lib.hid (HY3.out.below (Below.refl _ w3).drew)
      have HRd := Lib.hid (HR3.out.below (Below.refl _ w3).drew)
      have hsd := ss_of HCd.out HYd.out HRd.out
      have cl := CL _ _ _ _ _ HCd.out
      clear CL
      go_wp2_with fail
      clear a0
      go_region_held3 (fun W => W.cell? ⟨gp, 0, none⟩ = some (.pointer (some ⟨g, 0, none⟩)) ∧ W.cell? ⟨gp, 1, none⟩ = some (.pointer (some ⟨gb, 0, none⟩)) ∧ W.cell? ⟨b5, 0, none⟩ = some (.int .u32 y.slot) ∧ W.cell? ⟨b5, 1, none⟩ = some (.int .u32 y.gen) ∧ W.cell? ⟨r, 1, none⟩ = some (.int .i64 o.x) ∧ W.cell? ⟨r, 3, none⟩ = some (.int .i64 o.early))
        (assumption)
        (first | (go_at_call 13; (with_reducible refine Calls.mono cl ?_); rintro e w4 ⟨rfl, vs4, vo4, hC, hK⟩; have HC4 := Lib.hid hC; have HY4 := Lib.hid (hK _ _ HYd.out); have HR4 := Lib.hid (hK _ _ HRd.out); clear hC hK; have hs4 := ss_of HC4.out HY4.out HR4.out))
      clear cl hsd hs4
      clear HCd HYd HRd
      have HCd := Lib.hid (HC4.out.quiet (Below.refl _ w4).drew)
      have HYd := Lib.hid (HY4.out.below (Below.refl _ w4).drew)
      have HRd := Lib.hid (HR4.out.below (Below.refl _ w4).drew)
      have hsd := ss_of HCd.out HYd.out HRd.out
      have cr := CR _ _ _ _ _ HCd.out
      clear CR
      go_wp2_with fail
      go_region_held3 (fun W => W.cell? ⟨gp, 0, none⟩ = some (.pointer (some ⟨g, 0, none⟩)) ∧ W.cell? ⟨gp, 1, none⟩ = some (.pointer (some ⟨gb, 0, none⟩)) ∧ W.cell? ⟨b5, 0, none⟩ = some (.int .u32 y.slot) ∧ W.cell? ⟨b5, 1, none⟩ = some (.int .u32 y.gen) ∧ W.cell? ⟨r, 1, none⟩ = some (.int .i64 o.x) ∧ W.cell? ⟨r, 3, none⟩ = some (.int .i64 o.early))
        (assumption)
        (first | (go_at_call 41; (with_reducible refine Calls.mono cr ?_); rintro e w5 ⟨rfl, vr5, hC, hK⟩; have HC5 := Lib.hid hC; have HY5 := Lib.hid (hK _ _ HYd.out); have HR5 := Lib.hid (hK _ _ HRd.out); clear hC hK; have hs5 := ss_of HC5.out HY5.out HR5.out))
      clear cr hsd hs5
      have cc := code_at b 102 C hc w5
      go_wp2_with fail
      refine cc.mono ?_
      rintro e w6 ⟨rfl, rfl⟩
      go_wp2
      go_ret
      exact ⟨rfl, _, _, _, _, _, _, ts, HC5.out, v', by omega, by omega, hm'.trans hm, hsl⟩
    have n2 := ho
    clear ho
    by_cases ho : o.kind = 3
    · have e1 : (o.kind == 1) = false := by rw [beq_eq_false_iff_ne]; omega
      have e2 : (o.kind == 2) = false := by rw [beq_eq_false_iff_ne]; omega
      have e3 : (o.kind == 3) = true := by rw [beq_iff_eq]; exact ho
      clear ho
      obtain ⟨b, X, CL, CR, _⟩ := plays_get (w0 := w0) (gp := gp) (g := g) (gb := gb) (most := most) (ts := ts) v (by omega) hy2
      obtain ⟨C, hc⟩ : ∃ C, codeOf b 102 = C := ⟨_, rfl⟩
      rw [hc] at CL
      have HCd := Lib.hid (HC3.out.quiet (Below.refl _ w3).drew)
      have HYd := Lib.hid (HY3.out.below (Below.refl _ w3).drew)
      have HRd := Lib.hid (HR3.out.below (Below.refl _ w3).drew)
      have hsd := ss_of HCd.out HYd.out HRd.out
      have cl := CL _ _ _ _ _ HCd.out
      clear CL
      go_wp2_with fail
      clear a0
      go_region_held3 (fun W => W.cell? ⟨gp, 0, none⟩ = some (.pointer (some ⟨g, 0, none⟩)) ∧ W.cell? ⟨gp, 1, none⟩ = some (.pointer (some ⟨gb, 0, none⟩)) ∧ W.cell? ⟨b5, 0, none⟩ = some (.int .u32 y.slot) ∧ W.cell? ⟨b5, 1, none⟩ = some (.int .u32 y.gen) ∧ W.cell? ⟨r, 1, none⟩ = some (.int .i64 o.x) ∧ W.cell? ⟨r, 3, none⟩ = some (.int .i64 o.early))
        (assumption)
        (first | (go_at_call 11; (with_reducible refine Calls.mono cl ?_); rintro e w4 ⟨rfl, vs4, vo4, hC, hK⟩; have HC4 := Lib.hid hC; have HY4 := Lib.hid (hK _ _ HYd.out); have HR4 := Lib.hid (hK _ _ HRd.out); clear hC hK; have hs4 := ss_of HC4.out HY4.out HR4.out))
      clear cl hsd hs4
      clear HCd HYd HRd
      have HCd := Lib.hid (HC4.out.quiet (Below.refl _ w4).drew)
      have HYd := Lib.hid (HY4.out.below (Below.refl _ w4).drew)
      have HRd := Lib.hid (HR4.out.below (Below.refl _ w4).drew)
      have hsd := ss_of HCd.out HYd.out HRd.out
      have cr := CR _ _ _ _ _ HCd.out
      clear CR
      go_wp2_with fail
      go_region_held3 (fun W => W.cell? ⟨gp, 0, none⟩ = some (.pointer (some ⟨g, 0, none⟩)) ∧ W.cell? ⟨gp, 1, none⟩ = some (.pointer (some ⟨gb, 0, none⟩)) ∧ W.cell? ⟨b5, 0, none⟩ = some (.int .u32 y.slot) ∧ W.cell? ⟨b5, 1, none⟩ = some (.int .u32 y.gen) ∧ W.cell? ⟨r, 1, none⟩ = some (.int .i64 o.x) ∧ W.cell? ⟨r, 3, none⟩ = some (.int .i64 o.early))
        (assumption)
        (first | (go_at_call 42; (with_reducible refine Calls.mono cr ?_); rintro e w5 ⟨rfl, vr5, hC, hK⟩; have HC5 := Lib.hid hC; have HY5 := Lib.hid (hK _ _ HYd.out); have HR5 := Lib.hid (hK _ _ HRd.out); clear hC hK; have hs5 := ss_of HC5.out HY5.out HR5.out))
      clear cr hsd hs5
      have cc := code_at b 102 C hc w5
      go_wp2_with fail
      refine cc.mono ?_
      rintro e w6 ⟨rfl, rfl⟩
      go_wp2
      go_ret
      exact ⟨rfl, _, _, _, _, _, _, ts, HC5.out, v, by omega, by omega, hm, hsl⟩
    have n3 := ho
    clear ho
    by_cases ho : o.kind = 4
    · have e1 : (o.kind == 1) = false := by rw [beq_eq_false_iff_ne]; omega
      have e2 : (o.kind == 2) = false := by rw [beq_eq_false_iff_ne]; omega
      have e3 : (o.kind == 3) = false := by rw [beq_eq_false_iff_ne]; omega
      have e4 : (o.kind == 4) = true := by rw [beq_iff_eq]; exact ho
      clear ho
      obtain ⟨b, t', R', CL, CR, v', hl', hm'⟩ := plays_set (w0 := w0) (gp := gp) (g := g) (gb := gb) (most := most) (ts := ts) v (by omega) hy2 o.x
      obtain ⟨C, hc⟩ : ∃ C, codeOf b 102 = C := ⟨_, rfl⟩
      rw [hc] at CL
      have HCd := Lib.hid (HC3.out.quiet (Below.refl _ w3).drew)
      have HYd := Lib.hid (HY3.out.below (Below.refl _ w3).drew)
      have HRd := Lib.hid (HR3.out.below (Below.refl _ w3).drew)
      have hsd := ss_of HCd.out HYd.out HRd.out
      have cl := CL _ _ _ _ _ HCd.out
      clear CL
      go_wp2_with fail
      clear a0
      go_region_held3 (fun W => W.cell? ⟨gp, 0, none⟩ = some (.pointer (some ⟨g, 0, none⟩)) ∧ W.cell? ⟨gp, 1, none⟩ = some (.pointer (some ⟨gb, 0, none⟩)) ∧ W.cell? ⟨b5, 0, none⟩ = some (.int .u32 y.slot) ∧ W.cell? ⟨b5, 1, none⟩ = some (.int .u32 y.gen) ∧ W.cell? ⟨r, 1, none⟩ = some (.int .i64 o.x) ∧ W.cell? ⟨r, 3, none⟩ = some (.int .i64 o.early))
        (assumption)
        (first | (go_at_call 14; (with_reducible refine Calls.mono cl ?_); rintro e w4 ⟨rfl, vs4, vo4, hC, hK⟩; have HC4 := Lib.hid hC; have HY4 := Lib.hid (hK _ _ HYd.out); have HR4 := Lib.hid (hK _ _ HRd.out); clear hC hK; have hs4 := ss_of HC4.out HY4.out HR4.out))
      clear cl hsd hs4
      clear HCd HYd HRd
      have HCd := Lib.hid (HC4.out.quiet (Below.refl _ w4).drew)
      have HYd := Lib.hid (HY4.out.below (Below.refl _ w4).drew)
      have HRd := Lib.hid (HR4.out.below (Below.refl _ w4).drew)
      have hsd := ss_of HCd.out HYd.out HRd.out
      have cr := CR _ _ _ _ _ HCd.out
      clear CR
      go_wp2_with fail
      go_region_held3 (fun W => W.cell? ⟨gp, 0, none⟩ = some (.pointer (some ⟨g, 0, none⟩)) ∧ W.cell? ⟨gp, 1, none⟩ = some (.pointer (some ⟨gb, 0, none⟩)) ∧ W.cell? ⟨b5, 0, none⟩ = some (.int .u32 y.slot) ∧ W.cell? ⟨b5, 1, none⟩ = some (.int .u32 y.gen) ∧ W.cell? ⟨r, 1, none⟩ = some (.int .i64 o.x) ∧ W.cell? ⟨r, 3, none⟩ = some (.int .i64 o.early))
        (assumption)
        (first | (go_at_call 43; (with_reducible refine Calls.mono cr ?_); rintro e w5 ⟨rfl, vr5, hC, hK⟩; have HC5 := Lib.hid hC; have HY5 := Lib.hid (hK _ _ HYd.out); have HR5 := Lib.hid (hK _ _ HRd.out); clear hC hK; have hs5 := ss_of HC5.out HY5.out HR5.out))
      clear cr hsd hs5
      have cc := code_at b 102 C hc w5
      go_wp2_with fail
      refine cc.mono ?_
      rintro e w6 ⟨rfl, rfl⟩
      go_wp2
      go_ret
      exact ⟨rfl, _, _, _, _, _, _, ts, HC5.out, v', by omega, by omega, hm'.trans hm, hsl⟩
    have n4 := ho
    clear ho
    by_cases ho : o.kind = 5
    · have e1 : (o.kind == 1) = false := by rw [beq_eq_false_iff_ne]; omega
      have e2 : (o.kind == 2) = false := by rw [beq_eq_false_iff_ne]; omega
      have e3 : (o.kind == 3) = false := by rw [beq_eq_false_iff_ne]; omega
      have e4 : (o.kind == 4) = false := by rw [beq_eq_false_iff_ne]; omega
      have e5 : (o.kind == 5) = true := by rw [beq_iff_eq]; exact ho
      clear ho
      obtain ⟨b, X, CL, CR⟩ := plays_serial (w0 := w0) (gp := gp) (g := g) (gb := gb) (most := most) (ts := ts) v (by omega) hy2
      obtain ⟨C, hc⟩ : ∃ C, codeOf b 102 = C := ⟨_, rfl⟩
      rw [hc] at CL
      have HCd := Lib.hid (HC3.out.quiet (Below.refl _ w3).drew)
      have HYd := Lib.hid (HY3.out.below (Below.refl _ w3).drew)
      have HRd := Lib.hid (HR3.out.below (Below.refl _ w3).drew)
      have hsd := ss_of HCd.out HYd.out HRd.out
      have cl := CL _ _ _ _ _ HCd.out
      clear CL
      go_wp2_with fail
      clear a0
      go_region_held3 (fun W => W.cell? ⟨gp, 0, none⟩ = some (.pointer (some ⟨g, 0, none⟩)) ∧ W.cell? ⟨gp, 1, none⟩ = some (.pointer (some ⟨gb, 0, none⟩)) ∧ W.cell? ⟨b5, 0, none⟩ = some (.int .u32 y.slot) ∧ W.cell? ⟨b5, 1, none⟩ = some (.int .u32 y.gen) ∧ W.cell? ⟨r, 1, none⟩ = some (.int .i64 o.x) ∧ W.cell? ⟨r, 3, none⟩ = some (.int .i64 o.early))
        (assumption)
        (first | (go_at_call 29; (with_reducible refine Calls.mono cl ?_); rintro e w4 ⟨rfl, vs4, vo4, hC, hK⟩; have HC4 := Lib.hid hC; have HY4 := Lib.hid (hK _ _ HYd.out); have HR4 := Lib.hid (hK _ _ HRd.out); clear hC hK; have hs4 := ss_of HC4.out HY4.out HR4.out))
      clear cl hsd hs4
      clear HCd HYd HRd
      have HCd := Lib.hid (HC4.out.quiet (Below.refl _ w4).drew)
      have HYd := Lib.hid (HY4.out.below (Below.refl _ w4).drew)
      have HRd := Lib.hid (HR4.out.below (Below.refl _ w4).drew)
      have hsd := ss_of HCd.out HYd.out HRd.out
      have cr := CR _ _ _ _ _ HCd.out
      clear CR
      go_wp2_with fail
      go_region_held3 (fun W => W.cell? ⟨gp, 0, none⟩ = some (.pointer (some ⟨g, 0, none⟩)) ∧ W.cell? ⟨gp, 1, none⟩ = some (.pointer (some ⟨gb, 0, none⟩)) ∧ W.cell? ⟨b5, 0, none⟩ = some (.int .u32 y.slot) ∧ W.cell? ⟨b5, 1, none⟩ = some (.int .u32 y.gen) ∧ W.cell? ⟨r, 1, none⟩ = some (.int .i64 o.x) ∧ W.cell? ⟨r, 3, none⟩ = some (.int .i64 o.early))
        (assumption)
        (first | (go_at_call 44; (with_reducible refine Calls.mono cr ?_); rintro e w5 ⟨rfl, vr5, hC, hK⟩; have HC5 := Lib.hid hC; have HY5 := Lib.hid (hK _ _ HYd.out); have HR5 := Lib.hid (hK _ _ HRd.out); clear hC hK; have hs5 := ss_of HC5.out HY5.out HR5.out))
      clear cr hsd hs5
      have cc := code_at b 102 C hc w5
      go_wp2_with fail
      refine cc.mono ?_
      rintro e w6 ⟨rfl, rfl⟩
      go_wp2
      go_ret
      exact ⟨rfl, _, _, _, _, _, _, ts, HC5.out, v, by omega, by omega, hm, hsl⟩
    have n5 := ho
    clear ho
    by_cases ho : o.kind = 6
    · have e1 : (o.kind == 1) = false := by rw [beq_eq_false_iff_ne]; omega
      have e2 : (o.kind == 2) = false := by rw [beq_eq_false_iff_ne]; omega
      have e3 : (o.kind == 3) = false := by rw [beq_eq_false_iff_ne]; omega
      have e4 : (o.kind == 4) = false := by rw [beq_eq_false_iff_ne]; omega
      have e5 : (o.kind == 5) = false := by rw [beq_eq_false_iff_ne]; omega
      have e6 : (o.kind == 6) = true := by rw [beq_iff_eq]; exact ho
      clear ho
      obtain ⟨b, X, _, CR, CL⟩ := plays_get (w0 := w0) (gp := gp) (g := g) (gb := gb) (most := most) (ts := ts) v (by omega) hy2
      have HCd := Lib.hid (HC3.out.quiet (Below.refl _ w3).drew)
      have HYd := Lib.hid (HY3.out.below (Below.refl _ w3).drew)
      have HRd := Lib.hid (HR3.out.below (Below.refl _ w3).drew)
      have hsd := ss_of HCd.out HYd.out HRd.out
      have cr := CR _ _ _ _ _ HCd.out
      clear CR
      go_wp2_with fail
      clear a0
      go_region_held3 (fun W => W.cell? ⟨gp, 0, none⟩ = some (.pointer (some ⟨g, 0, none⟩)) ∧ W.cell? ⟨gp, 1, none⟩ = some (.pointer (some ⟨gb, 0, none⟩)) ∧ W.cell? ⟨b5, 0, none⟩ = some (.int .u32 y.slot) ∧ W.cell? ⟨b5, 1, none⟩ = some (.int .u32 y.gen) ∧ W.cell? ⟨r, 1, none⟩ = some (.int .i64 o.x) ∧ W.cell? ⟨r, 3, none⟩ = some (.int .i64 o.early))
        (assumption)
        (first | (go_at_call 42; (with_reducible refine Calls.mono cr ?_); rintro e w4 ⟨rfl, vr4, hC, hK⟩; have HC4 := Lib.hid hC; have HY4 := Lib.hid (hK _ _ HYd.out); have HR4 := Lib.hid (hK _ _ HRd.out); clear hC hK; have hs4 := ss_of HC4.out HY4.out HR4.out))
      clear cr hsd hs4
      clear HCd HYd HRd
      have HCd := Lib.hid (HC4.out.quiet (Below.refl _ w4).drew)
      have HYd := Lib.hid (HY4.out.below (Below.refl _ w4).drew)
      have HRd := Lib.hid (HR4.out.below (Below.refl _ w4).drew)
      have hsd := ss_of HCd.out HYd.out HRd.out
      have cl := CL _ _ _ _ _ HCd.out
      clear CL
      go_wp2_with fail
      go_region_held3 (fun W => W.cell? ⟨gp, 0, none⟩ = some (.pointer (some ⟨g, 0, none⟩)) ∧ W.cell? ⟨gp, 1, none⟩ = some (.pointer (some ⟨gb, 0, none⟩)) ∧ W.cell? ⟨b5, 0, none⟩ = some (.int .u32 y.slot) ∧ W.cell? ⟨b5, 1, none⟩ = some (.int .u32 y.gen) ∧ W.cell? ⟨r, 1, none⟩ = some (.int .i64 o.x) ∧ W.cell? ⟨r, 3, none⟩ = some (.int .i64 o.early))
        (assumption)
        (first | (go_at_call 12; (with_reducible refine Calls.mono cl ?_); rintro e w5 ⟨rfl, vs5, vo5, hC, hK⟩; have HC5 := Lib.hid hC; have HY5 := Lib.hid (hK _ _ HYd.out); have HR5 := Lib.hid (hK _ _ HRd.out); clear hC hK; have hs5 := ss_of HC5.out HY5.out HR5.out))
      clear cl hsd hs5
      go_wp2
      go_ret
      exact ⟨rfl, _, _, _, _, _, _, ts, HC5.out, v, by omega, by omega, hm, hsl⟩
    have n6 := ho
    clear ho
    by_cases ho : o.kind = 7
    · have e1 : (o.kind == 1) = false := by rw [beq_eq_false_iff_ne]; omega
      have e2 : (o.kind == 2) = false := by rw [beq_eq_false_iff_ne]; omega
      have e3 : (o.kind == 3) = false := by rw [beq_eq_false_iff_ne]; omega
      have e4 : (o.kind == 4) = false := by rw [beq_eq_false_iff_ne]; omega
      have e5 : (o.kind == 5) = false := by rw [beq_eq_false_iff_ne]; omega
      have e6 : (o.kind == 6) = false := by rw [beq_eq_false_iff_ne]; omega
      have e7 : (o.kind == 7) = true := by rw [beq_iff_eq]; exact ho
      clear ho
      have CP := Smn.pall_any gp g gb vs vo vr (.slice A1 ts.length k1) t R most o.early w3 HC3.out.pr HC3.out.tab HC3.out.ref (sm v (by omega)).out v (by omega)
      have a3 := (ss_of HC3.out HY3.out HR3.out).2.2.2.2.2
      go_wp2_with fail
      refine CP.mono ?_
      rintro e w4 ⟨rfl, hb4⟩
      have HC4 := Lib.hid (HC3.out.quiet hb4)
      clear hb4
      go_wp2
      go_ret
      exact ⟨rfl, _, _, _, _, _, _, ts, HC4.out, v, by omega, by omega, hm, hsl⟩
    have n7 := ho
    clear ho
    have e1 : (o.kind == 1) = false := by rw [beq_eq_false_iff_ne]; omega
    have e2 : (o.kind == 2) = false := by rw [beq_eq_false_iff_ne]; omega
    have e3 : (o.kind == 3) = false := by rw [beq_eq_false_iff_ne]; omega
    have e4 : (o.kind == 4) = false := by rw [beq_eq_false_iff_ne]; omega
    have e5 : (o.kind == 5) = false := by rw [beq_eq_false_iff_ne]; omega
    have e6 : (o.kind == 6) = false := by rw [beq_eq_false_iff_ne]; omega
    have e7 : (o.kind == 7) = false := by rw [beq_eq_false_iff_ne]; omega
    go_wp2
    go_ret
    exact ⟨rfl, _, _, _, _, _, _, ts, HC3.out, v, by omega, by omega, hm, hsl⟩
  clear p0 p1 p2 p3 CH hbd hba
  go_region_held3 (fun W => Below W1.heap.size W1 W ∧ W.cell? ⟨gp, 2, none⟩ = some (.slice A1 ts.length k1) ∧ W.cell? ⟨r, 0, none⟩ = some (.int .i64 o.kind) ∧ W.cell? ⟨r, 1, none⟩ = some (.int .i64 o.x) ∧ W.cell? ⟨r, 2, none⟩ = some (.int .i64 o.which) ∧ W.cell? ⟨r, 3, none⟩ = some (.int .i64 o.early) ∧ W.cell? ⟨r, 4, none⟩ = some (.int .u32 o.slot) ∧ W.cell? ⟨r, 5, none⟩ = some (.int .u32 o.gen) ∧ W.cell? ⟨r, 6, none⟩ = some (.bool o.hand))
    (assumption)
    (first | (go_at_call 39; with_reducible refine Calls.mono cd ?_; rintro e w2 ⟨rfl, hb2⟩; have hs2 := HSB.out _ hb2; obtain ⟨hs2, hs3, hs4⟩ := hs2) | (go_at_call 39; with_reducible refine Calls.mono ca ?_; rintro e w2 ⟨rfl, hb2⟩; have hs2 := HSA.out _ hb2; obtain ⟨hs2, hs3⟩ := hs2; have hs4 := HAC.out _ hb2; obtain ⟨hc1, hc2, hc3, hc4⟩ := hs4))
  · have hbd : Below W1.heap.size W1 W1.drew := (Below.refl _ _).drew
    have k0 := hbd.trans (hb2.mono hbd.size)
    have k3 := k0.alloc k0.size (hdC y)
    exact cont _ _ (Lib.hid (HC0.out.quiet k3)) (Lib.hid (bx_at HC0.out k0.size (heap_alloc_new w2 _))) (Lib.hid (HB0.out.below k3))
  · have hba : Below W1.heap.size W1 (W1.alloc (.cells #[.int .u32 0, .int .u32 0] 33)).drew := ((Below.refl _ _).alloc (Nat.le_refl _) _).drew
    have k0 := hba.trans (hb2.mono hba.size)
    have k3 := (k0.setCell (p := ⟨W1.heap.size, 0, none⟩) (Nat.le_refl _) (.int .u32 y.slot)).setCell (p := ⟨W1.heap.size, 1, none⟩) (Nat.le_refl _) (.int .u32 y.gen)
    have h0 : w2.heap[W1.heap.size]? = some (.cells #[.int .u32 0, .int .u32 0] 33) := (hb2.block W1.heap.size (by simp)).trans (heap_alloc_new W1 _)
    exact cont _ _ (Lib.hid (HC0.out.quiet k3)) (Lib.hid (bx_at HC0.out (Nat.le_refl _) (heap_setCell_same _ W1.heap.size 1 #[.int .u32 y.slot, .int .u32 0] _ _ (heap_setCell_same _ W1.heap.size 0 #[.int .u32 0, .int .u32 0] _ _ h0)))) (Lib.hid (HB0.out.below k3))
end Go.Proofs.Ytijlnlcjlkanaaa.Sms
