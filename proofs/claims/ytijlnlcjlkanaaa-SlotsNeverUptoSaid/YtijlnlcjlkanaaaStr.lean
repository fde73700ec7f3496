/- SlotsNever: the walk. -/
import Derived.Test.YtijlnlcjlkanaaaStq
import Derived.Deep.DeepCutAuto
import Derived.StillTailTactics
set_option linter.unusedVariables false
namespace Go.Proofs.Ytijlnlcjlkanaaa.Str
open Go.RowKit Rwo Sta Stb Stc Stg Ste Rwp Sti Stj Stk Stl Stm Stn Sto Slo Slp Stq Stp

/-- What the loop keeps. -/
def Loop (w0 : World) (g n : Nat) (v : Value) (l : List Ins) (vt vx vg : Value) (cnt k : Nat) (w : World) : Prop :=
  ∃ vs vo t ts xs gs, Cur w0 g vs vo vt vx vg t ts xs gs w ∧ Inv n t ts xs gs ∧ t.count = cnt ∧ ts.length ≤ k ∧ Arg opE w v l
theorem loop_start {w0 w1 w2 : World} {n : Nat} {v : Value} {l : List Ins} (hn : n ≤ 500) (ha : Arg opE w0 v l) (hb1 : Below w0.heap.size w0 w1) (hT : TabAt w1.heap.size (.slice none 0 0) (.slice none 0 0) ⟨[], n, 0, 0, []⟩ w2) (hb2 : Below w1.heap.size w1 w2) :
    Loop w0 w1.heap.size n v l (.slice none 0 0) (.slice none 0 0) (.slice none 0 0) 0 0 w2 := by
  have hb := hb1.trans (hb2.mono hb1.size)
  exact ⟨_, _, _, [], [], [], ⟨hT, Own.nil _ _, Own.nil _ _, Own.nil _ _, fun b e => (by cases e), fun b e => (by cases e), hb1.size, hb⟩, Inv.start n hn, rfl, Nat.le_refl _, ha.below hb⟩
theorem ins_cells {w : World} {b o : Nat} {l : List Ins} (h : ∀ j, j < l.length → ∀ i, i < opE.z → w.cell? ⟨b, o + j * opE.z + i, none⟩ = (opE.f (l.getD j opE.d))[i]?) (j : Nat) (hj : j < l.length) {s : Ins} (hs : l.getD j opE.d = s) :
    w.cell? ⟨b, o + j * 7, none⟩ = some (.int .i64 s.kind) ∧ w.cell? ⟨b, o + j * 7 + 1, none⟩ = some (.int .i64 s.x) ∧ w.cell? ⟨b, o + j * 7 + 2, none⟩ = some (.int .i64 s.which) ∧ w.cell? ⟨b, o + j * 7 + 3, none⟩ = some (.int .i64 s.early) ∧
    w.cell? ⟨b, o + j * 7 + 4, none⟩ = some (.int .u32 s.slot) ∧ w.cell? ⟨b, o + j * 7 + 5, none⟩ = some (.int .u32 s.gen) ∧ w.cell? ⟨b, o + j * 7 + 6, none⟩ = some (.bool s.hand) := by
  subst hs
  exact ⟨h j hj 0 (by show 0 < 7; omega), h j hj 1 (by show 1 < 7; omega), h j hj 2 (by show 2 < 7; omega), h j hj 3 (by show 3 < 7; omega), h j hj 4 (by show 4 < 7; omega), h j hj 5 (by show 5 < 7; omega), h j hj 6 (by show 6 < 7; omega)⟩
set_option maxHeartbeats 8000000 in
set_option maxRecDepth 100000 in
theorem walk (size : Int) (v : Value) (l : List Ins) (w : World) (hsz : (Lit.int .i64 size).wf = true) (hf : OpsFit l) (ha : Arg opE w v l) :
    Calls Try.prog 3 #[.int .i64 size, v] w fun e w' => e = .returned (.bool true) ∧ Below w.heap.size w w' := by
  obtain ⟨s1, s2⟩ := i64_bounds hsz
  have HF := Lib.hid hf
  have HA := Lib.hid ha
  obtain ⟨n, hn⟩ : ∃ n, n = 1 + pk size 500 := ⟨_, rfl⟩
  have hn1 : 1 ≤ n ∧ n ≤ 500 := by have := pk_lt size 500 (by omega); omega
  obtain ⟨n1, n2⟩ := hn1
  have hn3 : 1 + (pk size 500 : Int) = (n : Int) := by omega
  have hpl : pk size 500 < 500 := pk_lt size 500 (by omega)
  have CA := awake_any w
  clear hn ha hf
  go_enter Try.func3, Try.ntmps3
  go_wp2_with fail
  refine CA.mono ?_
  rintro e w1 ⟨rfl, hb1⟩
  have HB1 := Lib.hid hb1
  have CP := pick_any size 500 w1 s1 s2 (by omega) (by omega)
  clear CA hb1
  go_wp2_with fail
  refine CP.mono ?_
  rintro e w1' ⟨rfl, rfl⟩
  have CN := new_ok n w1 n1 n2
  clear CP
  go_wp2_with fail
  refine CN.mono ?_
  rintro e w2 ⟨rfl, hT, hb2⟩
  have HL := Lib.hid (loop_start n2 HA.out HB1.out hT hb2)
  clear CN hT hb2
  obtain ⟨g, hg⟩ : ∃ g, g = w1.heap.size := ⟨_, rfl⟩
  rw [← hg] at HL
  rw [← hg]
  clear hg hn3 hpl s1 s2
  go_wp2_with fail
  go_loopw [9, 10, 11, 12, 13] (fun vt vx vg lv iv wr => ∃ i cnt : Nat, i ≤ 1000 ∧ i ≤ l.length ∧ iv = .int .i64 i ∧ lv = .int .i64 cnt ∧ cnt ≤ 500 ∧ Hid (Loop w g n v l vt vx vg cnt i wr)) (fun _ _ _ _ iv _ => 1000 - (intOf iv).toNat)
  case atStart => exact ⟨0, 0, by omega, by omega, rfl, rfl, by omega, HL.out⟩
  case round =>
    obtain ⟨i, cnt, hi1, hi2, rfl, rfl, hcn, HL2⟩ := hrel
    clear HL
    obtain ⟨vs, vo, t, ts, xs, gs, hC, hI, hcnt, hlen, hArg⟩ := HL2.out
    have HC := Lib.hid hC
    have HI := Lib.hid hI
    have HAr := Lib.hid hArg
    clear HL2
    clear hC hI hArg
    by_cases hgo : i < l.length ∧ i < 1000
    · obtain ⟨g1, g2⟩ := hgo
      rcases HAr.out with ⟨rfl, _⟩ | ⟨bv, ov, cv, rfl, hbv, hcv⟩
      · simp at g1
      obtain ⟨o, ho⟩ : ∃ o, l.getD i opE.d = o := ⟨_, rfl⟩
      obtain ⟨a0, a1, a2, a3, a4, a5, a6⟩ := ins_cells hcv i g1 ho
      have hfo := Lib.hid (HF.out.2 i g1)
      rw [ho] at hfo
      clear hcv ho
      go_upto_region 14 with fail
      have HO1 := Lib.hid (OpAt.new HC.out o)
      have HC1 := Lib.hid (HC.out.quiet ((Below.refl wr.heap.size wr).alloc (Nat.le_refl _) (.cells #[.int .i64 o.kind, .int .i64 o.x, .int .i64 o.which, .int .i64 o.early, .int .u32 o.slot, .int .u32 o.gen, .bool o.hand] 35)))
      obtain ⟨W1, hW1⟩ : ∃ W1, W1 = wr.alloc (.cells #[.int .i64 o.kind, .int .i64 o.x, .int .i64 o.which, .int .i64 o.early, .int .u32 o.slot, .int .u32 o.gen, .bool o.hand] 35) := ⟨_, rfl⟩
      rw [← hW1] at HO1 HC1
      rw [← hW1]
      clear hW1 a0 a1 a2 a3 a4 a5 a6 HC
      obtain ⟨r, hr⟩ : ∃ r, r = wr.heap.size := ⟨_, rfl⟩
      rw [← hr] at HO1
      rw [← hr]
      clear hr
      have hsm := Lib.hid (HI.out.ok.small (by omega))
      obtain ⟨a0, a1, a2⟩ := HO1.out.cells
      obtain ⟨A9, c9, h9⟩ := HC1.out.told.shape
      subst h9
      by_cases hA : o.kind = 1 ∨ ts.length = 0
      · have hA' : ((o.kind == 1) = true ∨ ((o.kind == 1) = false ∧ ((ts.length : Int) == 0) = true)) := by
          rcases Classical.em (o.kind = 1) with h1 | h1
          · exact .inl (by rw [beq_iff_eq]; exact h1)
          · refine .inr ⟨by rw [beq_eq_false_iff_ne]; exact h1, ?_⟩
            rw [beq_iff_eq]; omega
        clear hA
        cases hk : takeT t o.x with
        | some p =>
          obtain ⟨t', h⟩ := p
          have HI2 := Lib.hid (HI.out.take hk)
          have CT := Lib.hid (take_ok HC1.out HO1.out hsm.out hk)
          have hlt := HI2.out.2.2.1
          have b0 : (cnt : Int) < (n : Int) := by omega
          clear hk hsm HC1 HO1
          rcases hA' with e1 | ⟨e1, e2⟩
          all_goals
            go_upto_region 15 with fail
            clear hlt
            try clear e2
            clear a0 a2
            go_wp2_with fail
            refine CT.out.mono ?_
            rintro e w3 ⟨rfl, vs', vo', hC3, hO3⟩
            have HB3 := Lib.hid (hC3.box hO3 h)
            clear hC3 hO3 CT a1
            go_upto_region 16 with fail
            obtain ⟨W4, hW4⟩ : ∃ W4, W4 = w3.alloc (.cells #[.int .u32 h.slot, .int .u32 h.gen] 33) := ⟨_, rfl⟩
            rw [← hW4] at HB3
            rw [← hW4]
            clear hW4
            obtain ⟨rh, hrh⟩ : ∃ rh, rh = w3.heap.size := ⟨_, rfl⟩
            rw [← hrh] at HB3
            rw [← hrh]
            clear hrh
            go_wp2_with fail
            have hx0 := HB3.out.2.2.1
            have hx1 := HB3.out.2.2.2
            go_loopw [17] (fun u wx => ∃ k q : Nat, k ≤ ts.length ∧ u = .int .i64 k ∧ wx = W4.drewN q) (fun u _ => ts.length - (intOf u).toNat)
            case atStart => exact ⟨0, 0, Nat.zero_le _, rfl, rfl⟩
            case round =>
              obtain ⟨k, q, hk, rfl, rfl⟩ := hrel
              by_cases hkl : k < ts.length
              · obtain ⟨bt, ct, cur, hv, hbt, _, hbt2, _⟩ := Own.some HB3.out.1.told (by intro e; rw [e, List.length_nil] at hkl; omega)
                simp only [Value.slice.injEq] at hv
                obtain ⟨rfl, _, rfl⟩ := hv
                obtain ⟨s, hsl⟩ : ∃ s, ts.getD k ⟨0, 0⟩ = s := ⟨_, rfl⟩
                obtain ⟨d0, d1⟩ := hd_at HB3.out.1.told k hkl hsl
                have hne : ¬ (s.slot = h.slot ∧ s.gen = h.gen) := fun e => by
                  have e' : s = h := by cases s; cases h; simp only [Hd.mk.injEq]; exact e
                  exact HI2.out.2.1 (by rw [← e', ← hsl]; exact getD_mem hkl)
                clear hsl
                cases e3 : ((s.slot : Int) == (h.slot : Int)) with
                | false =>
                  clear hne
                  go_wp2_with fail
                  go_quiet (fail)
                  go_wp2
                  go_roundw
                  case rel => exact ⟨k + 1, _, by omega, by go_num, rfl⟩
                  case measure => simp [intOf]; omega
                | true =>
                  have e4 : ((s.gen : Int) == (h.gen : Int)) = false := by
                    rw [beq_eq_false_iff_ne]
                    intro e
                    have := eq_of_beq e3
                    exact hne ⟨by omega, by omega⟩
                  clear hne
                  go_wp2_with fail
                  go_quiet (fail)
                  go_wp2
                  go_roundw
                  case rel => exact ⟨k + 1, _, by omega, by go_num, rfl⟩
                  case measure => simp [intOf]; omega
              · obtain ⟨W5, hW5⟩ : ∃ W5, W5 = W4.drewN q := ⟨_, rfl⟩
                have HC5 := Lib.hid (HB3.out.1.quiet (below_drewN W4 q))
                have HO5 := Lib.hid (HB3.out.2.1.below (below_drewN W4 q))
                have hy0 : W5.cell? ⟨rh, 0, none⟩ = some (.int .u32 h.slot) := by rw [hW5]; exact hx0
                have hy1 : W5.cell? ⟨rh, 1, none⟩ = some (.int .u32 h.gen) := by rw [hW5]; exact hx1
                rw [← hW5] at HC5 HO5
                rw [← hW5]
                clear hW5 hx0 hx1 HB3
                have hgz : g + 1 ≤ W5.heap.size := HC5.out.tab.lt
                go_upto_region 25 with (at_builtin; refine wpList_append (E := hdE) (by rfl) _ _ _ (by rfl) 33 _ 8 Try.underlying29 infoHd (by rfl) (g + 1) _ ts W5 HC5.out.told (by rfl) h _ (by rfl) _ W5.heap.size (by rfl) (by rfl) (by omega) ⟨hgz, rfl⟩ ?_; intro g3 cp3 w6 hO6 hb6 hfar6 hsz6 hat6)
                have HC6 := Lib.hid (HC5.out.apTold ⟨by rfl, by rfl, by rfl⟩ hO6 hb6 hfar6 hsz6 hat6)
                have HO6 := Lib.hid (HO5.out.told HC6.out.2)
                clear hO6 hb6 hfar6 hsz6 hat6 HC5 HO5 hy0 hy1 hgz
                obtain ⟨_, a1, _⟩ := HO6.out.cells
                have hgz : g + 1 ≤ w6.heap.size := HC6.out.1.tab.lt
                obtain ⟨A7, c7, h7⟩ := HC6.out.1.things.shape
                subst h7
                have hxl := HI.out.xl
                have hgl := HI.out.gl
                obtain ⟨X, hX⟩ : ∃ X, X = xs.length := ⟨_, rfl⟩
                have hX1 : X ≤ 1000 := by omega
                go_upto_region 26 with (at_builtin; refine wpList_append (E := i64E) (by rfl) _ _ _ (by rfl) 3 _ 8 Try.underlying30 infoInt (by rfl) (g + 1) _ xs w6 HC6.out.1.things (by rfl) o.x _ (by rfl) _ w6.heap.size (by rfl) (by rfl) (by omega) ⟨hgz, rfl⟩ ?_; intro g7 cp7 w7 hO7 hb7 hfar7 hsz7 hat7)
                have HC7 := Lib.hid (HC6.out.1.apThings ⟨by rfl, by rfl, by rfl⟩ hO7 hb7 hfar7 hsz7 hat7)
                clear hO7 hb7 hfar7 hsz7 hat7 HC6 HO6 hgz a1
                have hgz : g + 1 ≤ w7.heap.size := HC7.out.tab.lt
                obtain ⟨A8, c8, h8⟩ := HC7.out.gone.shape
                subst h8
                go_upto_region 27 with (at_builtin; refine wpList_append (E := i64E) (by rfl) _ _ _ (by rfl) 3 _ 8 Try.underlying30 infoInt (by rfl) (g + 1) _ gs w7 HC7.out.gone (by rfl) 0 _ (by rfl) _ w7.heap.size (by rfl) (by rfl) (by omega) ⟨hgz, rfl⟩ ?_; intro g8 cp8 w8 hO8 hb8 hfar8 hsz8 hat8)
                have HC8 := Lib.hid (HC7.out.apGone ⟨by rfl, by rfl, by rfl⟩ hO8 hb8 hfar8 hsz8 hat8)
                clear hO8 hb8 hfar8 hsz8 hat8 HC7 hgz
                have HE : Hid (Loop w g n (.slice (some ⟨bv, ov, none⟩) l.length cv) l (.slice (some ⟨g3, 0, none⟩) (ts.length + 1) cp3) (.slice (some ⟨g7, 0, none⟩) (xs.length + 1) cp7) (.slice (some ⟨g8, 0, none⟩) (gs.length + 1) cp8) (cnt + 1) (i + 1) w8) :=
                  ⟨_, _, _, _, _, _, HC8.out, HI2.out.1, by have := HI2.out.2.2.2; omega, by rw [List.length_append]; show ts.length + 1 ≤ _; omega, HA.out.below HC8.out.below⟩
                clear hX hxl hgl HC8
                go_wp2
                go_roundw
                case rel => exact ⟨i + 1, cnt + 1, by omega, by omega, by go_num, by go_num, by omega, by have hxl := HI.out.xl; have hgl := HI.out.gl; have hh := HE.out; rw [hxl, hgl] at hh; exact hh⟩
                case measure => simp [intOf]; omega
        | none =>
          have CT := Lib.hid (take_no HC1.out hsm.out hk)
          have hfull := HI.out.full hk
          have b0 : (n : Int) ≤ (cnt : Int) := by omega
          clear hk hsm HC1 HO1 hfull
          rcases hA' with e1 | ⟨e1, e2⟩
          all_goals
            go_upto_region 15 with fail
            try clear e2
            clear a0 a2
            go_wp2_with fail
            refine CT.out.mono ?_
            rintro e w3 ⟨rfl, hC3⟩
            have HB3 := Lib.hid (hC3.quiet ((Below.refl w3.heap.size w3).alloc (Nat.le_refl _) (.cells #[.int .u32 0, .int .u32 0] 33)))
            clear hC3 CT a1
            go_upto_region 16 with fail
            obtain ⟨W4, hW4⟩ : ∃ W4, W4 = w3.alloc (.cells #[.int .u32 0, .int .u32 0] 33) := ⟨_, rfl⟩
            rw [← hW4] at HB3
            rw [← hW4]
            clear hW4
            have HE : Hid (Loop w g n (.slice (some ⟨bv, ov, none⟩) l.length cv) l (.slice A9 ts.length c9) u10 u11 cnt (i + 1) W4) :=
              ⟨_, _, _, _, _, _, HB3.out, HI.out, hcnt, by omega, HA.out.below HB3.out.below⟩
            go_wp2_with fail
            go_loopw [17] (fun u wx => u = .int .i64 ((0 : Nat) : Int) ∧ W4 = wx) (fun u _ => 0)
            case atStart => exact ⟨rfl, rfl⟩
            case round =>
              obtain ⟨rfl, rfl⟩ := hrel
              by_cases hk0 : 0 < ts.length
              all_goals
                go_wp2
                go_roundw
                case rel => exact ⟨i + 1, cnt, by omega, by omega, by go_num, rfl, by omega, HE.out⟩
                case measure => simp [intOf]; omega
      · have e1 : (o.kind == 1) = false := by rw [beq_eq_false_iff_ne]; exact fun e => hA (.inl e)
        have e2 : ((ts.length : Int) == 0) = false := by rw [beq_eq_false_iff_ne]; omega
        obtain ⟨bt, ct, _, hvt, _⟩ := Own.some HC1.out.told (by intro e; rw [e] at hA; exact hA (.inr rfl))
        simp only [Value.slice.injEq] at hvt
        obtain ⟨rfl, _, rfl⟩ := hvt
        have hxl := HI.out.xl
        have hgl := HI.out.gl
        obtain ⟨bx, cx, _, hvx, _⟩ := Own.some HC1.out.things (by intro e; rw [e, List.length_nil] at hxl; omega)
        obtain ⟨bd, cd, _, hvd, _⟩ := Own.some HC1.out.gone (by intro e; rw [e, List.length_nil] at hgl; omega)
        rw [hxl] at hvx
        rw [hgl] at hvd
        subst hvx; subst hvd
        have hrd : r ≠ bd := fun e => HO1.out.nd (by rw [e]; rfl)
        have hdr : bd ≠ r := fun e => hrd e.symm
        obtain ⟨j, hjd⟩ : ∃ j, pk o.which ts.length = j := ⟨_, rfl⟩
        have hj : j < ts.length := by rw [← hjd]; exact pk_lt _ _ (by omega)
        have CP := pick_any o.which ts.length W1 hfo.out.which.1 hfo.out.which.2 (by omega) (by omega)
        rw [hjd] at CP
        obtain ⟨y, hy⟩ : ∃ y, ts.getD j ⟨0, 0⟩ = y := ⟨_, rfl⟩
        obtain ⟨X, hX⟩ : ∃ X, xs.getD j 0 = X := ⟨_, rfl⟩
        obtain ⟨G, hG⟩ : ∃ G, gs.getD j 0 = G := ⟨_, rfl⟩
        have hgone := HI.out.gone j hj
        have hthing := HI.out.thing j hj
        have hplace := HI.out.place _ (getD_mem (d := ⟨0, 0⟩) hj)
        rw [hy, hG] at hgone
        rw [hy, hX] at hthing
        rw [hy] at hplace
        have hslot : y.slot < 4294967296 := by have := HI.out.ok.len; have := HI.out.ok.most; omega
        have HRD : Hid (∀ vs' vo' t' W, Cur w g vs' vo' (.slice (some ⟨bt, 0, none⟩) ts.length c9) (.slice (some ⟨bx, 0, none⟩) ts.length cx) (.slice (some ⟨bd, 0, none⟩) ts.length cd) t' ts xs gs W → OpAt g vs' vo' (.slice (some ⟨bt, 0, none⟩) ts.length c9) (.slice (some ⟨bx, 0, none⟩) ts.length cx) (.slice (some ⟨bd, 0, none⟩) ts.length cd) r o W → Reads bt bx bd r j y X G o W) :=
          fun vs' vo' t' W c1 o1 => reads c1 o1 hj (by omega) (by omega) hy hX hG
        have HJ : Hid (j < xs.length ∧ j < gs.length) := ⟨by omega, by omega⟩
        have HY := Lib.hid hy
        have hjl : (j : Int) < (ts.length : Int) := by omega
        obtain ⟨x0, x1, x2, x3, x4, x5, x6, x7, x8⟩ := HRD.out _ _ _ _ HC1.out HO1.out
        clear hA hy hX hG hplace hjd hxl hgl a0 a1 a2
        go_upto_region 28 with fail
        go_wp2_with fail
        refine CP.mono ?_
        rintro e W1' ⟨rfl, rfl⟩
        clear CP
        cases hl : lives t y with
        | true =>
          have eG : (G == 0) = true := by rw [beq_iff_eq]; exact hgone.2 hl
          have HL := Lib.hid hl
          have HT := Lib.hid (hthing hl)
          have CG := Lib.hid (get_yes g vs vo t y.slot y.gen W1 (Lib.hid HC1.out.tab) hsm HL X HT)
          clear hgone hthing hl
          go_wp2_with fail
          refine CG.out.mono ?_
          rintro e w3 ⟨rfl, hb3⟩
          have HC3 := Lib.hid (HC1.out.quiet hb3)
          have HO3 := Lib.hid (HO1.out.below hb3)
          clear x0 x1 x2 x3 x4 x5 x6 x7 x8 hb3 CG
          obtain ⟨x0, x1, x2, x3, x4, x5, x6, x7, x8⟩ := HRD.out _ _ _ _ HC3.out HO3.out
          have CL := Lib.hid (lives_any g vs vo t y.slot y.gen w3 (Lib.hid HC3.out.tab) hsm hslot true HL)
          go_wp2_with fail
          refine CL.out.mono ?_
          rintro e w4 ⟨rfl, hb4⟩
          have HC4 := Lib.hid (HC3.out.quiet hb4)
          have HO4 := Lib.hid (HO3.out.below hb4)
          clear x0 x1 x2 x3 x4 x5 x6 x7 x8 hb4 CL HC3 HO3
          obtain ⟨x0, x1, x2, x3, x4, x5, x6, x7, x8⟩ := HRD.out _ _ _ _ HC4.out HO4.out
          have hii := HI.out.ok.all y HL.out
          obtain ⟨q, hq1, hq2, hq3⟩ := first_in hii
          have HQ := Lib.hid (And.intro hq2 hq3)
          have hc1 : 1 ≤ t.count := by have := HI.out.ok.ord; omega
          clear hii hq2 hq3
          by_cases k2 : o.kind = 2
          · have f2 : (o.kind == 2) = true := by rw [beq_iff_eq]; exact k2
            have f4 : (o.kind == 4) = false := by rw [beq_eq_false_iff_ne]; omega
            have CF := Lib.hid (free_yes g vs vo t y.slot y.gen q w4 (Lib.hid HC4.out.tab) hsm HL hc1 hq1 (Lib.hid HQ.out.1) (Lib.hid HQ.out.2))
            clear k2
            go_wp2_with fail
            refine CF.out.mono ?_
            rintro e w5 ⟨rfl, vo', hT5, hS5⟩
            have HC5 := Lib.hid (HC4.out.step hT5 hS5)
            have HO5 := Lib.hid (HO4.out.step hS5)
            clear x0 x1 x2 x3 x4 x5 x6 x7 x8 CF hT5 hS5 HC4 HO4
            obtain ⟨x0, x1, x2, x3, x4, x5, x6, x7, x8⟩ := HRD.out _ _ _ _ HC5.out HO5.out
            have HE : Hid (Loop w g n (.slice (some ⟨bv, ov, none⟩) l.length cv) l (.slice (some ⟨bt, 0, none⟩) ts.length c9) (.slice (some ⟨bx, 0, none⟩) ts.length cx) (.slice (some ⟨bd, 0, none⟩) ts.length cd) (cnt - 1) (i + 1) (w5.setCell ⟨bd, j, none⟩ (.int .i64 1))) :=
              ⟨_, _, _, _, _, _, HC5.out.setGone HJ.out.2, by have := HI.out.free hj (by rw [HY.out]; exact HL.out) hq1 (by rw [HY.out]; exact HQ.out.1); rw [HY.out] at this; exact this, by show t.count - 1 = _; omega, by omega, HA.out.below (HC5.out.setGone HJ.out.2).below⟩
            have hcc : (cnt : Int) - 1 = ((cnt - 1 : Nat) : Int) := by omega
            have hcc2 : 1 ≤ cnt := by omega
            go_wp2
            go_roundw
            case rel => exact ⟨i + 1, cnt - 1, by omega, by omega, by go_num, by first | rfl | rw [hcc], by omega, HE.out⟩
            case measure => simp [intOf]; omega
          · have f2 : (o.kind == 2) = false := by rw [beq_eq_false_iff_ne]; exact k2
            clear k2
            by_cases k4 : o.kind = 4
            · have f4 : (o.kind == 4) = true := by rw [beq_iff_eq]; exact k4
              clear k4
              go_wp2_with fail
              go_still_tail 7, (by kernel_rfl)
              change wpList _ _ _ _ _ w4.drew
              have HC5 := Lib.hid (HC4.out.quiet (below_drewN w4 1))
              have HO5 := Lib.hid (HO4.out.below (below_drewN w4 1))
              change Hid (Cur _ _ _ _ _ _ _ _ _ _ _ w4.drew) at HC5
              change Hid (OpAt _ _ _ _ _ _ _ _ w4.drew) at HO5
              obtain ⟨w5, hw5⟩ : ∃ w5, w5 = w4.drew := ⟨_, rfl⟩
              rw [← hw5] at HC5 HO5
              rw [← hw5]
              clear hw5 x0 x1 x2 x3 x4 x5 x6 x7 x8 HC4 HO4
              have CS := Lib.hid (set_yes g vs vo t y.slot y.gen o.x w5 (Lib.hid HC5.out.tab) hsm HL)
              go_wp2_with fail
              refine CS.out.mono ?_
              rintro e w6 ⟨rfl, hT6, hS6⟩
              have HC6 := Lib.hid (HC5.out.step hT6 hS6)
              have HO6 := Lib.hid (HO5.out.step hS6)
              clear CS hT6 hS6 HC5 HO5
              obtain ⟨x0, x1, x2, x3, x4, x5, x6, x7, x8⟩ := HRD.out _ _ _ _ HC6.out HO6.out
              have HE : Hid (Loop w g n (.slice (some ⟨bv, ov, none⟩) l.length cv) l (.slice (some ⟨bt, 0, none⟩) ts.length c9) (.slice (some ⟨bx, 0, none⟩) ts.length cx) (.slice (some ⟨bd, 0, none⟩) ts.length cd) cnt (i + 1) (w6.setCell ⟨bx, j, none⟩ (.int .i64 o.x))) :=
                ⟨_, _, _, _, _, _, HC6.out.setThing HJ.out.1, by have := HI.out.set (x := o.x) hj (by rw [HY.out]; exact HL.out); rw [HY.out] at this; exact this, hcnt, by omega, HA.out.below (HC6.out.setThing HJ.out.1).below⟩
              go_wp2
              go_roundw
              case rel => exact ⟨i + 1, cnt, by omega, by omega, by go_num, rfl, by omega, HE.out⟩
              case measure => simp [intOf]; omega
            · have f4 : (o.kind == 4) = false := by rw [beq_eq_false_iff_ne]; exact k4
              have HE : Hid (Loop w g n (.slice (some ⟨bv, ov, none⟩) l.length cv) l (.slice (some ⟨bt, 0, none⟩) ts.length c9) (.slice (some ⟨bx, 0, none⟩) ts.length cx) (.slice (some ⟨bd, 0, none⟩) ts.length cd) cnt (i + 1) w4) :=
                ⟨_, _, _, _, _, _, HC4.out, HI.out, hcnt, by omega, HA.out.below HC4.out.below⟩
              clear k4
              go_wp2
              go_roundw
              case rel => exact ⟨i + 1, cnt, by omega, by omega, by go_num, rfl, by omega, HE.out⟩
              case measure => simp [intOf]; omega
        | false =>
          have eG : (G == 0) = false := by
            rw [beq_eq_false_iff_ne]
            intro e
            have := hgone.1 e
            rw [hl] at this; cases this
          have HL := Lib.hid hl
          have CG := Lib.hid (get_no g vs vo t y.slot y.gen W1 (Lib.hid HC1.out.tab) hsm hslot HL)
          clear hgone hthing hl
          go_wp2_with fail
          refine CG.out.mono ?_
          rintro e w3 ⟨rfl, hb3⟩
          have HC3 := Lib.hid (HC1.out.quiet hb3)
          have HO3 := Lib.hid (HO1.out.below hb3)
          clear x0 x1 x2 x3 x4 x5 x6 x7 x8 hb3 CG
          obtain ⟨x0, x1, x2, x3, x4, x5, x6, x7, x8⟩ := HRD.out _ _ _ _ HC3.out HO3.out
          have CL := Lib.hid (lives_any g vs vo t y.slot y.gen w3 (Lib.hid HC3.out.tab) hsm hslot false HL)
          go_wp2_with fail
          refine CL.out.mono ?_
          rintro e w4 ⟨rfl, hb4⟩
          have HC4 := Lib.hid (HC3.out.quiet hb4)
          have HO4 := Lib.hid (HO3.out.below hb4)
          clear x0 x1 x2 x3 x4 x5 x6 x7 x8 hb4 CL HC3 HO3
          obtain ⟨x0, x1, x2, x3, x4, x5, x6, x7, x8⟩ := HRD.out _ _ _ _ HC4.out HO4.out
          by_cases k2 : o.kind = 2
          · have f2 : (o.kind == 2) = true := by rw [beq_iff_eq]; exact k2
            have f4 : (o.kind == 4) = false := by rw [beq_eq_false_iff_ne]; omega
            have CF := Lib.hid (free_no g vs vo t y.slot y.gen w4 (Lib.hid HC4.out.tab) hsm hslot HL)
            clear k2
            go_wp2_with fail
            refine CF.out.mono ?_
            rintro e w5 ⟨rfl, hb5⟩
            have HC5 := Lib.hid (HC4.out.quiet hb5)
            have HO5 := Lib.hid (HO4.out.below hb5)
            clear x0 x1 x2 x3 x4 x5 x6 x7 x8 CF hb5 HC4 HO4
            obtain ⟨x0, x1, x2, x3, x4, x5, x6, x7, x8⟩ := HRD.out _ _ _ _ HC5.out HO5.out
            have HE : Hid (Loop w g n (.slice (some ⟨bv, ov, none⟩) l.length cv) l (.slice (some ⟨bt, 0, none⟩) ts.length c9) (.slice (some ⟨bx, 0, none⟩) ts.length cx) (.slice (some ⟨bd, 0, none⟩) ts.length cd) cnt (i + 1) w5) :=
              ⟨_, _, _, _, _, _, HC5.out, HI.out, hcnt, by omega, HA.out.below HC5.out.below⟩
            go_wp2
            go_roundw
            case rel => exact ⟨i + 1, cnt, by omega, by omega, by go_num, rfl, by omega, HE.out⟩
            case measure => simp [intOf]; omega
          · have f2 : (o.kind == 2) = false := by rw [beq_eq_false_iff_ne]; exact k2
            clear k2
            by_cases k4 : o.kind = 4
            · have f4 : (o.kind == 4) = true := by rw [beq_iff_eq]; exact k4
              clear k4
              go_wp2_with fail
              go_still_tail 7, (by kernel_rfl)
              change wpList _ _ _ _ _ w4.drew
              have HC5 := Lib.hid (HC4.out.quiet (below_drewN w4 1))
              have HO5 := Lib.hid (HO4.out.below (below_drewN w4 1))
              change Hid (Cur _ _ _ _ _ _ _ _ _ _ _ w4.drew) at HC5
              change Hid (OpAt _ _ _ _ _ _ _ _ w4.drew) at HO5
              obtain ⟨w5, hw5⟩ : ∃ w5, w5 = w4.drew := ⟨_, rfl⟩
              rw [← hw5] at HC5 HO5
              rw [← hw5]
              clear hw5 x0 x1 x2 x3 x4 x5 x6 x7 x8 HC4 HO4
              have CS := Lib.hid (set_no g vs vo t y.slot y.gen o.x w5 (Lib.hid HC5.out.tab) hsm hslot HL)
              go_wp2_with fail
              refine CS.out.mono ?_
              rintro e w6 ⟨rfl, hb6⟩
              have HC6 := Lib.hid (HC5.out.quiet hb6)
              have HO6 := Lib.hid (HO5.out.below hb6)
              clear CS hb6 HC5 HO5
              obtain ⟨x0, x1, x2, x3, x4, x5, x6, x7, x8⟩ := HRD.out _ _ _ _ HC6.out HO6.out
              have HE : Hid (Loop w g n (.slice (some ⟨bv, ov, none⟩) l.length cv) l (.slice (some ⟨bt, 0, none⟩) ts.length c9) (.slice (some ⟨bx, 0, none⟩) ts.length cx) (.slice (some ⟨bd, 0, none⟩) ts.length cd) cnt (i + 1) (w6.setCell ⟨bx, j, none⟩ (.int .i64 o.x))) :=
                ⟨_, _, _, _, _, _, HC6.out.setThing HJ.out.1, HI.out.keep (x := o.x) hj (by rw [HY.out]; exact HL.out), hcnt, by omega, HA.out.below (HC6.out.setThing HJ.out.1).below⟩
              go_wp2
              go_roundw
              case rel => exact ⟨i + 1, cnt, by omega, by omega, by go_num, rfl, by omega, HE.out⟩
              case measure => simp [intOf]; omega
            · have f4 : (o.kind == 4) = false := by rw [beq_eq_false_iff_ne]; exact k4
              have HE : Hid (Loop w g n (.slice (some ⟨bv, ov, none⟩) l.length cv) l (.slice (some ⟨bt, 0, none⟩) ts.length c9) (.slice (some ⟨bx, 0, none⟩) ts.length cx) (.slice (some ⟨bd, 0, none⟩) ts.length cd) cnt (i + 1) w4) :=
                ⟨_, _, _, _, _, _, HC4.out, HI.out, hcnt, by omega, HA.out.below HC4.out.below⟩
              clear k4
              go_wp2
              go_roundw
              case rel => exact ⟨i + 1, cnt, by omega, by omega, by go_num, rfl, by omega, HE.out⟩
              case measure => simp [intOf]; omega
    · obtain ⟨A9, c9, h9⟩ := HC.out.told.shape
      subst h9
      have CC := count_any g vs vo t wr (Lib.hid HC.out.tab)
      have CB := born_any g vs vo t wr (Lib.hid HC.out.tab)
      rw [hcnt] at CC
      rw [HI.out.born] at CB
      have HCC := Lib.hid CC
      have HCB := Lib.hid CB
      clear CC CB
      have hex : (l.length : Int) ≤ (i : Int) ∨ ((i : Int) < (l.length : Int) ∧ (1000 : Int) ≤ (i : Int)) := by omega
      clear hgo
      obtain ⟨A1, c1, h1⟩ : ∃ A c, v = .slice A l.length c := by
        rcases HAr.out with ⟨h0, x, c, h1⟩ | ⟨b, o, c, h1, _⟩
        · exact ⟨x, c, by rw [h1, h0]; rfl⟩
        · exact ⟨_, _, h1⟩
      subst h1
      rcases hex with g1 | ⟨g1, g2⟩
      all_goals
        go_wp2_with fail
        refine HCC.out.mono ?_
        rintro e wz ⟨rfl, rfl⟩
        go_wp2_with fail
        refine HCB.out.mono ?_
        rintro e wz ⟨rfl, rfl⟩
        go_wp2
        go_ret
        exact ⟨rfl, HC.out.below⟩
end Go.Proofs.Ytijlnlcjlkanaaa.Str
