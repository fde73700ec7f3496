/- tree.Text of any tree. Printed by mktext.py. -/
import Derived.Test.YtgodeffkboihlaaGreatDoorTwm
import Derived.Test.YtgodeffkboihlaaGreatDoorTav
import Derived.Deep.RegionHeld3
set_option linter.unusedVariables false
namespace Go.Proofs.YtgodeffkboihlaaGreatDoor.Twn
open Go.RowKit Tra Trb Trf Trd Tcn Trh Tha Txa Tpr Tpt Txi Txu Txv Twa Twb Twc Twd Twe Twg Twi Twj Twm Tqh

theorem funsTo_le (E : Tr → Bs) (S : Nat → Tr → Bs) (ks : List Tr) {m n : Nat} (h : m ≤ n) : (funsTo E S ks m).length ≤ (funsTo E S ks n).length := by
  induction n with
  | zero => obtain rfl : m = 0 := by omega
            exact Nat.le_refl _
  | succ n ih =>
    by_cases e : m = n + 1
    · subst e; exact Nat.le_refl _
    · have := ih (by omega); simp only [funsTo, List.length_append]; omega
/-- What a file's text is, as a string. -/
def textS (t : Tr) : ByteArray := ⟨(if rightT t = 0 then textT t else []).toArray⟩
theorem right_zero {t : Tr} (h : rightT t = 0) : ∀ j, j < t.kids.length → funT (size t) (kid j t.kids) = true := by
  unfold rightT rightN at h
  intro j hj
  split at h
  · cases h
  · split at h
    · rename_i h2
      simp only [Bool.and_eq_true] at h2
      exact all_kid h2.2.2 hj
    · cases h
theorem byteCells_str (l : List UInt8) : Lib.byteCells l = Lib.strCells ⟨l.toArray⟩ := by simp [Lib.byteCells, Lib.strCells]
set_option maxHeartbeats 4000000 in
set_option maxRecDepth 100000 in
theorem string_any (B b : Nat) (l : Bs) (d : Nat) (w : World) (hS : Ws B b l d w) (h0 : l = [] → w.cell? ⟨b, 1, none⟩ = some (.slice none 0 0)) :
    Calls Tryz.prog 29 #[.pointer (some ⟨b, 0, none⟩)] w fun e w' => e = .returned (.string ⟨l.toArray⟩) ∧ Below B w w' := by
  obtain ⟨p, hw⟩ : ∃ p, WrAt B b p l d w := by
    rcases hS.wr with h | h
    · exact ⟨_, h⟩
    · exact ⟨_, h⟩
  obtain ⟨hBb, v, hb, hown, hne⟩ := hw
  rcases hown.2 with ⟨rfl, hn⟩ | ⟨g, cap, cur, fz, rfl, hbg, hgg, hfz, hcap, hml, hcs, htk⟩
  · have hl : l = [] := by simpa [Lib.byteCells] using hn
    subst hl
    have hc : w.cell? ⟨b, 1, none⟩ = some (.slice none 0 0) := by rw [Lib.cell_of_heap hb]; rfl
    refine (Tav.string_fresh b w hc).mono ?_
    rintro e w' ⟨rfl, hb⟩
    exact ⟨rfl, hb.mono hS.hB⟩
  · by_cases hl : l = []
    · have := h0 hl
      rw [Lib.cell_of_heap hb] at this
      simp at this
    · clear h0
      have hl0 : l.length ≠ 0 := by simpa using hl
      rw [byteCells_len] at hcap hb hne hown htk
      have c1 : w.drew.cell? ⟨b, 1, none⟩ = some (.slice (some ⟨g, 0, none⟩) l.length cap) := by
        have : w.drew.heap[b]? = _ := hb
        rw [Lib.cell_of_heap this]; rfl
      have hSD : (Builtin.unsafeSliceData_ #[46] 64 #[.slice (some ⟨g, 0, none⟩) l.length cap]).run Tryz.prog w.drew = .ok (.pointer (some ⟨g, 0, none⟩)) w.drew :=
        Lib.run_unsafeSliceData_row _ _ _ _ _ _ (by omega)
      have hUS : (Builtin.unsafeString_ #[64, 3] 9 #[.pointer (some ⟨g, 0, none⟩), .int .i64 l.length]).run Tryz.prog w.drew = .ok (.string ⟨l.toArray⟩) (w.drew.freeze ⟨g, 0, none⟩ l.length) := by
        refine Lib.run_unsafeString_row w.drew 64 3 9 5 Tryz.underlying64 (by kernel_rfl) g cur.size (by have hg' : w.drew.heap[g]? = some (.cells cur 5 fz) := hgg; simp [World.shape?, hg']) l hl (by omega) (by unfold maxLen at hml; omega) ?_
        intro j x hx
        have := hown.cells (g := g) rfl j (.int .u8 x.toNat) (by simp [Lib.byteCells, hx])
        exact this
      have HBF := Lib.hid (Lib.below_freeze (Below.drew (Below.refl B w)) (p := ⟨g, 0, none⟩) hbg l.length)
      clear hcap hml hcs htk hown hS hgg hfz hne hb hl hl0
      go_enter Tryz.func29, Tryz.ntmps29
      have mixed : Tryz.prog.follows .mixedOrders = true := by kernel_rfl
      go_wp2_with fail
      go_region_o
      all_goals (go_wp2; go_ret; exact ⟨rfl, HBF.out⟩)
/-- Where a tree stands as a value, in the box of the call. -/
theorem box_node {S : Nat → Prop} {w W : World} {d : Nd} {ks : List Tr} {a : Option Addr} {c : Nat} (hv : Lies w S (.mk d ks) (d.val a ks.length c)) (hb : Below (box w d a ks.length c).heap.size (box w d a ks.length c) W) : Nb W.heap.size W w.heap.size 0 d ks a c := by
  have hbc := fun i (hi : i < 8) => box_cell w d a ks.length c hb i hi
  have hlt : w.heap.size < W.heap.size := Nat.lt_of_lt_of_le (by simp) hb.size
  have hl := hv.kept ((box_below w d a ks.length c).trans (hb.mono (by simp)))
  obtain ⟨a', c', e, hk⟩ := kids_lie hl
  have e1 : a = a' := by
    simp only [Value.agg.injEq] at e
    have := congrArg Array.toList e
    simp only [List.cons.injEq, Value.slice.injEq] at this
    exact this.2.2.2.2.2.2.2.1.1
  subst e1
  have hk2 : KL W (fun b => b < W.heap.size) ks a := by
    rcases hk with h | ⟨b, o, h1, h2⟩
    · exact .inl h
    · exact .inr ⟨b, o, h1, fun j hj => (h2 j hj).mono fun b hb _ => hb⟩
  exact ⟨hlt, ⟨hbc 0 (by omega), hbc 1 (by omega), hbc 2 (by omega), hbc 3 (by omega), hbc 7 (by omega)⟩, hk2, kids_cap hv⟩
set_option maxHeartbeats 8000000 in
set_option maxRecDepth 100000 in
theorem text_no (t : Tr) (hF : Fit t) (hr : rightT t ≠ 0) (S : Nat → Prop) (v : Value) (w : World) (hv : Lies w S t v) :
    Calls Tryz.prog 11 #[v] w fun e w' => e = .returned (.tuple #[.string ⟨#[]⟩, .int .i64 (rightT t)]) ∧ Below w.heap.size w w' := by
  obtain ⟨d, ks⟩ := t
  obtain ⟨a, c, rfl⟩ := hv.shape
  simp only [Tr.d, Tr.kids] at hv ⊢
  have HB := Lib.hid (box_below w d a ks.length c)
  have hright := right_tree (.mk d ks) hF S _ _ (hv.kept (box_below w d a ks.length c))
  obtain ⟨r, hrr⟩ : ∃ r, rightT (.mk d ks) = r := ⟨_, rfl⟩
  rw [hrr] at hright hr ⊢
  have HR := Lib.hid hright
  have hr1 : (r != 0) = true := by simp [hr]
  have hr2 : (r == 0) = false := beq_false_of_ne hr
  obtain ⟨k, tx, n, ty, s4, s5, s6⟩ := d
  clear hright hrr hv hF hr
  go_enter Tryz.func11, Tryz.ntmps11
  go_wp2_with fail
  refine HR.out.mono ?_
  rintro e w1 ⟨rfl, hb1⟩
  have HB1 := Lib.hid (HB.out.trans (hb1.mono HB.out.size))
  clear hb1
  go_wp2
  go_ret2
  exact ⟨rfl, HB1.out⟩
structure FunOk (E : Tr → Bs) (S : Nat → Tr → Bs) (t : Tr) : Prop where
  pos : 0 < t.kids.length
  blk : WritesS 28 (fun k => blockX S k (kid (t.kids.length - 1) t.kids)) (kid (t.kids.length - 1) t.kids)
theorem fun_ok (F : Nat) (t : Tr) (ht : size t ≤ F) (hF : Fit t) (h : funT F t = true) : FunOk (exprT F) (stmtT (exprT F) F) t := by
  unfold funT funcB at h
  simp only [Bool.and_eq_true, decide_eq_true_eq] at h
  obtain ⟨_, _, hpos, _, _, hb, _⟩ := h
  have hl : t.kids.length - 1 < t.kids.length := by omega
  have hs := size_in t hl
  exact ⟨hpos, block_writes _ _ (fit_in hF hl) (lines_ok F F (stmt_writes F F) _ (by omega) (by omega) (fit_in hF hl) hb)⟩
abbrev wrW (w : World) : World := w.alloc (.cells #[.pointer none, .slice none 0 0, .int .i64 0] 50)
theorem wr_new (w : World) (hP : Twq.Pow w) : Ws w.heap.size w.heap.size [] 0 (wrW w) ∧ (wrW w).cell? ⟨w.heap.size, 1, none⟩ = some (.slice none 0 0) ∧ Below w.heap.size w (wrW w) := by
  have hb := heap_alloc_new w (.cells #[.pointer none, .slice none 0 0, .int .i64 0] 50)
  have hB : Below w.heap.size w (wrW w) := (Below.refl _ w).alloc (Nat.le_refl _) _
  refine ⟨⟨.inl ⟨Nat.le_refl _, .slice none 0 0, hb, World.ownsRowF_nil _ _ _ _, by simp [Value.ownBlock]⟩, pow_below hP.size hP.pow hB, hP.size⟩, by rw [Lib.cell_of_heap hb]; rfl, hB⟩
set_option maxHeartbeats 16000000 in
set_option maxRecDepth 100000 in
theorem text_yes (t : Tr) (hF : Fit t) (hz : size t ≤ 1000000000) (hr : rightT t = 0) (hlen : (textT t).length ≤ most) (S0 : Nat → Prop) (v : Value) (w : World) (hP : Twq.Pow w) (hv : Lies w S0 t v) :
    Calls Tryz.prog 11 #[v] w fun e w' => e = .returned (.tuple #[.string ⟨(textT t).toArray⟩, .int .i64 0]) ∧ Below w.heap.size w w' := by
  obtain ⟨d, ks⟩ := t
  obtain ⟨a, c, rfl⟩ := hv.shape
  simp only [Tr.d, Tr.kids] at hv ⊢
  have HBW := Lib.hid (box_below w d a ks.length c)
  have hright := right_tree (.mk d ks) hF S0 _ _ (hv.kept (box_below w d a ks.length c))
  rw [hr] at hright
  have HR := Lib.hid hright
  have hok : ∀ j, j < ks.length → FunOk (exprT (size (.mk d ks))) (stmtT (exprT (size (.mk d ks))) (size (.mk d ks))) (kid j ks) := fun j hj =>
    fun_ok _ _ (Nat.le_of_lt (size_in (.mk d ks) hj)) (fit_kid hF hj) (right_zero hr j hj)
  have htx : textT (.mk d ks) = funsTo (exprT (size (.mk d ks))) (stmtT (exprT (size (.mk d ks))) (size (.mk d ks))) ks ks.length := rfl
  obtain ⟨E, hE⟩ : ∃ E, exprT (size (.mk d ks)) = E := ⟨_, rfl⟩
  obtain ⟨S, hS⟩ : ∃ S, stmtT (exprT (size (.mk d ks))) (size (.mk d ks)) = S := ⟨_, rfl⟩
  rw [hS, hE] at htx hok
  rw [htx] at hlen ⊢
  have hkb : ∀ j, j < ks.length → size (kid j ks) ≤ 1000000000 := fun j hj => Nat.le_trans (Nat.le_of_lt (size_in (.mk d ks) hj)) hz
  have hfk : ∀ j, j < ks.length → Fit (kid j ks) := fun j hj => fit_kid hF hj
  have hkl := fit_len hF
  have HOK := Lib.hid hok
  have HLT := Lib.hid hlen
  have HKB := Lib.hid hkb
  have HFK := Lib.hid hfk
  have HV := Lib.hid hv
  have HP := Lib.hid hP
  obtain ⟨bk, btx, bn, bty, b4, b5, b6⟩ := d
  clear hright hr hok htx hE hS hlen hkb hfk hF hz hv hP
  go_enter Tryz.func11, Tryz.ntmps11
  go_wp2_with fail
  refine HR.out.mono ?_
  rintro e w1 ⟨rfl, hb1⟩
  have HN := Lib.hid (box_node HV.out hb1)
  have HB1 := Lib.hid (HBW.out.trans (hb1.mono HBW.out.size))
  have HP1 := Lib.hid (HP.out.below HB1.out)
  clear hb1
  obtain ⟨q1, q2, q3⟩ := wr_new w1 HP1.out
  have HS0 := Lib.hid q1
  have HC0 := Lib.hid q2
  have HB2 := Lib.hid q3
  have HN2 := Lib.hid (HN.out.kept q3)
  clear q1 q2 q3
  obtain ⟨c0, c1, c2, c3, c7⟩ := HN2.out.cells
  simp only [Nat.zero_add] at c1 c2 c3 c7
  go_wp2_with fail
  go_loopw [20] (fun i wr => ∃ j : Nat, j ≤ ks.length ∧ i = .int .i64 j ∧ Hid (Ws w1.heap.size w1.heap.size (funsTo E S ks j) 0 wr) ∧ Hid (Below w1.heap.size (wrW w1) wr) ∧ Hid (j = 0 → wr.cell? ⟨w1.heap.size, 1, none⟩ = some (.slice none 0 0))) (fun i _ => ks.length - (intOf i).toNat)
  case atStart => exact ⟨0, Nat.zero_le _, rfl, HS0.out, Below.refl _ _, fun _ => HC0.out⟩
  case round =>
    obtain ⟨j, hj, rfl, hw, hbw, hcw⟩ := hrel
    obtain ⟨wq, hwq⟩ : ∃ W : World, W = wr := ⟨_, rfl⟩
    subst hwq
    have HNB := Lib.hid (HN2.out.kept hbw.out)
    clear c0 c1 c2 c3 c7
    obtain ⟨b0, b1, b2, b3, b7⟩ := HNB.out.cells
    simp only [Nat.zero_add] at b1 b2 b3 b7
    by_cases hlt : j < ks.length
    · obtain ⟨kb, ko, rfl⟩ := kl_some' HNB.out.kl (by omega)
      have hAT := kl_at HNB.out.kl hlt
      have hok := HOK.out j hlt
      have hfit := HFK.out j hlt
      have hszk := HKB.out j hlt
      have HC := Lib.hid (funsTo_le E S ks hlt)
      have hfx : funsTo E S ks (j + 1) = funsTo E S ks j ++ funX E S (kid j ks) := rfl
      have hkj : ks.getD j tr0 = kid j ks := rfl
      rw [hkj] at hAT
      obtain ⟨t, hkj⟩ : ∃ t, kid j ks = t := ⟨_, rfl⟩
      rw [hkj] at hok hfit hAT hfx hszk
      obtain ⟨d1, nks⟩ := t
      obtain ⟨na, nc, hN⟩ := Nb.start hAT
      have hpos := hok.pos
      have hblk := hok.blk
      have hnl := fit_len hfit
      simp only [Tr.kids] at hpos
      change WritesS _ (fun k => blockX S k (kid (nks.length - 1) nks)) (kid (nks.length - 1) nks) at hblk
      obtain ⟨m, hm⟩ : ∃ m, nks.length = m + 1 := ⟨nks.length - 1, by omega⟩
      have hml : m < nks.length := by omega
      have hm1e : nks.length - 1 = m := by omega
      rw [hm1e] at hblk
      have hus : size (kid m nks) ≤ 1000000000 := Nat.le_trans (Nat.le_of_lt (size_in (.mk d1 nks) hml)) hszk
      obtain ⟨ub, uo, rfl⟩ := kl_some' hN.kl (by omega)
      obtain ⟨PL, hPL⟩ : ∃ PL, nks.take m = PL := ⟨_, rfl⟩
      have hpl : PL.length = m := by rw [← hPL]; simp; omega
      have hpk : ∀ q, q < m → kid q PL = kid q nks := fun q hq => by rw [← hPL]; simp [kid, List.getD_eq_getElem?_getD, hq]
      obtain ⟨nk, tx, nn, ty, s4, s5, s6⟩ := d1
      have HFX : Hid (funsTo E S ks (j + 1) = funsTo E S ks j ++ (([102, 117, 110, 99, 32] ++ tx.data.toList ++ [40]) ++ (comma paramX PL m ++ ([41, 32] ++ ((if ty.toList.isEmpty then [] else ty.data.toList ++ [32]) ++ (blockX S 0 (kid m nks) ++ [10])))))) := by
        show _ = _
        rw [hfx]
        congr 1
        show ([102, 117, 110, 99, 32] ++ tx.data.toList ++ [40]) ++ (commas paramX (nks.take (nks.length - 1)) ++ ([41, 32] ++ ((if ty.toList.isEmpty then [] else ty.data.toList ++ [32]) ++ (blockX S 0 (kid (nks.length - 1) nks) ++ [10])))) = _
        rw [hm1e, hPL]
        unfold commas
        rw [hpl]
      have LEN : Hid ((funsTo E S ks j ++ (([102, 117, 110, 99, 32] ++ tx.data.toList ++ [40]) ++ (comma paramX PL m ++ ([41, 32] ++ ((if ty.toList.isEmpty then [] else ty.data.toList ++ [32]) ++ (blockX S 0 (kid m nks) ++ [10])))))).length ≤ most) := by
        show _ ≤ _
        have h1 := HLT.out
        have h2 := HC.out
        rw [HFX.out] at h2
        omega
      have HBLK := Lib.hid hblk
      have HUS := Lib.hid hus
      have HPK := Lib.hid hpk
      have HM1 := Lib.hid hm
      obtain ⟨L, hL⟩ : ∃ L, nks.length = L := ⟨_, rfl⟩
      have HLL := Lib.hid hL
      have HX := Lib.hid hN
      have HS := hw
      have HB := hbw
      obtain ⟨c0, c1, c2, c3, c7⟩ := HX.out.cells
      rw [hL] at c7
      have hmi : (m : Int) < (L : Int) := by omega
      have hw1 : IntKind.i64.wrap (m : Int) = (m : Int) := IntWalk.i64_in _ (by omega)
      have hsub : (L : Int) - 1 = (m : Int) := by omega
      have hm0 : (0 : Int) ≤ (m : Int) := by omega
      have hmb : m ≤ 1048576 := by omega
      clear hAT hok hfit hszk hfx hkj hN hpos hblk hnl hm hml hm1e hus hpk hpl hPL hL
      go_wp2_with fail
      refine (add3 ⟨#[102, 117, 110, 99, 32]⟩ tx ⟨#[40]⟩ HS.out (by have := LEN.out; simp at this ⊢; omega)).mono ?_
      rintro e x1 ⟨rfl, h1, h2, h3⟩
      have HS := Lib.hid h1
      have HX := Lib.hid (HX.out.kept h2)
      have HB := Lib.hid (HB.out.trans h2)
      clear h1 h2 h3 c0 c1 c2 c3 c7
      obtain ⟨c0, c1, c2, c3, c7⟩ := HX.out.cells
      rw [HLL.out] at c7
      obtain ⟨wo, hwo⟩ : ∃ W, W = x1 := ⟨_, rfl⟩
      rw [← hwo] at HS HX HB c0 c1 c2 c3 c7
      rw [← hwo]
      clear hwo
      go_wp2_with fail
      go_loopw [41] (fun i wr => ∃ q : Nat, q ≤ m ∧ i = .int .i64 q ∧ Hid (Ws w1.heap.size w1.heap.size (funsTo E S ks j ++ ([102, 117, 110, 99, 32] ++ tx.data.toList ++ [40]) ++ comma paramX PL q) 0 wr) ∧ Hid (Below w1.heap.size wo wr)) (fun i _ => m - (intOf i).toNat)
      case atStart => exact ⟨0, Nat.zero_le _, rfl, by show Ws _ _ (_ ++ []) 0 _; rw [List.append_nil]; exact HS.out, Below.refl _ _⟩
      case round =>
        obtain ⟨q, hq, rfl, hwq, hbq⟩ := hrel
        have HXO := HX
        have HX := Lib.hid (HXO.out.kept hbq.out)
        clear c0 c1 c2 c3 c7
        obtain ⟨c0, c1, c2, c3, c7⟩ := HX.out.cells
        rw [HLL.out] at c7
        by_cases hqm : q < m
        · have hqn : q < nks.length := by have := HM1.out; omega
          have HCO := Lib.hid (comma_le paramX PL hqm)
          have hkc := kid_at HX.out hqn
          obtain ⟨_, _, _, p0, p1, p2, p3, _⟩ := hkc.cells
          obtain ⟨pt, hpt⟩ : ∃ x, (kid q nks).d.text = x := ⟨_, rfl⟩
          obtain ⟨py, hpy⟩ : ∃ x, (kid q nks).d.ty = x := ⟨_, rfl⟩
          have HCS : Hid (comma paramX PL (q + 1) = comma paramX PL q ++ ((if q = 0 then [] else [44, 32]) ++ (pt.data.toList ++ [32] ++ py.data.toList))) := by
            show comma paramX PL q ++ (_ ++ paramX (kid q PL)) = _
            rw [HPK.out q hqm]
            unfold paramX
            rw [hpt, hpy]
          rw [hpt] at p1
          rw [hpy] at p3
          have HKP : Hid (∀ W, Below w1.heap.size wr W → W.cell? ⟨ub, uo + q * 8 + 1, none⟩ = some (.string pt) ∧ W.cell? ⟨ub, uo + q * 8 + 3, none⟩ = some (.string py)) := fun W hb => by
            have hub : ub < w1.heap.size := hkc.1
            exact ⟨(World.cell?_of_block (a := ⟨ub, _, none⟩) (hb.block ub hub)).trans p1, (World.cell?_of_block (a := ⟨ub, _, none⟩) (hb.block ub hub)).trans p3⟩
          have LQ : Hid ((funsTo E S ks j ++ ([102, 117, 110, 99, 32] ++ tx.data.toList ++ [40]) ++ comma paramX PL q ++ ((if q = 0 then [] else [44, 32]) ++ (pt.data.toList ++ [32] ++ py.data.toList))).length ≤ most) := by
            show _ ≤ _
            have h1 := LEN.out
            have h2 := HCO.out
            rw [HCS.out] at h2
            simp only [List.length_append] at h1 h2 ⊢
            omega
          have hqi : (q : Int) < (L : Int) := by have := HM1.out; have := HLL.out; omega
          have hwq1 : IntKind.i64.wrap (q : Int) = (q : Int) := IntWalk.i64_in _ (by omega)
          have hq0 : (0 : Int) ≤ (q : Int) := by omega
          clear hkc p0 p1 p2 p3 hpt hpy
          have HK : Hid (Keeps w1.heap.size wr wr) := Lib.OthersKept.refl _ _ _
          have HBO := Lib.hid hbq.out
          have HS := hwq
          have HB := Lib.hid (Below.refl w1.heap.size wr)
          by_cases z : q = 0
          · have LZ : Hid ((funsTo E S ks j ++ ([102, 117, 110, 99, 32] ++ tx.data.toList ++ [40]) ++ comma paramX PL q ++ (pt.data.toList ++ [32] ++ py.data.toList)).length ≤ most) := by
              show _ ≤ _
              have := LQ.out
              rw [if_pos z] at this; exact this
            have HCZ : Hid (comma paramX PL (q + 1) = comma paramX PL q ++ (pt.data.toList ++ [32] ++ py.data.toList)) := by
              show _ = _
              rw [HCS.out, if_pos z]; rfl
            have f0 : decide ((0 : Int) < (q : Int)) = false := by simp; omega
            have f1 : decide (0 < q) = false := by simp; omega
            clear LQ HCS z
            have HSA : Hid (∀ W, Below w1.heap.size wr W → W.cell? ⟨kb, ko + j * 8 + 7, none⟩ = some (.slice (some ⟨ub, uo, none⟩) L nc) ∧ W.cell? ⟨ub, uo + q * 8 + 1, none⟩ = some (.string pt) ∧ W.cell? ⟨ub, uo + q * 8 + 3, none⟩ = some (.string py)) := fun W hb => by
              have q := HX.out.kept hb
              obtain ⟨_, _, _, _, q7⟩ := q.cells
              rw [HLL.out] at q7
              obtain ⟨r1, r2⟩ := HKP.out W (HB.out.trans hb)
              exact ⟨q7, r1, r2⟩
            go_wp2_with fail
            refine wp_region_held_drew (S := fun W => W.cell? ⟨kb, ko + j * 8 + 7, none⟩ = some (.slice (some ⟨ub, uo, none⟩) L nc) ∧ W.cell? ⟨ub, uo + q * 8 + 1, none⟩ = some (.string pt) ∧ W.cell? ⟨ub, uo + q * 8 + 3, none⟩ = some (.string py)) (by kernel_rfl) (HSA.out _ (Below.refl w1.heap.size wr).drew) (fun hHeld => ?_)
            change wpAnyH _ _ _ _ _ 19 #[false, false, false, false, false, false, false, false, false, false, false, false, false, false, false, false, false, false, false] _ _
            refine wpAnyH_take (i := 0) (v := ?_) rfl (by kernel_rfl) (by kernel_rfl) (by kernel_rfl) (fun _ _ _ h => h) (Or.inl ⟨by rfl, ?_⟩) hHeld ?_
            rotate_left
            · intro w hSw
              try dsimp only at hSw
              go_simp
              with_reducible rfl
            try dsimp only [Act.put, List.getElem_toArray, List.getElem_cons_zero, List.getElem_cons_succ]
            try simp only [List.setIfInBounds_toArray, List.set_cons_zero, List.set_cons_succ]
            refine wpAnyH_take (i := 1) (v := ?_) rfl (by kernel_rfl) (by kernel_rfl) (by kernel_rfl) (fun _ _ _ h => h) (Or.inl ⟨by rfl, ?_⟩) hHeld ?_
            rotate_left
            · intro w hSw
              try dsimp only at hSw
              go_simp
              with_reducible rfl
            try dsimp only [Act.put, List.getElem_toArray, List.getElem_cons_zero, List.getElem_cons_succ]
            try simp only [List.setIfInBounds_toArray, List.set_cons_zero, List.set_cons_succ]
            refine wpAnyH_take (i := 2) (v := ?_) rfl (by kernel_rfl) (by kernel_rfl) (by kernel_rfl) (fun _ _ _ h => h) (Or.inl ⟨by rfl, ?_⟩) hHeld ?_
            rotate_left
            · intro w hSw
              try dsimp only at hSw
              go_simp
              with_reducible rfl
            try dsimp only [Act.put, List.getElem_toArray, List.getElem_cons_zero, List.getElem_cons_succ]
            try simp only [List.setIfInBounds_toArray, List.set_cons_zero, List.set_cons_succ]
            refine wpAnyH_take (i := 3) (v := ?_) rfl (by kernel_rfl) (by kernel_rfl) (by kernel_rfl) (fun _ _ _ h => h) (Or.inl ⟨by rfl, ?_⟩) hHeld ?_
            rotate_left
            · intro w hSw
              try dsimp only at hSw
              go_simp
              with_reducible rfl
            try dsimp only [Act.put, List.getElem_toArray, List.getElem_cons_zero, List.getElem_cons_succ]
            try simp only [List.setIfInBounds_toArray, List.set_cons_zero, List.set_cons_succ]
            refine wpAnyH_take (i := 4) (v := ?_) rfl (by kernel_rfl) (by kernel_rfl) (by kernel_rfl) (fun _ _ _ h => h) (Or.inl ⟨by rfl, ?_⟩) hHeld ?_
            rotate_left
            · intro w hSw
              try dsimp only at hSw
              go_simp
              with_reducible rfl
            try dsimp only [Act.put, List.getElem_toArray, List.getElem_cons_zero, List.getElem_cons_succ]
            try simp only [List.setIfInBounds_toArray, List.set_cons_zero, List.set_cons_succ]
            refine wpAnyH_take (i := 5) (v := ?_) rfl (by kernel_rfl) (by kernel_rfl) (by kernel_rfl) (fun _ _ _ h => h) (Or.inl ⟨by rfl, ?_⟩) hHeld ?_
            rotate_left
            · intro w hSw
              try dsimp only at hSw
              go_simp
              with_reducible rfl
            try dsimp only [Act.put, List.getElem_toArray, List.getElem_cons_zero, List.getElem_cons_succ]
            try simp only [List.setIfInBounds_toArray, List.set_cons_zero, List.set_cons_succ]
            refine wpAnyH_take (i := 6) (v := ?_) rfl (by kernel_rfl) (by kernel_rfl) (by kernel_rfl) (fun _ _ _ h => h) (Or.inl ⟨by rfl, ?_⟩) hHeld ?_
            rotate_left
            · intro w hSw
              try dsimp only at hSw
              go_simp
              with_reducible rfl
            try dsimp only [Act.put, List.getElem_toArray, List.getElem_cons_zero, List.getElem_cons_succ]
            try simp only [List.setIfInBounds_toArray, List.set_cons_zero, List.set_cons_succ]
            refine wpAnyH_take (i := 7) (v := ?_) rfl (by kernel_rfl) (by kernel_rfl) (by kernel_rfl) (fun _ _ _ h => h) (Or.inl ⟨by rfl, ?_⟩) hHeld ?_
            rotate_left
            · intro w hSw
              try dsimp only at hSw
              go_simp
              with_reducible rfl
            try dsimp only [Act.put, List.getElem_toArray, List.getElem_cons_zero, List.getElem_cons_succ]
            try simp only [List.setIfInBounds_toArray, List.set_cons_zero, List.set_cons_succ]
            refine wpAnyH_take (i := 8) (v := ?_) rfl (by kernel_rfl) (by kernel_rfl) (by kernel_rfl) (fun _ _ _ h => h) (Or.inl ⟨by rfl, ?_⟩) hHeld ?_
            rotate_left
            · intro w hSw
              try dsimp only at hSw
              go_simp
              with_reducible rfl
            try dsimp only [Act.put, List.getElem_toArray, List.getElem_cons_zero, List.getElem_cons_succ]
            try simp only [List.setIfInBounds_toArray, List.set_cons_zero, List.set_cons_succ]
            refine wpAnyH_take (i := 9) (v := ?_) rfl (by kernel_rfl) (by kernel_rfl) (by kernel_rfl) (fun _ _ _ h => h) (Or.inl ⟨by rfl, ?_⟩) hHeld ?_
            rotate_left
            · intro w hSw
              try dsimp only at hSw
              go_simp
              with_reducible rfl
            try dsimp only [Act.put, List.getElem_toArray, List.getElem_cons_zero, List.getElem_cons_succ]
            try simp only [List.setIfInBounds_toArray, List.set_cons_zero, List.set_cons_succ]
            refine wpAnyH_take (i := 10) (v := ?_) rfl (by kernel_rfl) (by kernel_rfl) (by kernel_rfl) (fun _ _ _ h => h) (Or.inl ⟨by rfl, ?_⟩) hHeld ?_
            rotate_left
            · intro w hSw
              try dsimp only at hSw
              go_simp
              with_reducible rfl
            try dsimp only [Act.put, List.getElem_toArray, List.getElem_cons_zero, List.getElem_cons_succ]
            try simp only [List.setIfInBounds_toArray, List.set_cons_zero, List.set_cons_succ]
            refine wpAnyH_take (i := 11) (v := ?_) rfl (by kernel_rfl) (by kernel_rfl) (by kernel_rfl) (fun _ _ _ h => h) (Or.inl ⟨by rfl, ?_⟩) hHeld ?_
            rotate_left
            · intro w hSw
              try dsimp only at hSw
              go_simp
              with_reducible rfl
            try dsimp only [Act.put, List.getElem_toArray, List.getElem_cons_zero, List.getElem_cons_succ]
            try simp only [List.setIfInBounds_toArray, List.set_cons_zero, List.set_cons_succ]
            refine wpAnyH_take (i := 12) (v := ?_) rfl (by kernel_rfl) (by kernel_rfl) (by kernel_rfl) (fun _ _ _ h => h) (Or.inl ⟨by rfl, ?_⟩) hHeld ?_
            rotate_left
            · intro w hSw
              try dsimp only at hSw
              go_simp
              with_reducible rfl
            try dsimp only [Act.put, List.getElem_toArray, List.getElem_cons_zero, List.getElem_cons_succ]
            try simp only [List.setIfInBounds_toArray, List.set_cons_zero, List.set_cons_succ]
            refine wpAnyH_take (i := 13) (v := ?_) rfl (by kernel_rfl) (by kernel_rfl) (by kernel_rfl) (fun _ _ _ h => h) (Or.inl ⟨by rfl, ?_⟩) hHeld ?_
            rotate_left
            · intro w hSw
              try dsimp only at hSw
              go_simp
              with_reducible rfl
            try dsimp only [Act.put, List.getElem_toArray, List.getElem_cons_zero, List.getElem_cons_succ]
            try simp only [List.setIfInBounds_toArray, List.set_cons_zero, List.set_cons_succ]
            refine wpAnyH_take (i := 14) (v := ?_) rfl (by kernel_rfl) (by kernel_rfl) (by kernel_rfl) (fun _ _ _ h => h) (Or.inl ⟨by rfl, ?_⟩) hHeld ?_
            rotate_left
            · intro w hSw
              try dsimp only at hSw
              go_simp
              with_reducible rfl
            try dsimp only [Act.put, List.getElem_toArray, List.getElem_cons_zero, List.getElem_cons_succ]
            try simp only [List.setIfInBounds_toArray, List.set_cons_zero, List.set_cons_succ]
            refine wpAnyH_take (i := 15) (v := ?_) rfl (by kernel_rfl) (by kernel_rfl) (by kernel_rfl) (fun _ _ _ h => h) (Or.inl ⟨by rfl, ?_⟩) hHeld ?_
            rotate_left
            · intro w hSw
              try dsimp only at hSw
              go_simp
              with_reducible rfl
            try dsimp only [Act.put, List.getElem_toArray, List.getElem_cons_zero, List.getElem_cons_succ]
            try simp only [List.setIfInBounds_toArray, List.set_cons_zero, List.set_cons_succ]
            refine wpAnyH_take (i := 16) (v := ?_) rfl (by kernel_rfl) (by kernel_rfl) (by kernel_rfl) (fun _ _ _ h => h) (Or.inl ⟨by rfl, ?_⟩) hHeld ?_
            rotate_left
            · intro w hSw
              try dsimp only at hSw
              go_simp
              with_reducible rfl
            try dsimp only [Act.put, List.getElem_toArray, List.getElem_cons_zero, List.getElem_cons_succ]
            try simp only [List.setIfInBounds_toArray, List.set_cons_zero, List.set_cons_succ]
            have hd := (Below.refl wr.heap.size wr).drew
            have hd2 := (Below.refl w1.heap.size wr).drew
            have HB := Lib.hid (HB.out.trans hd2)
            have HK : Hid (Keeps w1.heap.size wr wr.drew) := HK.out.trans (keeps_below hd)
            have HX := Lib.hid (HX.out.kept hd2)
            have HS := Lib.hid (HS.out.kept hd)
            have HSA : Hid (∀ W, Below w1.heap.size wr.drew W → W.cell? ⟨kb, ko + j * 8 + 7, none⟩ = some (.slice (some ⟨ub, uo, none⟩) L nc) ∧ W.cell? ⟨ub, uo + q * 8 + 1, none⟩ = some (.string pt) ∧ W.cell? ⟨ub, uo + q * 8 + 3, none⟩ = some (.string py)) := fun W hb => HSA.out W (hd2.trans hb)
            obtain ⟨wd41, hwd⟩ : ∃ W, W = wr.drew := ⟨_, rfl⟩
            rw [← hwd] at HB HK HX HS HSA hHeld
            rw [← hwd]
            clear hd hd2 hwd c0 c1 c2 c3 c7 
            refine wpAnyH_ready (rs := [17]) (by kernel_rfl) (by simp) ?_
            refine AllReadyH.cons rfl (fun K hKK => ?_) AllReadyH.nil
            go_simp
            refine hKK.out _ _ (HSA.out _ ((Below.refl w1.heap.size wd41).alloc HS.out.hB _)) (fun hHeld => ?_)
            clear hKK K
            try dsimp only [Act.put, List.getElem_toArray, List.getElem_cons_zero, List.getElem_cons_succ]
            try simp only [List.setIfInBounds_toArray, List.set_cons_zero, List.set_cons_succ]
            refine wpAnyH_ready (rs := [18]) (by kernel_rfl) (by simp) ?_
            refine AllReadyH.cons rfl (fun K hKK => ?_) AllReadyH.nil
            go_simp
            go_at_call 27
            refine (add3 pt ⟨#[32]⟩ py HS.out (by have := LZ.out; simp at this ⊢; omega)).mono ?_
            rintro e w41 ⟨rfl, h1, h2, h3⟩
            refine hKK.out _ _ (HSA.out _ h2) (fun hHeld => ?_)
            clear hKK K hHeld
            try dsimp only [Act.put, List.getElem_toArray, List.getElem_cons_zero, List.getElem_cons_succ]
            try simp only [List.setIfInBounds_toArray, List.set_cons_zero, List.set_cons_succ]
            have HS := Lib.hid h1
            have HX := Lib.hid (HX.out.kept h2)
            have HB := Lib.hid (HB.out.trans h2)
            have HK : Hid (Keeps w1.heap.size wr w41) := HK.out.trans h3
            clear h1 h2 h3 HSA
            obtain ⟨c0, c1, c2, c3, c7⟩ := HX.out.cells
            rw [HLL.out] at c7
            refine wpAnyH_done (by kernel_rfl) ?_ _
            have H1 : Hid (Ws w1.heap.size w1.heap.size (funsTo E S ks j ++ ([102, 117, 110, 99, 32] ++ tx.data.toList ++ [40]) ++ comma paramX PL (q + 1)) 0 w41) := by
              show Ws _ _ _ 0 _
              rw [HCZ.out]
              have := HS.out
              simpa using this
            have HBN := Lib.hid (HBO.out.trans HB.out)
            go_wp2
            go_roundw
            case rel => exact ⟨q + 1, by omega, by go_num, H1, HBN⟩
            case measure => simp [intOf]; omega
          · have f0 : decide ((0 : Int) < (q : Int)) = true := by simp; omega
            have f1 : decide (0 < q) = true := by simp; omega
            have LZ : Hid ((funsTo E S ks j ++ ([102, 117, 110, 99, 32] ++ tx.data.toList ++ [40]) ++ comma paramX PL q ++ ([44, 32] ++ (pt.data.toList ++ [32] ++ py.data.toList))).length ≤ most) := by
              show _ ≤ _
              have := LQ.out
              rw [if_neg z] at this; exact this
            have HCZ : Hid (comma paramX PL (q + 1) = comma paramX PL q ++ ([44, 32] ++ (pt.data.toList ++ [32] ++ py.data.toList))) := by
              show _ = _
              rw [HCS.out, if_neg z]
            clear LQ HCS z
            go_wp2_with fail
            refine (add1 ⟨#[44, 32]⟩ HS.out (by have := LZ.out; simp at this ⊢; omega)).mono ?_
            rintro e y1 ⟨rfl, h1, h2, h3⟩
            have HS := Lib.hid h1
            have HX := Lib.hid (HX.out.kept h2)
            have HB := Lib.hid (HB.out.trans h2)
            have HK : Hid (Keeps w1.heap.size wr y1) := HK.out.trans h3
            clear h1 h2 h3 c0 c1 c2 c3 c7
            obtain ⟨c0, c1, c2, c3, c7⟩ := HX.out.cells
            rw [HLL.out] at c7
            have HSA : Hid (∀ W, Below w1.heap.size y1 W → W.cell? ⟨kb, ko + j * 8 + 7, none⟩ = some (.slice (some ⟨ub, uo, none⟩) L nc) ∧ W.cell? ⟨ub, uo + q * 8 + 1, none⟩ = some (.string pt) ∧ W.cell? ⟨ub, uo + q * 8 + 3, none⟩ = some (.string py)) := fun W hb => by
              have q := HX.out.kept hb
              obtain ⟨_, _, _, _, q7⟩ := q.cells
              rw [HLL.out] at q7
              obtain ⟨r1, r2⟩ := HKP.out W (HB.out.trans hb)
              exact ⟨q7, r1, r2⟩
            go_wp2_with fail
            refine wp_region_held_drew (S := fun W => W.cell? ⟨kb, ko + j * 8 + 7, none⟩ = some (.slice (some ⟨ub, uo, none⟩) L nc) ∧ W.cell? ⟨ub, uo + q * 8 + 1, none⟩ = some (.string pt) ∧ W.cell? ⟨ub, uo + q * 8 + 3, none⟩ = some (.string py)) (by kernel_rfl) (HSA.out _ (Below.refl w1.heap.size y1).drew) (fun hHeld => ?_)
            change wpAnyH _ _ _ _ _ 19 #[false, false, false, false, false, false, false, false, false, false, false, false, false, false, false, false, false, false, false] _ _
            refine wpAnyH_take (i := 0) (v := ?_) rfl (by kernel_rfl) (by kernel_rfl) (by kernel_rfl) (fun _ _ _ h => h) (Or.inl ⟨by rfl, ?_⟩) hHeld ?_
            rotate_left
            · intro w hSw
              try dsimp only at hSw
              go_simp
              with_reducible rfl
            try dsimp only [Act.put, List.getElem_toArray, List.getElem_cons_zero, List.getElem_cons_succ]
            try simp only [List.setIfInBounds_toArray, List.set_cons_zero, List.set_cons_succ]
            refine wpAnyH_take (i := 1) (v := ?_) rfl (by kernel_rfl) (by kernel_rfl) (by kernel_rfl) (fun _ _ _ h => h) (Or.inl ⟨by rfl, ?_⟩) hHeld ?_
            rotate_left
            · intro w hSw
              try dsimp only at hSw
              go_simp
              with_reducible rfl
            try dsimp only [Act.put, List.getElem_toArray, List.getElem_cons_zero, List.getElem_cons_succ]
            try simp only [List.setIfInBounds_toArray, List.set_cons_zero, List.set_cons_succ]
            refine wpAnyH_take (i := 2) (v := ?_) rfl (by kernel_rfl) (by kernel_rfl) (by kernel_rfl) (fun _ _ _ h => h) (Or.inl ⟨by rfl, ?_⟩) hHeld ?_
            rotate_left
            · intro w hSw
              try dsimp only at hSw
              go_simp
              with_reducible rfl
            try dsimp only [Act.put, List.getElem_toArray, List.getElem_cons_zero, List.getElem_cons_succ]
            try simp only [List.setIfInBounds_toArray, List.set_cons_zero, List.set_cons_succ]
            refine wpAnyH_take (i := 3) (v := ?_) rfl (by kernel_rfl) (by kernel_rfl) (by kernel_rfl) (fun _ _ _ h => h) (Or.inl ⟨by rfl, ?_⟩) hHeld ?_
            rotate_left
            · intro w hSw
              try dsimp only at hSw
              go_simp
              with_reducible rfl
            try dsimp only [Act.put, List.getElem_toArray, List.getElem_cons_zero, List.getElem_cons_succ]
            try simp only [List.setIfInBounds_toArray, List.set_cons_zero, List.set_cons_succ]
            refine wpAnyH_take (i := 4) (v := ?_) rfl (by kernel_rfl) (by kernel_rfl) (by kernel_rfl) (fun _ _ _ h => h) (Or.inl ⟨by rfl, ?_⟩) hHeld ?_
            rotate_left
            · intro w hSw
              try dsimp only at hSw
              go_simp
              with_reducible rfl
            try dsimp only [Act.put, List.getElem_toArray, List.getElem_cons_zero, List.getElem_cons_succ]
            try simp only [List.setIfInBounds_toArray, List.set_cons_zero, List.set_cons_succ]
            refine wpAnyH_take (i := 5) (v := ?_) rfl (by kernel_rfl) (by kernel_rfl) (by kernel_rfl) (fun _ _ _ h => h) (Or.inl ⟨by rfl, ?_⟩) hHeld ?_
            rotate_left
            · intro w hSw
              try dsimp only at hSw
              go_simp
              with_reducible rfl
            try dsimp only [Act.put, List.getElem_toArray, List.getElem_cons_zero, List.getElem_cons_succ]
            try simp only [List.setIfInBounds_toArray, List.set_cons_zero, List.set_cons_succ]
            refine wpAnyH_take (i := 6) (v := ?_) rfl (by kernel_rfl) (by kernel_rfl) (by kernel_rfl) (fun _ _ _ h => h) (Or.inl ⟨by rfl, ?_⟩) hHeld ?_
            rotate_left
            · intro w hSw
              try dsimp only at hSw
              go_simp
              with_reducible rfl
            try dsimp only [Act.put, List.getElem_toArray, List.getElem_cons_zero, List.getElem_cons_succ]
            try simp only [List.setIfInBounds_toArray, List.set_cons_zero, List.set_cons_succ]
            refine wpAnyH_take (i := 7) (v := ?_) rfl (by kernel_rfl) (by kernel_rfl) (by kernel_rfl) (fun _ _ _ h => h) (Or.inl ⟨by rfl, ?_⟩) hHeld ?_
            rotate_left
            · intro w hSw
              try dsimp only at hSw
              go_simp
              with_reducible rfl
            try dsimp only [Act.put, List.getElem_toArray, List.getElem_cons_zero, List.getElem_cons_succ]
            try simp only [List.setIfInBounds_toArray, List.set_cons_zero, List.set_cons_succ]
            refine wpAnyH_take (i := 8) (v := ?_) rfl (by kernel_rfl) (by kernel_rfl) (by kernel_rfl) (fun _ _ _ h => h) (Or.inl ⟨by rfl, ?_⟩) hHeld ?_
            rotate_left
            · intro w hSw
              try dsimp only at hSw
              go_simp
              with_reducible rfl
            try dsimp only [Act.put, List.getElem_toArray, List.getElem_cons_zero, List.getElem_cons_succ]
            try simp only [List.setIfInBounds_toArray, List.set_cons_zero, List.set_cons_succ]
            refine wpAnyH_take (i := 9) (v := ?_) rfl (by kernel_rfl) (by kernel_rfl) (by kernel_rfl) (fun _ _ _ h => h) (Or.inl ⟨by rfl, ?_⟩) hHeld ?_
            rotate_left
            · intro w hSw
              try dsimp only at hSw
              go_simp
              with_reducible rfl
            try dsimp only [Act.put, List.getElem_toArray, List.getElem_cons_zero, List.getElem_cons_succ]
            try simp only [List.setIfInBounds_toArray, List.set_cons_zero, List.set_cons_succ]
            refine wpAnyH_take (i := 10) (v := ?_) rfl (by kernel_rfl) (by kernel_rfl) (by kernel_rfl) (fun _ _ _ h => h) (Or.inl ⟨by rfl, ?_⟩) hHeld ?_
            rotate_left
            · intro w hSw
              try dsimp only at hSw
              go_simp
              with_reducible rfl
            try dsimp only [Act.put, List.getElem_toArray, List.getElem_cons_zero, List.getElem_cons_succ]
            try simp only [List.setIfInBounds_toArray, List.set_cons_zero, List.set_cons_succ]
            refine wpAnyH_take (i := 11) (v := ?_) rfl (by kernel_rfl) (by kernel_rfl) (by kernel_rfl) (fun _ _ _ h => h) (Or.inl ⟨by rfl, ?_⟩) hHeld ?_
            rotate_left
            · intro w hSw
              try dsimp only at hSw
              go_simp
              with_reducible rfl
            try dsimp only [Act.put, List.getElem_toArray, List.getElem_cons_zero, List.getElem_cons_succ]
            try simp only [List.setIfInBounds_toArray, List.set_cons_zero, List.set_cons_succ]
            refine wpAnyH_take (i := 12) (v := ?_) rfl (by kernel_rfl) (by kernel_rfl) (by kernel_rfl) (fun _ _ _ h => h) (Or.inl ⟨by rfl, ?_⟩) hHeld ?_
            rotate_left
            · intro w hSw
              try dsimp only at hSw
              go_simp
              with_reducible rfl
            try dsimp only [Act.put, List.getElem_toArray, List.getElem_cons_zero, List.getElem_cons_succ]
            try simp only [List.setIfInBounds_toArray, List.set_cons_zero, List.set_cons_succ]
            refine wpAnyH_take (i := 13) (v := ?_) rfl (by kernel_rfl) (by kernel_rfl) (by kernel_rfl) (fun _ _ _ h => h) (Or.inl ⟨by rfl, ?_⟩) hHeld ?_
            rotate_left
            · intro w hSw
              try dsimp only at hSw
              go_simp
              with_reducible rfl
            try dsimp only [Act.put, List.getElem_toArray, List.getElem_cons_zero, List.getElem_cons_succ]
            try simp only [List.setIfInBounds_toArray, List.set_cons_zero, List.set_cons_succ]
            refine wpAnyH_take (i := 14) (v := ?_) rfl (by kernel_rfl) (by kernel_rfl) (by kernel_rfl) (fun _ _ _ h => h) (Or.inl ⟨by rfl, ?_⟩) hHeld ?_
            rotate_left
            · intro w hSw
              try dsimp only at hSw
              go_simp
              with_reducible rfl
            try dsimp only [Act.put, List.getElem_toArray, List.getElem_cons_zero, List.getElem_cons_succ]
            try simp only [List.setIfInBounds_toArray, List.set_cons_zero, List.set_cons_succ]
            refine wpAnyH_take (i := 15) (v := ?_) rfl (by kernel_rfl) (by kernel_rfl) (by kernel_rfl) (fun _ _ _ h => h) (Or.inl ⟨by rfl, ?_⟩) hHeld ?_
            rotate_left
            · intro w hSw
              try dsimp only at hSw
              go_simp
              with_reducible rfl
            try dsimp only [Act.put, List.getElem_toArray, List.getElem_cons_zero, List.getElem_cons_succ]
            try simp only [List.setIfInBounds_toArray, List.set_cons_zero, List.set_cons_succ]
            refine wpAnyH_take (i := 16) (v := ?_) rfl (by kernel_rfl) (by kernel_rfl) (by kernel_rfl) (fun _ _ _ h => h) (Or.inl ⟨by rfl, ?_⟩) hHeld ?_
            rotate_left
            · intro w hSw
              try dsimp only at hSw
              go_simp
              with_reducible rfl
            try dsimp only [Act.put, List.getElem_toArray, List.getElem_cons_zero, List.getElem_cons_succ]
            try simp only [List.setIfInBounds_toArray, List.set_cons_zero, List.set_cons_succ]
            have hd := (Below.refl y1.heap.size y1).drew
            have hd2 := (Below.refl w1.heap.size y1).drew
            have HB := Lib.hid (HB.out.trans hd2)
            have HK : Hid (Keeps w1.heap.size wr y1.drew) := HK.out.trans (keeps_below hd)
            have HX := Lib.hid (HX.out.kept hd2)
            have HS := Lib.hid (HS.out.kept hd)
            have HSA : Hid (∀ W, Below w1.heap.size y1.drew W → W.cell? ⟨kb, ko + j * 8 + 7, none⟩ = some (.slice (some ⟨ub, uo, none⟩) L nc) ∧ W.cell? ⟨ub, uo + q * 8 + 1, none⟩ = some (.string pt) ∧ W.cell? ⟨ub, uo + q * 8 + 3, none⟩ = some (.string py)) := fun W hb => HSA.out W (hd2.trans hb)
            obtain ⟨wd61, hwd⟩ : ∃ W, W = y1.drew := ⟨_, rfl⟩
            rw [← hwd] at HB HK HX HS HSA hHeld
            rw [← hwd]
            clear hd hd2 hwd c0 c1 c2 c3 c7 
            refine wpAnyH_ready (rs := [17]) (by kernel_rfl) (by simp) ?_
            refine AllReadyH.cons rfl (fun K hKK => ?_) AllReadyH.nil
            go_simp
            refine hKK.out _ _ (HSA.out _ ((Below.refl w1.heap.size wd61).alloc HS.out.hB _)) (fun hHeld => ?_)
            clear hKK K
            try dsimp only [Act.put, List.getElem_toArray, List.getElem_cons_zero, List.getElem_cons_succ]
            try simp only [List.setIfInBounds_toArray, List.set_cons_zero, List.set_cons_succ]
            refine wpAnyH_ready (rs := [18]) (by kernel_rfl) (by simp) ?_
            refine AllReadyH.cons rfl (fun K hKK => ?_) AllReadyH.nil
            go_simp
            go_at_call 27
            refine (add3 pt ⟨#[32]⟩ py HS.out (by have := LZ.out; simp at this ⊢; omega)).mono ?_
            rintro e w61 ⟨rfl, h1, h2, h3⟩
            refine hKK.out _ _ (HSA.out _ h2) (fun hHeld => ?_)
            clear hKK K hHeld
            try dsimp only [Act.put, List.getElem_toArray, List.getElem_cons_zero, List.getElem_cons_succ]
            try simp only [List.setIfInBounds_toArray, List.set_cons_zero, List.set_cons_succ]
            have HS := Lib.hid h1
            have HX := Lib.hid (HX.out.kept h2)
            have HB := Lib.hid (HB.out.trans h2)
            have HK : Hid (Keeps w1.heap.size wr w61) := HK.out.trans h3
            clear h1 h2 h3 HSA
            obtain ⟨c0, c1, c2, c3, c7⟩ := HX.out.cells
            rw [HLL.out] at c7
            refine wpAnyH_done (by kernel_rfl) ?_ _
            have H1 : Hid (Ws w1.heap.size w1.heap.size (funsTo E S ks j ++ ([102, 117, 110, 99, 32] ++ tx.data.toList ++ [40]) ++ comma paramX PL (q + 1)) 0 w61) := by
              show Ws _ _ _ 0 _
              rw [HCZ.out]
              have := HS.out
              simpa using this
            have HBN := Lib.hid (HBO.out.trans HB.out)
            go_wp2
            go_roundw
            case rel => exact ⟨q + 1, by omega, by go_num, H1, HBN⟩
            case measure => simp [intOf]; omega
        · obtain rfl : q = m := by omega
          have HS := hwq
          have HB := Lib.hid (HB.out.trans hbq.out)
          clear hbq
          go_wp2_with fail
          refine (add1 ⟨#[41, 32]⟩ HS.out (by have := LEN.out; simp at this ⊢; omega)).mono ?_
          rintro e x2 ⟨rfl, h1, h2, h3⟩
          have HS := Lib.hid h1
          have HX := Lib.hid (HX.out.kept h2)
          have HB := Lib.hid (HB.out.trans h2)
          clear h1 h2 h3 c0 c1 c2 c3 c7
          obtain ⟨c0, c1, c2, c3, c7⟩ := HX.out.cells
          rw [HLL.out] at c7
          cases he : ty.toList.isEmpty
          · have HTY : Hid ((if ty.toList.isEmpty then [] else ty.data.toList ++ [32] : Bs) = ty.data.toList ++ [32]) := by show _ = _; rw [he]; rfl
            go_wp2_with fail
            refine (add2 ty ⟨#[32]⟩ HS.out (by have := LEN.out; rw [HTY.out] at this; simp at this ⊢; omega)).mono ?_
            rintro e x3 ⟨rfl, h1, h2, h3⟩
            have HS := Lib.hid h1
            have HX := Lib.hid (HX.out.kept h2)
            have HB := Lib.hid (HB.out.trans h2)
            clear h1 h2 h3 c0 c1 c2 c3 c7
            obtain ⟨c0, c1, c2, c3, c7⟩ := HX.out.cells
            rw [HLL.out] at c7
            go_wp2_with fail
            refine (HBLK.out w1.heap.size w1.heap.size 0 _ _ _ _ HS.out (by have := HUS.out; omega) (kid_at HX.out (by have := HM1.out; omega)) (by have := LEN.out; rw [HTY.out] at this; simp at this ⊢; omega)).mono ?_
            rintro e x4 ⟨rfl, h1, h2, h3⟩
            have HS := Lib.hid h1
            have HX := Lib.hid (HX.out.kept h2)
            have HB := Lib.hid (HB.out.trans h2)
            clear h1 h2 h3 c0 c1 c2 c3 c7
            obtain ⟨c0, c1, c2, c3, c7⟩ := HX.out.cells
            rw [HLL.out] at c7
            go_wp2_with fail
            refine (add1 ⟨#[10]⟩ HS.out (by have := LEN.out; rw [HTY.out] at this; simp at this ⊢; omega)).mono ?_
            rintro e x5 ⟨rfl, h1, h2, h3⟩
            have HS := Lib.hid h1
            have HX := Lib.hid (HX.out.kept h2)
            have HB := Lib.hid (HB.out.trans h2)
            clear h1 h2 h3 c0 c1 c2 c3 c7
            obtain ⟨c0, c1, c2, c3, c7⟩ := HX.out.cells
            rw [HLL.out] at c7
            have H1 : Hid (Ws w1.heap.size w1.heap.size (funsTo E S ks (j + 1)) 0 x5) := by
              show Ws _ _ _ 0 _
              rw [HFX.out, HTY.out]
              have := HS.out
              simpa using this
            go_wp2
            go_roundw
            case rel => exact ⟨j + 1, by omega, by go_num, H1, HB, fun h => absurd h (by omega)⟩
            case measure => simp [intOf]; omega
          · have HTY : Hid ((if ty.toList.isEmpty then [] else ty.data.toList ++ [32] : Bs) = []) := by show _ = _; rw [he]; rfl
            go_wp2_with fail
            refine (HBLK.out w1.heap.size w1.heap.size 0 _ _ _ _ HS.out (by have := HUS.out; omega) (kid_at HX.out (by have := HM1.out; omega)) (by have := LEN.out; rw [HTY.out] at this; simp at this ⊢; omega)).mono ?_
            rintro e x6 ⟨rfl, h1, h2, h3⟩
            have HS := Lib.hid h1
            have HX := Lib.hid (HX.out.kept h2)
            have HB := Lib.hid (HB.out.trans h2)
            clear h1 h2 h3 c0 c1 c2 c3 c7
            obtain ⟨c0, c1, c2, c3, c7⟩ := HX.out.cells
            rw [HLL.out] at c7
            go_wp2_with fail
            refine (add1 ⟨#[10]⟩ HS.out (by have := LEN.out; rw [HTY.out] at this; simp at this ⊢; omega)).mono ?_
            rintro e x7 ⟨rfl, h1, h2, h3⟩
            have HS := Lib.hid h1
            have HX := Lib.hid (HX.out.kept h2)
            have HB := Lib.hid (HB.out.trans h2)
            clear h1 h2 h3 c0 c1 c2 c3 c7
            obtain ⟨c0, c1, c2, c3, c7⟩ := HX.out.cells
            rw [HLL.out] at c7
            have H1 : Hid (Ws w1.heap.size w1.heap.size (funsTo E S ks (j + 1)) 0 x7) := by
              show Ws _ _ _ 0 _
              rw [HFX.out, HTY.out]
              have := HS.out
              simpa using this
            go_wp2
            go_roundw
            case rel => exact ⟨j + 1, by omega, by go_num, H1, HB, fun h => absurd h (by omega)⟩
            case measure => simp [intOf]; omega
    · obtain rfl : j = ks.length := by omega
      have HST := Lib.hid (string_any w1.heap.size w1.heap.size _ 0 wq hw.out (fun h => hcw.out (by
        cases ks with
        | nil => rfl
        | cons k0 kr =>
          exfalso
          have : (funsTo E S (k0 :: kr) (kr.length + 1)).length = 0 := by rw [show kr.length + 1 = (k0 :: kr).length from rfl, h]; rfl
          simp [funsTo, funX] at this)))
      have HBE := Lib.hid (HB1.out.trans ((HB2.out.mono HB1.out.size).trans (hbw.out.mono HB1.out.size)))
      go_wp2_with fail
      refine HST.out.mono ?_
      rintro e w9 ⟨rfl, hb9⟩
      have HBF := Lib.hid (HBE.out.trans (hb9.mono HB1.out.size))
      clear hb9
      go_wp2
      go_ret2
      exact ⟨rfl, HBF.out⟩
end Go.Proofs.YtgodeffkboihlaaGreatDoor.Twn
