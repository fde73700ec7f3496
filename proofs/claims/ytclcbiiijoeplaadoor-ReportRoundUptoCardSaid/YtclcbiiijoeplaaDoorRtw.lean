/- report.Text. -/
import Derived.Test.YtclcbiiijoeplaaDoorRtx
import Derived.Test.YtclcbiiijoeplaaDoorRbd
import Derived.Test.YtclcbiiijoeplaaDoorRev
import Derived.Test.YtclcbiiijoeplaaDoorDrw
import Derived.Test.YtclcbiiijoeplaaDoorShelf
import Derived.Lib.IndexAny
import Derived.Lib.AppendIntMem
import Derived.WalkSpells
set_option linter.unusedVariables false
namespace Go.Proofs.YtclcbiiijoeplaaDoor.Rtw
open Go.RowKit Go.Sort Rpl Rwd Rmy Rln Rpp Rpq Rbk Rpt

theorem Is.below {B b : Nat} {bs : List Value} {W W' : World} (h : Rbd.Is B b bs W) (hb : Below W.heap.size W W') : Rbd.Is B b bs W' := by
  have one : ∀ p, Rbd.At B b p bs W → Rbd.At B b p bs W' := by
    rintro p h
    have hlt := h.lt
    obtain ⟨hB, v, hv, hown, hne⟩ := h
    exact ⟨hB, v, (hb.block b hlt).trans hv, hown.kept (row := none) ⟨hb.os, hb.tape, hb.output, hb.size, fun k hk _ => hb.block k hk⟩ (Classical.em _), hne⟩
  exact h.elim (fun x => .inl (one _ x)) (fun x => .inr (one _ x))
theorem nl_flat (s : ByteArray) : decide (0 ≤ Lib.indexByte s.data.toList 10) = !flat s.data.toList := by
  rw [← Lib.contains_iff_indexByte]
  unfold flat
  induction s.data.toList with
  | nil => rfl
  | cons c l ih =>
    rw [List.contains_cons, ih, List.all_cons]
    by_cases h : c = 10
    · subst h; simp
    · have h1 : ((10 : UInt8) == c) = false := beq_false_of_ne (fun e => h e.symm)
      have h2 : (c != 10) = true := by simp [h]
      rw [h1, h2]; simp
theorem contains_any (s : ByteArray) (w : World) : Calls Tryd.prog 19 #[.string s, .string ⟨#[10]⟩] w fun e w' => e = .returned (.bool (!flat s.data.toList)) ∧ w = w' :=
  (Tryd.strings_Contains_one s 10 w).mono fun _ _ h => ⟨by rw [h.1, nl_flat], h.2.symm⟩
theorem itoa_any (n : Int) (h1 : 0 ≤ n) (h2 : n ≤ 2147483647) (w : World) (hE : Rev.Env w) : Calls Tryd.prog 21 #[.int .i64 n] w fun e w' => e = .returned (.string (dec n)) ∧ Below w.heap.size w w' := by
  refine (Tryd.strconv_Itoa n (by omega) (by omega) w hE.pow).mono fun e w' h => ⟨?_, ?_⟩
  · rw [h.1]
    have h6 : Lib.itoa n = Lib.decDigits n.toNat := by unfold Lib.itoa; rw [if_neg (by omega)]; try (congr 1; try omega)
    rw [h6]; rfl
  · obtain ⟨k, os, e⟩ := h.2
    rw [e]; exact Lib.below_grow _ w (Nat.le_refl _) k os
/-- Why one may not be, in the order of the tests. -/
theorem ways (b : Bk) : (b.ser < 1 ∧ may b = false) ∨ (1 ≤ b.ser ∧ 2147483647 < b.ser ∧ may b = false) ∨ (1 ≤ b.ser ∧ b.ser ≤ 2147483647 ∧ b.lin < 0 ∧ may b = false) ∨ (1 ≤ b.ser ∧ b.ser ≤ 2147483647 ∧ 0 ≤ b.lin ∧ 2147483647 < b.lin ∧ may b = false) ∨
    (1 ≤ b.ser ∧ b.ser ≤ 2147483647 ∧ 0 ≤ b.lin ∧ b.lin ≤ 2147483647 ∧ (wd b.on).toList.isEmpty = true ∧ may b = false) ∨
    (1 ≤ b.ser ∧ b.ser ≤ 2147483647 ∧ 0 ≤ b.lin ∧ b.lin ≤ 2147483647 ∧ (wd b.on).toList.isEmpty = false ∧ flat b.fn.data.toList = false ∧ may b = false) ∨
    (1 ≤ b.ser ∧ b.ser ≤ 2147483647 ∧ 0 ≤ b.lin ∧ b.lin ≤ 2147483647 ∧ (wd b.on).toList.isEmpty = false ∧ flat b.fn.data.toList = true ∧ may b = true) := by
  have hno : ∀ {b : Bk}, ¬ (1 ≤ b.ser ∧ b.ser ≤ 2147483647 ∧ 0 ≤ b.lin ∧ b.lin ≤ 2147483647 ∧ 1 ≤ b.on ∧ b.on ≤ 8) → may b = false := by
    intro b h
    cases hm : may b with
    | false => rfl
    | true => exact absurd (may_in hm) h
  by_cases h1 : 1 ≤ b.ser
  · by_cases h2 : b.ser ≤ 2147483647
    · by_cases h3 : 0 ≤ b.lin
      · by_cases h4 : b.lin ≤ 2147483647
        · by_cases h5 : 1 ≤ b.on ∧ b.on ≤ 8
          · have h6 : (wd b.on).toList.isEmpty = false := by
              rw [Lib.toList_data]
              rcases on_cases h5.1 h5.2 with e | e | e | e | e | e | e | e <;> rw [e] <;> rfl
            cases h7 : flat b.fn.data.toList with
            | false =>
              have : may b = false := by unfold may; rw [h7]; rfl
              exact .inr (.inr (.inr (.inr (.inr (.inl ⟨h1, h2, h3, h4, h6, rfl, this⟩)))))
            | true =>
              have : may b = true := by unfold may; rw [h7, (inb_iff b).2 ⟨h1, h2, h3, h4, h5.1, h5.2⟩]; rfl
              exact .inr (.inr (.inr (.inr (.inr (.inr ⟨h1, h2, h3, h4, h6, rfl, this⟩)))))
          · have h6 : (wd b.on).toList.isEmpty = true := by rw [Lib.toList_data, wd_out (by omega)]; rfl
            exact .inr (.inr (.inr (.inr (.inl ⟨h1, h2, h3, h4, h6, hno (by omega)⟩))))
        · exact .inr (.inr (.inr (.inl ⟨h1, h2, h3, by omega, hno (by omega)⟩)))
      · exact .inr (.inr (.inl ⟨h1, h2, by omega, hno (by omega)⟩))
    · exact .inr (.inl ⟨h1, by omega, hno (by omega)⟩)
  · exact .inl ⟨by omega, hno (by omega)⟩
theorem heap_row_cell (w : World) (i : Nat) (cs : Array Value) (T : TypeId) {v : Value} (h : cs[i]? = some v) : (w.alloc (.cells cs T)).cell? ⟨w.heap.size, i, none⟩ = some v := by
  rw [Lib.cell_of_heap (heap_alloc_new w _)]; exact h
/-- A callee's contract in the worlds of a region. -/
theorem reg {f : FuncId} {args : Array Value} {v : Value} {w : World} (h : ∀ W, Below w.heap.size w W → Calls Tryd.prog f args W fun e w' => e = .returned v ∧ Below W.heap.size W w') :
    Hid (∀ d os, Calls Tryd.prog f args (grow (redrawn w d) os) fun e w'' => e = .returned v ∧ ∃ p : Regrown, w'' = grow (redrawn w p.d) p.os) := fun d os => Calls.regrown_of (h _ (below_regrown w d os))

set_option maxHeartbeats 4000000 in
set_option maxRecDepth 100000 in
theorem text_some (b o c : Nat) (l : List Bk) (w : World) (hE : Hid (Rev.Env w)) (hf : Hid (Fits l)) (ht : Hid (Bks w b o l)) (hb : b < w.heap.size) :
    Calls Tryd.prog 8 #[.slice (some ⟨b, o, none⟩) l.length c] w fun e w' => e = outcome (textL l) ∧ Below w.heap.size w w' := by
  have hl := hf.out.1
  go_enter Tryd.func8, Tryd.ntmps8
  go_wp2
  have hI0 : Rbd.Is w.heap.size w.heap.size (Lib.byteCells (acc l 0)) (w.alloc (.cells #[.pointer none, .slice none 0 0] 57)) := Lib.IsBuilderF.of (Lib.fresh_isBuilder 57 5 w)
  go_loopw [10] (fun i wr => ∃ k : Nat, k ≤ l.length ∧ i = .int .i64 k ∧ Hid (Rbd.Is w.heap.size w.heap.size (Lib.byteCells (acc l k)) wr) ∧ Below w.heap.size w wr ∧ Hid (∀ j, j < k → may (l.getD j bk0) = true)) (fun i _ => l.length - (intOf i).toNat)
  case atStart => exact ⟨0, Nat.zero_le _, rfl, hI0, (Below.refl _ _).alloc (Nat.le_refl _) _, fun j hj => absurd hj (by omega)⟩
  case round =>
    obtain ⟨k, hk, rfl, hI, hbw, hN⟩ := hrel
    clear hI0
    have hsz := hbw.size
    by_cases hlt : k < l.length
    · obtain ⟨t, hT⟩ : ∃ t, l.getD k bk0 = t := ⟨_, rfl⟩
      have hat := (ht.out k hlt).below hbw hb
      have hfn := hf.out.2 k hlt
      rw [hT] at hat hfn
      have HT := Lib.hid hT
      clear hT
      obtain ⟨ser, lin, fn, on⟩ := t
      obtain ⟨c0, c1, c2, c3⟩ := hat
      dsimp only at c0 c1 c2 c3 hfn
      have HW := ways ⟨ser, lin, fn, on⟩
      dsimp only at HW
      obtain ⟨D3, e3⟩ : ∃ D, D = wd on := ⟨_, rfl⟩
      have s3 := wd_size on
      rw [← e3] at HW s3
      have C3 : Hid (∀ w, Calls Tryd.prog 11 #[.int .i64 on] w fun e w' => e = .returned (.string D3) ∧ Below w.heap.size w w') := fun w => (word_any on w).mono fun _ _ h => ⟨e3 ▸ h.1, h.2⟩
      have E3 := Lib.hid e3
      clear e3
      have CC := Lib.hid (contains_any fn)
      go_wp2_with fail
      refine (C3.out _).mono ?_
      rintro e w1 ⟨rfl, hb1⟩
      have hs1 := hb1.size
      simp at hs1
      have d0 := (hb1.cell (p := ⟨wr.heap.size, 0, none⟩) (by simp)).trans (heap_row_cell wr 0 _ _ rfl)
      have d1 := (hb1.cell (p := ⟨wr.heap.size, 1, none⟩) (by simp)).trans (heap_row_cell wr 1 _ _ rfl)
      have d2 := (hb1.cell (p := ⟨wr.heap.size, 2, none⟩) (by simp)).trans (heap_row_cell wr 2 _ _ rfl)
      have HB1 : Hid (Below wr.heap.size wr w1) := ((Below.refl _ wr).alloc (Nat.le_refl _) _).trans (hb1.mono (by simp))
      clear hb1 c0 c1 c2 c3
      rcases HW with ⟨h1, hm⟩ | ⟨h1, h2, hm⟩ | ⟨h1, h2, h3, hm⟩ | ⟨h1, h2, h3, h4, hm⟩ | ⟨h1, h2, h3, h4, h5, hm⟩ | ⟨h1, h2, h3, h4, h5, h6, hm⟩ | ⟨h1, h2, h3, h4, h5, h6, hm⟩
      rotate_left 6
      · have HM := Lib.hid hm
        clear hm
        have s1 := dec_le (n := ser) (by omega) h2
        have s2 := dec_le (n := lin) h3 h4
        obtain ⟨D1, e1⟩ : ∃ D, D = dec ser := ⟨_, rfl⟩
        obtain ⟨D2, e2⟩ : ∃ D, D = dec lin := ⟨_, rfl⟩
        rw [← e1] at s1
        rw [← e2] at s2
        have hE1 : Hid (Rev.Env w1) := (hE.out.below hbw).below HB1.out
        have C1 := reg (f := 21) (args := #[.int .i64 ser]) (v := .string D1) (w := w1) fun W hW => e1 ▸ itoa_any ser (by omega) h2 W (hE1.out.below hW)
        have C2 := reg (f := 21) (args := #[.int .i64 lin]) (v := .string D2) (w := w1) fun W hW => e2 ▸ itoa_any lin h3 h4 W (hE1.out.below hW)
        obtain ⟨A1, a1⟩ : ∃ A, A = (⟨#[103, 111, 114, 111, 117, 116, 105, 110, 101, 32]⟩ : ByteArray) ++ D1 := ⟨_, rfl⟩
        obtain ⟨A2, a2⟩ : ∃ A, A = A1 ++ (⟨#[32, 108, 105, 110, 101, 32]⟩ : ByteArray) := ⟨_, rfl⟩
        obtain ⟨A3, a3⟩ : ∃ A, A = A2 ++ D2 := ⟨_, rfl⟩
        obtain ⟨A4, a4⟩ : ∃ A, A = A3 ++ (⟨#[32]⟩ : ByteArray) := ⟨_, rfl⟩
        obtain ⟨A5, a5⟩ : ∃ A, A = A4 ++ D3 := ⟨_, rfl⟩
        obtain ⟨A6, a6⟩ : ∃ A, A = A5 ++ (⟨#[32]⟩ : ByteArray) := ⟨_, rfl⟩
        obtain ⟨A7, a7⟩ : ∃ A, A = A6 ++ fn := ⟨_, rfl⟩
        obtain ⟨A8, a8⟩ : ∃ A, A = A7 ++ (⟨#[10]⟩ : ByteArray) := ⟨_, rfl⟩
        have z1 : A1.size = 10 + D1.size := by rw [a1, ByteArray.size_append]; try rfl
        have z2 : A2.size = A1.size + 6 := by rw [a2, ByteArray.size_append]; try rfl
        have z3 : A3.size = A2.size + D2.size := by rw [a3, ByteArray.size_append]; try rfl
        have z4 : A4.size = A3.size + 1 := by rw [a4, ByteArray.size_append]; try rfl
        have z5 : A5.size = A4.size + D3.size := by rw [a5, ByteArray.size_append]; try rfl
        have z6 : A6.size = A5.size + 1 := by rw [a6, ByteArray.size_append]; try rfl
        have z7 : A7.size = A6.size + fn.size := by rw [a7, ByteArray.size_append]; try rfl
        have z8 : A8.size = A7.size + 1 := by rw [a8, ByteArray.size_append]; try rfl
        have b1 : A1.size ≤ 31 := by omega
        have b2 : A2.size ≤ 37 := by omega
        have b3 : A3.size ≤ 58 := by omega
        have b4 : A4.size ≤ 59 := by omega
        have b5 : A5.size ≤ 70 := by omega
        have b6 : A6.size ≤ 71 := by omega
        have b7 : A7.size ≤ 1048648 := by omega
        have b8 : A8.size ≤ 1048649 := by omega
        have HL : Hid (acc l (k + 1) = acc l k ++ A8.data.toList) := by
          show acc l k ++ (lineL (l.getD k bk0)).data.toList ++ [10] = _
          rw [HT.out, a8, Rdg.app_toList]
          have : lineL ⟨ser, lin, fn, on⟩ = A7 := by
            rw [a7, a6, a5, a4, a3, a2, a1, e1, e2, E3.out]; rfl
          rw [this, List.append_assoc]
        have HN2 : Hid (∀ j, j < k + 1 → may (l.getD j bk0) = true) := by
          intro j hj
          by_cases e : j = k
          · rw [e, HT.out]; exact HM.out
          · exact hN.out j (by omega)
        have hroom := acc_room hf.out k hk hN.out
        have hI1 := Lib.hid (Is.below hI.out HB1.out)
        have g1 := Lib.hid a1
        have g2 := Lib.hid a2
        have g3 := Lib.hid a3
        have g4 := Lib.hid a4
        have g5 := Lib.hid a5
        have g6 := Lib.hid a6
        have g7 := Lib.hid a7
        have g8 := Lib.hid a8
        clear a1 a2 a3 a4 a5 a6 a7 a8 z1 z2 z3 z4 z5 z6 z7 z8 e1 e2 hN hI
        have k0 := cell_regrown d0
        have k1 := cell_regrown d1
        have k2 := cell_regrown d2
        go_wp2_with (go_at_call 19; refine (CC.out _).mono ?_; rintro e w2 ⟨rfl, rfl⟩)
        refine Drw.wp_region_tail (C := Drw.Cls w1) 17 (by kernel_rfl) (by kernel_rfl) (Drw.cls_start _) ?_
        simp only [List.take_succ_cons, List.take_zero, List.drop_succ_cons, List.drop_zero]
        go_big_quiet_step (fail)
        go_big_quiet_step (fail)
        go_big_quiet_step (exact C1.out _ _)
        go_big_quiet_step (fail)
        rw [← g1.out]
        go_big_quiet_step (fail)
        rw [← g2.out]
        go_big_quiet_step (fail)
        go_big_quiet_step (fail)
        go_big_quiet_step (exact C2.out _ _)
        go_big_quiet_step (fail)
        rw [← g3.out]
        go_big_quiet_step (fail)
        rw [← g4.out]
        go_big_quiet_step (fail)
        go_big_quiet_step (fail)
        rw [← g5.out]
        go_big_quiet_step (fail)
        rw [← g6.out]
        go_big_quiet_step (fail)
        go_big_quiet_step (fail)
        go_big_quiet_step (fail)
        rw [← g7.out]
        go_big_quiet_step (fail)
        rw [← g8.out]
        refine wpQuiet_nil ?_
        intro w3 hw3
        have hb3 := Drw.cls_below hw3
        clear hw3 k0 k1 k2 d0 d1 d2
        have hI3 := Lib.hid (Is.below hI1.out hb3)
        have hs3 := hb3.size
        go_wp2_with fail
        refine (Rbd.writeString w.heap.size w.heap.size _ _ _ hI3.out (by rw [Lib.byteCells_length]; omega) (by omega)).mono ?_
        rintro e w4 ⟨rfl, hI4, hb4, _⟩
        have hI5 : Hid (Rbd.Is w.heap.size w.heap.size (Lib.byteCells (acc l (k + 1))) w4) := by
          show Rbd.Is w.heap.size w.heap.size (Lib.byteCells (acc l (k + 1))) w4
          rw [HL.out, Lib.byteCells_append]; exact hI4
        have HB4 : Hid (Below w.heap.size w w4) := (hbw.trans ((HB1.out.trans (hb3.mono HB1.out.size)).mono hsz)).trans hb4
        clear hI4 hb4 hb3
        go_wp2
        go_roundw
        case rel => exact ⟨k + 1, by omega, by go_num, hI5, HB4.out, HN2⟩
        case measure => simp [intOf]; omega
      all_goals
        have HF : Hid (textL l = none) := textL_none hlt (by rw [HT.out]; exact hm)
        go_wp2_with (go_at_call 19; refine (CC.out _).mono ?_; rintro e w2 ⟨rfl, rfl⟩)
        go_ret2
        exact ⟨by rw [HF.out]; rfl, hbw.trans (HB1.out.mono hsz)⟩
    · have hke : k = l.length := by omega
      have HE : Hid (textL l = some ⟨(acc l k).toArray⟩) := by rw [hke]; exact textL_some fun j hj => hN.out j (by omega)
      have hroom := acc_room hf.out k hk hN.out
      clear hN hke
      go_wp2_with fail
      refine (Tryd.Builder_String_any_f w.heap.size w.heap.size (acc l k) _ hI.out hsz).mono ?_
      rintro e w1 ⟨rfl, hb1⟩
      go_wp2
      go_ret2
      exact ⟨by rw [HE.out]; rfl, hbw.trans hb1.2⟩
theorem textL_nil : textL [] = some ⟨#[]⟩ := rfl
set_option maxHeartbeats 1000000 in
set_option maxRecDepth 100000 in
theorem text_none (x : Option Addr) (c : Nat) (w : World) :
    Calls Tryd.prog 8 #[.slice x 0 c] w fun e w' => e = outcome (textL []) ∧ Below w.heap.size w w' := by
  have hI0 := Lib.hid (show Rbd.Is w.heap.size w.heap.size (Lib.byteCells []) (w.alloc (.cells #[.pointer none, .slice none 0 0] 57)) from Lib.IsBuilderF.of (Lib.fresh_isBuilder 57 5 w))
  go_enter Tryd.func8, Tryd.ntmps8
  go_wp2
  go_loopw [10] (fun i wr => i = .int .i64 ((0 : Nat) : Int) ∧ wr = w.alloc (.cells #[.pointer none, .slice none 0 0] 57)) (fun i _ => 0)
  case atStart => exact ⟨rfl, rfl⟩
  case round =>
    obtain ⟨rfl, rfl⟩ := hrel
    go_wp2_with fail
    refine (Tryd.Builder_String_any_f w.heap.size w.heap.size [] _ hI0.out (by simp)).mono ?_
    rintro e w1 ⟨rfl, hb1⟩
    go_wp2
    go_ret2
    exact ⟨by rw [textL_nil]; rfl, ((Below.refl _ _).alloc (Nat.le_refl _) _).trans hb1.2⟩
theorem text_any (v : Value) (l : List Bk) (w : World) (hE : Rev.Env w) (hf : Fits l) (hv : Lies w v l) :
    Calls Tryd.prog 8 #[v] w fun e w' => e = outcome (textL l) ∧ Below w.heap.size w w' := by
  rcases hv with ⟨rfl, x, c, rfl⟩ | ⟨b, o, c, rfl, h1, h2⟩
  · exact text_none x c w
  · exact text_some b o c l w hE hf h2 h1
end Go.Proofs.YtclcbiiijoeplaaDoor.Rtw
