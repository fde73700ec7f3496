/- The walk of LexBack, case by case (written by wip/mklbw.py). -/
import Derived.Test.YtjmgfhbadnechaaDoorLbb
import Derived.Test.YtjmgfhbadnechaaDoorLpw
set_option linter.unusedVariables false
namespace Go.Proofs.YtjmgfhbadnechaaDoor.Lbw
open Go.RowKit Wrd Nam Env Num Lxp Lxw Lxr Lxk Lxs Lxj Lrs Lrt Lru Apt Lrv Lrc Lrw Lsa Lsb Lsc Lsd Lse Lss Lsw Lpw Lba Lbb

set_option maxHeartbeats 1000000 in
set_option maxRecDepth 100000 in
theorem rCalls_is (k : Int) (s : ByteArray) (n p l : Int) (r : Bool) (h : Lxn.calls ⟨k, s, n, p, l⟩ = r) (w : World) :
    Calls Tryd.prog 19 #[.agg #[.int .i64 k, .string s, .int .i64 n, .int .i64 p, .int .i64 l]] w fun e w' => e = .returned (.bool r) ∧ Below w.heap.size w w' := by
  have C : Hid (∀ w, Calls Tryd.prog 24 #[.agg #[.int .i64 k, .string s, .int .i64 n, .int .i64 p, .int .i64 l]] w fun e w' => e = .returned (.bool r) ∧ Below w.heap.size w w') := fun w => by
    have := rcalls_any ⟨k, s, n, p, l⟩ w
    rw [h] at this
    exact this
  clear h
  go_enter Tryd.func19, Tryd.ntmps19
  go_wp2_with fail
  refine (C.out _).mono ?_
  rintro e w1 ⟨rfl, hb1⟩
  go_wp2
  go_ret
  exact ⟨rfl, by first | exact below_box hb1 | exact hb1⟩
def seventeen : Tok := ⟨3, ⟨#[]⟩, 17, 0, 0⟩
theorem joined_17 : joined [seventeen] = some ⟨#[49, 55]⟩ := by decide +kernel
theorem join_17 (w : World) (hE : Env w) :
    Calls Tryd.prog 8 #[.slice (some ⟨w.heap.size, 0, none⟩) 1 1] (w.alloc (.cells #[.int .i64 3, .string ⟨#[]⟩, .int .i64 17, .int .i64 0, .int .i64 0] 42)) fun e w' => e = .returned (.tuple #[.string ⟨#[49, 55]⟩, .int .i64 0]) ∧ Below w.heap.size w w' := by
  have hT : TokBlk (w.alloc (.cells #[.int .i64 3, .string ⟨#[]⟩, .int .i64 17, .int .i64 0, .int .i64 0] 42)) w.heap.size seventeen := heap_alloc_new w _
  obtain ⟨⟨c0, c1, c2, c3, c4⟩, _⟩ := hT.cells
  have hL : Lies (w.alloc (.cells #[.int .i64 3, .string ⟨#[]⟩, .int .i64 17, .int .i64 0, .int .i64 0] 42)) (.slice (some ⟨w.heap.size, 0, none⟩) 1 1) [seventeen] := by
    refine .inr ⟨w.heap.size, 0, 1, rfl, by simp, fun j hj => ?_⟩
    obtain rfl : j = 0 := by simp at hj; exact hj
    exact ⟨c0, c1, c2, c3, c4⟩
  have hF : Fits [seventeen] := by
    refine ⟨by simp, fun j hj => ?_⟩
    obtain rfl : j = 0 := by simp at hj; exact hj
    exact ⟨by decide, by decide, by decide⟩
  have hB := (Below.refl w.heap.size w).alloc (Nat.le_refl _) (.cells #[.int .i64 3, .string ⟨#[]⟩, .int .i64 17, .int .i64 0, .int .i64 0] 42)
  refine (Lxm.join_any _ _ _ hF hL (hE.toPow.below hB)).mono ?_
  rintro e w' ⟨he, hb⟩
  rw [joined_17] at he
  exact ⟨he, hB.trans (hb.mono (by simp))⟩
theorem reread_3 (tx : ByteArray) (nu ps ln p l : Int) : reread ⟨3, tx, nu, ps, ln⟩ p l = ⟨3, ⟨#[]⟩, nu, p, l⟩ := rfl
theorem reread_6 (tx : ByteArray) (nu ps ln p l : Int) : reread ⟨6, tx, nu, ps, ln⟩ p l = ⟨6, ⟨#[59]⟩, 0, p, l⟩ := rfl
theorem reread_else (k : Int) (tx : ByteArray) (nu ps ln p l : Int) (h3 : (k == 3) = false) (h6 : (k == 6) = false) : reread ⟨k, tx, nu, ps, ln⟩ p l = ⟨k, tx, 0, p, l⟩ := by
  simp only [beq_eq_false_iff_ne, ne_eq] at h3 h6
  simp [reread, h3, h6]
theorem join_is (b o c : Nat) (l : List Tok) (L : Nat) (J : Option ByteArray) (w : World) (hf : Fits l) (ht : Toks w b o l) (hb : b < w.heap.size) (hE : Env w) (hL : l.length = L) (hJ : joined l = J) :
    Calls Tryd.prog 8 #[.slice (some ⟨b, o, none⟩) L c] w fun e w' => e = outcome J ∧ Below w.heap.size w w' := by
  subst hL; subst hJ
  exact Lxm.join_any _ l w hf (.inr ⟨b, o, c, rfl, hb, ht⟩) hE.toPow

set_option maxHeartbeats 2000000 in
set_option maxRecDepth 100000 in
theorem walk_none (v : Value) (w : World) (hE : Hid (Env w)) (n : Nat) (A : Option Addr) (c : Nat) (hv : v = .slice A n c) (C1 : Hid (Calls Tryd.prog 8 #[.slice A n c] w fun e w' => e = .returned (.tuple #[.string ⟨#[]⟩, .int .i64 1]) ∧ Below w.heap.size w w')) :
    Calls Tryd.prog 7 #[v] w fun e w' => e = .returned (.bool true) ∧ Below w.heap.size w w' := by
  subst hv
  go_enter Tryd.func7, Tryd.ntmps7
  go_wp2_with fail
  refine C1.out.mono ?_
  rintro e w1 ⟨rfl, hb1⟩
  go_wp2_with fail
  refine (join_17 w1 (hE.out.below hb1)).mono ?_
  rintro e w2 ⟨rfl, hb2⟩
  go_wp2
  go_ret
  exact ⟨rfl, hb1.trans (hb2.mono hb1.size)⟩
set_option maxHeartbeats 2000000 in
set_option maxRecDepth 100000 in
theorem walk_long (v : Value) (S : ByteArray) (w : World) (hE : Hid (Env w)) (hS : 20000 < S.size) (n : Nat) (A : Option Addr) (c : Nat) (hv : v = .slice A n c) (C1 : Hid (Calls Tryd.prog 8 #[.slice A n c] w fun e w' => e = .returned (.tuple #[.string S, .int .i64 0]) ∧ Below w.heap.size w w')) :
    Calls Tryd.prog 7 #[v] w fun e w' => e = .returned (.bool true) ∧ Below w.heap.size w w' := by
  subst hv
  have t0 : decide ((20000 : Int) < (S.size : Int)) = true := decide_eq_true (by omega)
  go_enter Tryd.func7, Tryd.ntmps7
  go_wp2_with fail
  refine C1.out.mono ?_
  rintro e w1 ⟨rfl, hb1⟩
  go_wp2_with fail
  refine (join_17 w1 (hE.out.below hb1)).mono ?_
  rintro e w2 ⟨rfl, hb2⟩
  go_wp2
  go_ret
  exact ⟨rfl, hb1.trans (hb2.mono hb1.size)⟩
set_option maxHeartbeats 8000000 in
set_option maxRecDepth 100000 in
theorem walk_end_put (b o c : Nat) (l : List Tok) (k : Nat) (S : ByteArray) (M : List Tok) (w : World) (ht : Hid (Toks w b o l)) (hb : b < w.heap.size) (hE : Hid (Env w)) (hS : S.size ≤ 20000) (HL : Hid (l.length = k + 2)) (hk : k ≤ 1048576)
    (C1 : Hid (Calls Tryd.prog 8 #[.slice (some ⟨b, o, none⟩) (k + 2) c] w fun e w' => e = .returned (.tuple #[.string S, .int .i64 0]) ∧ Below w.heap.size w w'))
    (hM : Hid (Lxn.scan S.data.toList = .inr M)) (HML : Hid (M.length = k + 3)) (hMt : Hid (∀ j, j < k + 1 → ∃ q : Nat, M.getD j zero = reread (l.getD j zero) q 1))
    (hsemi : Hid (M.getD (k + 1) zero = ⟨6, ⟨#[10]⟩, 0, S.size, 1⟩)) (hend : Hid (M.getD (k + 2) zero = ⟨0, ⟨#[]⟩, 0, S.size, 1⟩))
    (hcalls : Hid (Lxn.calls (l.getD k zero) = true)) (hlast : Hid ((l.getD (k + 1) zero).kind = 0)) :
    Calls Tryd.prog 7 #[.slice (some ⟨b, o, none⟩) (k + 2) c] w fun e w' => e = .returned (.bool true) ∧ Below w.heap.size w w' := by
  have t0 : decide ((20000 : Int) < (S.size : Int)) = false := decide_eq_false (by omega)
  have HNE : Hid (M ≠ []) := fun e => by have := HML.out; rw [e, List.length_nil] at this; omega
  go_enter Tryd.func7, Tryd.ntmps7
  go_wp2_with fail
  refine C1.out.mono ?_
  rintro e w1 ⟨rfl, hb1⟩
  go_wp2_with fail
  refine (join_17 w1 (hE.out.below hb1)).mono ?_
  rintro e w2 ⟨rfl, hb2⟩
  have hb2' := hb1.trans (hb2.mono hb1.size)
  go_wp2_with fail
  refine (lex_ok hM.out (by omega) _ (hE.out.below hb2')).mono ?_
  rintro e w3 ⟨A3, cp3, rfl, hO3, hb3⟩
  obtain ⟨b3, o3, rfl, kb3, T3⟩ := own_some hO3 HNE.out
  have HM3 := Lib.hid T3
  have hbw := hb2'.trans (hb3.mono hb2'.size)
  have HT := Lib.hid (ht.out.below hbw hb)
  have kb : b < w3.heap.size := Nat.lt_of_lt_of_le hb hbw.size
  rw [HML.out]
  clear hO3 T3 hb1 hb2 hb2' hb3 C1 ht hE hM
  have e0 : w3.cell? ⟨b, o + (k + 1) * 5, none⟩ = some (.int .i64 0) := by
    have := (HT.out (k + 1) (by rw [HL.out]; omega)).c0
    rw [hlast.out] at this; exact this
  have k0 : (0 : Int) ≤ (k : Int) := by omega
  have k1 : (k : Int) < (k : Int) + 1 := by omega
  have k2 : (k : Int) + 1 < (k : Int) + 2 := by omega
  have u0 : ((k : Int) + 3 != (k : Int) + 2) = true := by rw [bne_iff_ne]; omega
  have u1 : ((k : Int) + 3 != (k : Int) + 2 - 1 + 2) = false := by rw [bne_eq_false_iff_eq]; omega
  have u2 : ((k : Int) + 3 != (k : Int) + 1 + 1) = true := by rw [bne_iff_ne]; omega
  have u3 : ((k : Int) + 3 != (k : Int) + 1 + 2) = false := by rw [bne_eq_false_iff_eq]; omega
  have u4 : ((k : Int) + 3 == (k : Int) + 2 - 1 + 2) = true := by rw [beq_iff_eq]; omega
  have u5 : ((k : Int) + 3 == (k : Int) + 1 + 2) = true := by rw [beq_iff_eq]; omega
  have i0 : (0 : Int) ≤ (k : Int) + 2 - 1 := by omega
  have i1 : (k : Int) + 2 - 1 < (k : Int) + 3 := by omega
  have i2 : ((k : Int) + 2 - 1).toNat = k + 1 := by omega
  go_wp2
  go_loopw [10] (fun i wr => ∃ j : Nat, j ≤ k + 1 ∧ i = .int .i64 j ∧ Below w3.heap.size w3 wr) (fun i _ => k + 1 - (intOf i).toNat)
  case atStart => exact ⟨0, Nat.zero_le _, rfl, Below.refl _ _⟩
  case round =>
    obtain ⟨j, hj, rfl, hbr⟩ := hrel
    clear e0
    by_cases hlt : j < k + 1
    · obtain ⟨t, ht'⟩ : ∃ t, l.getD j zero = t := ⟨_, rfl⟩
      have x1 := (HT.out.below hbr kb) j (by rw [HL.out]; omega)
      have x2 := (HM3.out.below hbr kb3) j (by rw [HML.out]; omega)
      obtain ⟨q, hq⟩ := hMt.out j hlt
      rw [ht'] at x1 hq
      rw [hq] at x2
      obtain ⟨kd, tx, nu, ps, ln⟩ := t
      obtain ⟨c0, c1, c2, c3, c4⟩ := x1
      simp only at c0 c1 c2 c3 c4
      have qb : b < wr.heap.size := Nat.lt_of_lt_of_le kb hbr.size
      have qb3 : b3 < wr.heap.size := Nat.lt_of_lt_of_le kb3 hbr.size
      clear hq ht'
      cases h3 : (kd == 3) with
      | true =>
        obtain rfl := eq_of_beq h3
        rw [reread_3] at x2
        obtain ⟨d0, d1, d2, d3, d4⟩ := x2
        simp only at d0 d1 d2 d3 d4
        clear h3
        go_wp2
        go_roundw
        case rel => exact ⟨j + 1, by omega, by go_num, (hbr.alloc hbr.size _).alloc (by have := hbr.size; simp; omega) _⟩
        case measure => simp [intOf]; omega
      | false =>
      cases h6 : (kd == 6) with
      | true =>
        obtain rfl := eq_of_beq h6
        rw [reread_6] at x2
        obtain ⟨d0, d1, d2, d3, d4⟩ := x2
        simp only at d0 d1 d2 d3 d4
        clear h6 h3
        go_wp2
        go_roundw
        case rel => exact ⟨j + 1, by omega, by go_num, (hbr.alloc hbr.size _).alloc (by have := hbr.size; simp; omega) _⟩
        case measure => simp [intOf]; omega
      | false =>
        have h6' : (kd != 6) = true := by unfold bne; rw [h6]; rfl
        have h3' : (kd != 3) = true := by unfold bne; rw [h3]; rfl
        rw [reread_else _ _ _ _ _ _ _ h3 h6] at x2
        obtain ⟨d0, d1, d2, d3, d4⟩ := x2
        simp only at d0 d1 d2 d3 d4
        go_wp2
        go_roundw
        case rel => exact ⟨j + 1, by omega, by go_num, (hbr.alloc hbr.size _).alloc (by have := hbr.size; simp; omega) _⟩
        case measure => simp [intOf]; omega
    · obtain ⟨t, ht'⟩ : ∃ t, l.getD k zero = t := ⟨_, rfl⟩
      have x1 := (HT.out.below hbr kb) k (by rw [HL.out]; omega)
      have hcl := hcalls.out
      rw [ht'] at x1 hcl
      obtain ⟨kd, tx, nu, ps, ln⟩ := t
      have CC := Lib.hid (rCalls_is kd tx nu ps ln _ hcl)
      obtain ⟨c0, c1, c2, c3, c4⟩ := x1
      simp only at c0 c1 c2 c3 c4
      clear hcl ht'
      have hjk : ¬ ((j : Int) < (k : Int) + 1) := by omega
      go_wp2_with fail
      refine (CC.out _).mono ?_
      rintro e w4 ⟨rfl, hb4⟩
      have hbr2 : Below w3.heap.size w3 w4 := hbr.trans (hb4.mono hbr.size)
      have qb3 : b3 < w4.heap.size := Nat.lt_of_lt_of_le kb3 hbr2.size
      clear c0 c1 c2 c3 c4
      have y1 := (HM3.out.below hbr2 kb3) (k + 1) (by rw [HML.out]; omega)
      rw [hsemi.out] at y1
      obtain ⟨c0, c1, c2, c3, c4⟩ := y1
      simp only at c0 c1 c2 c3 c4
      have y2 := (HM3.out.below hbr2 kb3) (k + 2) (by rw [HML.out]; omega)
      rw [hend.out] at y2
      obtain ⟨d0, d1, d2, d3, d4⟩ := y2
      simp only at d0 d1 d2 d3 d4
      go_wp2
      go_ret
      exact ⟨rfl, hbw.trans ((hbr2.alloc hbr2.size _).mono hbw.size)⟩
set_option maxHeartbeats 8000000 in
set_option maxRecDepth 100000 in
theorem walk_end (b o c : Nat) (l : List Tok) (k : Nat) (S : ByteArray) (M : List Tok) (w : World) (ht : Hid (Toks w b o l)) (hb : b < w.heap.size) (hE : Hid (Env w)) (hS : S.size ≤ 20000) (HL : Hid (l.length = k + 2)) (hk : k ≤ 1048576)
    (C1 : Hid (Calls Tryd.prog 8 #[.slice (some ⟨b, o, none⟩) (k + 2) c] w fun e w' => e = .returned (.tuple #[.string S, .int .i64 0]) ∧ Below w.heap.size w w'))
    (hM : Hid (Lxn.scan S.data.toList = .inr M)) (HML : Hid (M.length = k + 2)) (hMt : Hid (∀ j, j < k + 1 → ∃ q : Nat, M.getD j zero = reread (l.getD j zero) q 1))
    (hend : Hid (M.getD (k + 1) zero = ⟨0, ⟨#[]⟩, 0, S.size, 1⟩))
    (hcalls : Hid (Lxn.calls (l.getD k zero) = false)) (hlast : Hid ((l.getD (k + 1) zero).kind = 0)) :
    Calls Tryd.prog 7 #[.slice (some ⟨b, o, none⟩) (k + 2) c] w fun e w' => e = .returned (.bool true) ∧ Below w.heap.size w w' := by
  have t0 : decide ((20000 : Int) < (S.size : Int)) = false := decide_eq_false (by omega)
  have HNE : Hid (M ≠ []) := fun e => by have := HML.out; rw [e, List.length_nil] at this; omega
  go_enter Tryd.func7, Tryd.ntmps7
  go_wp2_with fail
  refine C1.out.mono ?_
  rintro e w1 ⟨rfl, hb1⟩
  go_wp2_with fail
  refine (join_17 w1 (hE.out.below hb1)).mono ?_
  rintro e w2 ⟨rfl, hb2⟩
  have hb2' := hb1.trans (hb2.mono hb1.size)
  go_wp2_with fail
  refine (lex_ok hM.out (by omega) _ (hE.out.below hb2')).mono ?_
  rintro e w3 ⟨A3, cp3, rfl, hO3, hb3⟩
  obtain ⟨b3, o3, rfl, kb3, T3⟩ := own_some hO3 HNE.out
  have HM3 := Lib.hid T3
  have hbw := hb2'.trans (hb3.mono hb2'.size)
  have HT := Lib.hid (ht.out.below hbw hb)
  have kb : b < w3.heap.size := Nat.lt_of_lt_of_le hb hbw.size
  rw [HML.out]
  clear hO3 T3 hb1 hb2 hb2' hb3 C1 ht hE hM
  have e0 : w3.cell? ⟨b, o + (k + 1) * 5, none⟩ = some (.int .i64 0) := by
    have := (HT.out (k + 1) (by rw [HL.out]; omega)).c0
    rw [hlast.out] at this; exact this
  have k0 : (0 : Int) ≤ (k : Int) := by omega
  have k1 : (k : Int) < (k : Int) + 1 := by omega
  have k2 : (k : Int) + 1 < (k : Int) + 2 := by omega
  go_wp2
  go_loopw [10] (fun i wr => ∃ j : Nat, j ≤ k + 1 ∧ i = .int .i64 j ∧ Below w3.heap.size w3 wr) (fun i _ => k + 1 - (intOf i).toNat)
  case atStart => exact ⟨0, Nat.zero_le _, rfl, Below.refl _ _⟩
  case round =>
    obtain ⟨j, hj, rfl, hbr⟩ := hrel
    clear e0
    by_cases hlt : j < k + 1
    · obtain ⟨t, ht'⟩ : ∃ t, l.getD j zero = t := ⟨_, rfl⟩
      have x1 := (HT.out.below hbr kb) j (by rw [HL.out]; omega)
      have x2 := (HM3.out.below hbr kb3) j (by rw [HML.out]; omega)
      obtain ⟨q, hq⟩ := hMt.out j hlt
      rw [ht'] at x1 hq
      rw [hq] at x2
      obtain ⟨kd, tx, nu, ps, ln⟩ := t
      obtain ⟨c0, c1, c2, c3, c4⟩ := x1
      simp only at c0 c1 c2 c3 c4
      have qb : b < wr.heap.size := Nat.lt_of_lt_of_le kb hbr.size
      have qb3 : b3 < wr.heap.size := Nat.lt_of_lt_of_le kb3 hbr.size
      clear hq ht'
      cases h3 : (kd == 3) with
      | true =>
        obtain rfl := eq_of_beq h3
        rw [reread_3] at x2
        obtain ⟨d0, d1, d2, d3, d4⟩ := x2
        simp only at d0 d1 d2 d3 d4
        clear h3
        go_wp2
        go_roundw
        case rel => exact ⟨j + 1, by omega, by go_num, (hbr.alloc hbr.size _).alloc (by have := hbr.size; simp; omega) _⟩
        case measure => simp [intOf]; omega
      | false =>
      cases h6 : (kd == 6) with
      | true =>
        obtain rfl := eq_of_beq h6
        rw [reread_6] at x2
        obtain ⟨d0, d1, d2, d3, d4⟩ := x2
        simp only at d0 d1 d2 d3 d4
        clear h6 h3
        go_wp2
        go_roundw
        case rel => exact ⟨j + 1, by omega, by go_num, (hbr.alloc hbr.size _).alloc (by have := hbr.size; simp; omega) _⟩
        case measure => simp [intOf]; omega
      | false =>
        have h6' : (kd != 6) = true := by unfold bne; rw [h6]; rfl
        have h3' : (kd != 3) = true := by unfold bne; rw [h3]; rfl
        rw [reread_else _ _ _ _ _ _ _ h3 h6] at x2
        obtain ⟨d0, d1, d2, d3, d4⟩ := x2
        simp only at d0 d1 d2 d3 d4
        go_wp2
        go_roundw
        case rel => exact ⟨j + 1, by omega, by go_num, (hbr.alloc hbr.size _).alloc (by have := hbr.size; simp; omega) _⟩
        case measure => simp [intOf]; omega
    · obtain ⟨t, ht'⟩ : ∃ t, l.getD k zero = t := ⟨_, rfl⟩
      have x1 := (HT.out.below hbr kb) k (by rw [HL.out]; omega)
      have hcl := hcalls.out
      rw [ht'] at x1 hcl
      obtain ⟨kd, tx, nu, ps, ln⟩ := t
      have CC := Lib.hid (rCalls_is kd tx nu ps ln _ hcl)
      obtain ⟨c0, c1, c2, c3, c4⟩ := x1
      simp only at c0 c1 c2 c3 c4
      clear hcl ht'
      have hjk : ¬ ((j : Int) < (k : Int) + 1) := by omega
      go_wp2_with fail
      refine (CC.out _).mono ?_
      rintro e w4 ⟨rfl, hb4⟩
      have hbr2 : Below w3.heap.size w3 w4 := hbr.trans (hb4.mono hbr.size)
      have qb3 : b3 < w4.heap.size := Nat.lt_of_lt_of_le kb3 hbr2.size
      clear c0 c1 c2 c3 c4
      have y2 := (HM3.out.below hbr2 kb3) (k + 1) (by rw [HML.out]; omega)
      rw [hend.out] at y2
      obtain ⟨d0, d1, d2, d3, d4⟩ := y2
      simp only at d0 d1 d2 d3 d4
      go_wp2
      go_ret
      exact ⟨rfl, hbw.trans ((hbr2.alloc hbr2.size _).mono hbw.size)⟩
set_option maxHeartbeats 8000000 in
set_option maxRecDepth 100000 in
theorem walk_put (b o c : Nat) (l : List Tok) (k : Nat) (S : ByteArray) (M : List Tok) (w : World) (ht : Hid (Toks w b o l)) (hb : b < w.heap.size) (hE : Hid (Env w)) (hS : S.size ≤ 20000) (HL : Hid (l.length = k + 1)) (hk : k ≤ 1048576)
    (C1 : Hid (Calls Tryd.prog 8 #[.slice (some ⟨b, o, none⟩) (k + 1) c] w fun e w' => e = .returned (.tuple #[.string S, .int .i64 0]) ∧ Below w.heap.size w w'))
    (hM : Hid (Lxn.scan S.data.toList = .inr M)) (HML : Hid (M.length = k + 3)) (hMt : Hid (∀ j, j < k + 1 → ∃ q : Nat, M.getD j zero = reread (l.getD j zero) q 1))
    (hsemi : Hid (M.getD (k + 1) zero = ⟨6, ⟨#[10]⟩, 0, S.size, 1⟩)) (hend : Hid (M.getD (k + 2) zero = ⟨0, ⟨#[]⟩, 0, S.size, 1⟩))
    (hcalls : Hid (Lxn.calls (l.getD k zero) = true)) (hlast : Hid ((l.getD k zero).kind ≠ 0)) :
    Calls Tryd.prog 7 #[.slice (some ⟨b, o, none⟩) (k + 1) c] w fun e w' => e = .returned (.bool true) ∧ Below w.heap.size w w' := by
  have t0 : decide ((20000 : Int) < (S.size : Int)) = false := decide_eq_false (by omega)
  have HNE : Hid (M ≠ []) := fun e => by have := HML.out; rw [e, List.length_nil] at this; omega
  go_enter Tryd.func7, Tryd.ntmps7
  go_wp2_with fail
  refine C1.out.mono ?_
  rintro e w1 ⟨rfl, hb1⟩
  go_wp2_with fail
  refine (join_17 w1 (hE.out.below hb1)).mono ?_
  rintro e w2 ⟨rfl, hb2⟩
  have hb2' := hb1.trans (hb2.mono hb1.size)
  go_wp2_with fail
  refine (lex_ok hM.out (by omega) _ (hE.out.below hb2')).mono ?_
  rintro e w3 ⟨A3, cp3, rfl, hO3, hb3⟩
  obtain ⟨b3, o3, rfl, kb3, T3⟩ := own_some hO3 HNE.out
  have HM3 := Lib.hid T3
  have hbw := hb2'.trans (hb3.mono hb2'.size)
  have HT := Lib.hid (ht.out.below hbw hb)
  have kb : b < w3.heap.size := Nat.lt_of_lt_of_le hb hbw.size
  rw [HML.out]
  clear hO3 T3 hb1 hb2 hb2' hb3 C1 ht hE hM
  obtain ⟨kl, hkl⟩ : ∃ kl, (l.getD k zero).kind = kl := ⟨_, rfl⟩
  have e0 : w3.cell? ⟨b, o + k * 5, none⟩ = some (.int .i64 kl) := by
    have := (HT.out k (by rw [HL.out]; omega)).c0
    rw [hkl] at this; exact this
  have e1 : (kl == 0) = false := by rw [beq_eq_false_iff_ne, ← hkl]; exact hlast.out
  clear hkl
  have k0 : (0 : Int) ≤ (k : Int) := by omega
  have k1 : (k : Int) < (k : Int) + 1 := by omega
  have k2 : (k : Int) + 1 < (k : Int) + 2 := by omega
  have u0 : ((k : Int) + 3 != (k : Int) + 2) = true := by rw [bne_iff_ne]; omega
  have u1 : ((k : Int) + 3 != (k : Int) + 2 - 1 + 2) = false := by rw [bne_eq_false_iff_eq]; omega
  have u2 : ((k : Int) + 3 != (k : Int) + 1 + 1) = true := by rw [bne_iff_ne]; omega
  have u3 : ((k : Int) + 3 != (k : Int) + 1 + 2) = false := by rw [bne_eq_false_iff_eq]; omega
  have u4 : ((k : Int) + 3 == (k : Int) + 2 - 1 + 2) = true := by rw [beq_iff_eq]; omega
  have u5 : ((k : Int) + 3 == (k : Int) + 1 + 2) = true := by rw [beq_iff_eq]; omega
  have i0 : (0 : Int) ≤ (k : Int) + 2 - 1 := by omega
  have i1 : (k : Int) + 2 - 1 < (k : Int) + 3 := by omega
  have i2 : ((k : Int) + 2 - 1).toNat = k + 1 := by omega
  go_wp2
  go_loopw [10] (fun i wr => ∃ j : Nat, j ≤ k + 1 ∧ i = .int .i64 j ∧ Below w3.heap.size w3 wr) (fun i _ => k + 1 - (intOf i).toNat)
  case atStart => exact ⟨0, Nat.zero_le _, rfl, Below.refl _ _⟩
  case round =>
    obtain ⟨j, hj, rfl, hbr⟩ := hrel
    clear e0
    by_cases hlt : j < k + 1
    · obtain ⟨t, ht'⟩ : ∃ t, l.getD j zero = t := ⟨_, rfl⟩
      have x1 := (HT.out.below hbr kb) j (by rw [HL.out]; omega)
      have x2 := (HM3.out.below hbr kb3) j (by rw [HML.out]; omega)
      obtain ⟨q, hq⟩ := hMt.out j hlt
      rw [ht'] at x1 hq
      rw [hq] at x2
      obtain ⟨kd, tx, nu, ps, ln⟩ := t
      obtain ⟨c0, c1, c2, c3, c4⟩ := x1
      simp only at c0 c1 c2 c3 c4
      have qb : b < wr.heap.size := Nat.lt_of_lt_of_le kb hbr.size
      have qb3 : b3 < wr.heap.size := Nat.lt_of_lt_of_le kb3 hbr.size
      clear hq ht'
      cases h3 : (kd == 3) with
      | true =>
        obtain rfl := eq_of_beq h3
        rw [reread_3] at x2
        obtain ⟨d0, d1, d2, d3, d4⟩ := x2
        simp only at d0 d1 d2 d3 d4
        clear h3
        go_wp2
        go_roundw
        case rel => exact ⟨j + 1, by omega, by go_num, (hbr.alloc hbr.size _).alloc (by have := hbr.size; simp; omega) _⟩
        case measure => simp [intOf]; omega
      | false =>
      cases h6 : (kd == 6) with
      | true =>
        obtain rfl := eq_of_beq h6
        rw [reread_6] at x2
        obtain ⟨d0, d1, d2, d3, d4⟩ := x2
        simp only at d0 d1 d2 d3 d4
        clear h6 h3
        go_wp2
        go_roundw
        case rel => exact ⟨j + 1, by omega, by go_num, (hbr.alloc hbr.size _).alloc (by have := hbr.size; simp; omega) _⟩
        case measure => simp [intOf]; omega
      | false =>
        have h6' : (kd != 6) = true := by unfold bne; rw [h6]; rfl
        have h3' : (kd != 3) = true := by unfold bne; rw [h3]; rfl
        rw [reread_else _ _ _ _ _ _ _ h3 h6] at x2
        obtain ⟨d0, d1, d2, d3, d4⟩ := x2
        simp only at d0 d1 d2 d3 d4
        go_wp2
        go_roundw
        case rel => exact ⟨j + 1, by omega, by go_num, (hbr.alloc hbr.size _).alloc (by have := hbr.size; simp; omega) _⟩
        case measure => simp [intOf]; omega
    · obtain ⟨t, ht'⟩ : ∃ t, l.getD k zero = t := ⟨_, rfl⟩
      have x1 := (HT.out.below hbr kb) k (by rw [HL.out]; omega)
      have hcl := hcalls.out
      rw [ht'] at x1 hcl
      obtain ⟨kd, tx, nu, ps, ln⟩ := t
      have CC := Lib.hid (rCalls_is kd tx nu ps ln _ hcl)
      obtain ⟨c0, c1, c2, c3, c4⟩ := x1
      simp only at c0 c1 c2 c3 c4
      clear hcl ht'
      have hjk : ¬ ((j : Int) < (k : Int) + 1) := by omega
      go_wp2_with fail
      refine (CC.out _).mono ?_
      rintro e w4 ⟨rfl, hb4⟩
      have hbr2 : Below w3.heap.size w3 w4 := hbr.trans (hb4.mono hbr.size)
      have qb3 : b3 < w4.heap.size := Nat.lt_of_lt_of_le kb3 hbr2.size
      clear c0 c1 c2 c3 c4
      have y1 := (HM3.out.below hbr2 kb3) (k + 1) (by rw [HML.out]; omega)
      rw [hsemi.out] at y1
      obtain ⟨c0, c1, c2, c3, c4⟩ := y1
      simp only at c0 c1 c2 c3 c4
      have y2 := (HM3.out.below hbr2 kb3) (k + 2) (by rw [HML.out]; omega)
      rw [hend.out] at y2
      obtain ⟨d0, d1, d2, d3, d4⟩ := y2
      simp only at d0 d1 d2 d3 d4
      go_wp2
      go_ret
      exact ⟨rfl, hbw.trans ((hbr2.alloc hbr2.size _).mono hbw.size)⟩
set_option maxHeartbeats 8000000 in
set_option maxRecDepth 100000 in
theorem walk_plain (b o c : Nat) (l : List Tok) (k : Nat) (S : ByteArray) (M : List Tok) (w : World) (ht : Hid (Toks w b o l)) (hb : b < w.heap.size) (hE : Hid (Env w)) (hS : S.size ≤ 20000) (HL : Hid (l.length = k + 1)) (hk : k ≤ 1048576)
    (C1 : Hid (Calls Tryd.prog 8 #[.slice (some ⟨b, o, none⟩) (k + 1) c] w fun e w' => e = .returned (.tuple #[.string S, .int .i64 0]) ∧ Below w.heap.size w w'))
    (hM : Hid (Lxn.scan S.data.toList = .inr M)) (HML : Hid (M.length = k + 2)) (hMt : Hid (∀ j, j < k + 1 → ∃ q : Nat, M.getD j zero = reread (l.getD j zero) q 1))
    (hend : Hid (M.getD (k + 1) zero = ⟨0, ⟨#[]⟩, 0, S.size, 1⟩))
    (hcalls : Hid (Lxn.calls (l.getD k zero) = false)) (hlast : Hid ((l.getD k zero).kind ≠ 0)) :
    Calls Tryd.prog 7 #[.slice (some ⟨b, o, none⟩) (k + 1) c] w fun e w' => e = .returned (.bool true) ∧ Below w.heap.size w w' := by
  have t0 : decide ((20000 : Int) < (S.size : Int)) = false := decide_eq_false (by omega)
  have HNE : Hid (M ≠ []) := fun e => by have := HML.out; rw [e, List.length_nil] at this; omega
  go_enter Tryd.func7, Tryd.ntmps7
  go_wp2_with fail
  refine C1.out.mono ?_
  rintro e w1 ⟨rfl, hb1⟩
  go_wp2_with fail
  refine (join_17 w1 (hE.out.below hb1)).mono ?_
  rintro e w2 ⟨rfl, hb2⟩
  have hb2' := hb1.trans (hb2.mono hb1.size)
  go_wp2_with fail
  refine (lex_ok hM.out (by omega) _ (hE.out.below hb2')).mono ?_
  rintro e w3 ⟨A3, cp3, rfl, hO3, hb3⟩
  obtain ⟨b3, o3, rfl, kb3, T3⟩ := own_some hO3 HNE.out
  have HM3 := Lib.hid T3
  have hbw := hb2'.trans (hb3.mono hb2'.size)
  have HT := Lib.hid (ht.out.below hbw hb)
  have kb : b < w3.heap.size := Nat.lt_of_lt_of_le hb hbw.size
  rw [HML.out]
  clear hO3 T3 hb1 hb2 hb2' hb3 C1 ht hE hM
  obtain ⟨kl, hkl⟩ : ∃ kl, (l.getD k zero).kind = kl := ⟨_, rfl⟩
  have e0 : w3.cell? ⟨b, o + k * 5, none⟩ = some (.int .i64 kl) := by
    have := (HT.out k (by rw [HL.out]; omega)).c0
    rw [hkl] at this; exact this
  have e1 : (kl == 0) = false := by rw [beq_eq_false_iff_ne, ← hkl]; exact hlast.out
  clear hkl
  have k0 : (0 : Int) ≤ (k : Int) := by omega
  have k1 : (k : Int) < (k : Int) + 1 := by omega
  have k2 : (k : Int) + 1 < (k : Int) + 2 := by omega
  go_wp2
  go_loopw [10] (fun i wr => ∃ j : Nat, j ≤ k + 1 ∧ i = .int .i64 j ∧ Below w3.heap.size w3 wr) (fun i _ => k + 1 - (intOf i).toNat)
  case atStart => exact ⟨0, Nat.zero_le _, rfl, Below.refl _ _⟩
  case round =>
    obtain ⟨j, hj, rfl, hbr⟩ := hrel
    clear e0
    by_cases hlt : j < k + 1
    · obtain ⟨t, ht'⟩ : ∃ t, l.getD j zero = t := ⟨_, rfl⟩
      have x1 := (HT.out.below hbr kb) j (by rw [HL.out]; omega)
      have x2 := (HM3.out.below hbr kb3) j (by rw [HML.out]; omega)
      obtain ⟨q, hq⟩ := hMt.out j hlt
      rw [ht'] at x1 hq
      rw [hq] at x2
      obtain ⟨kd, tx, nu, ps, ln⟩ := t
      obtain ⟨c0, c1, c2, c3, c4⟩ := x1
      simp only at c0 c1 c2 c3 c4
      have qb : b < wr.heap.size := Nat.lt_of_lt_of_le kb hbr.size
      have qb3 : b3 < wr.heap.size := Nat.lt_of_lt_of_le kb3 hbr.size
      clear hq ht'
      cases h3 : (kd == 3) with
      | true =>
        obtain rfl := eq_of_beq h3
        rw [reread_3] at x2
        obtain ⟨d0, d1, d2, d3, d4⟩ := x2
        simp only at d0 d1 d2 d3 d4
        clear h3
        go_wp2
        go_roundw
        case rel => exact ⟨j + 1, by omega, by go_num, (hbr.alloc hbr.size _).alloc (by have := hbr.size; simp; omega) _⟩
        case measure => simp [intOf]; omega
      | false =>
      cases h6 : (kd == 6) with
      | true =>
        obtain rfl := eq_of_beq h6
        rw [reread_6] at x2
        obtain ⟨d0, d1, d2, d3, d4⟩ := x2
        simp only at d0 d1 d2 d3 d4
        clear h6 h3
        go_wp2
        go_roundw
        case rel => exact ⟨j + 1, by omega, by go_num, (hbr.alloc hbr.size _).alloc (by have := hbr.size; simp; omega) _⟩
        case measure => simp [intOf]; omega
      | false =>
        have h6' : (kd != 6) = true := by unfold bne; rw [h6]; rfl
        have h3' : (kd != 3) = true := by unfold bne; rw [h3]; rfl
        rw [reread_else _ _ _ _ _ _ _ h3 h6] at x2
        obtain ⟨d0, d1, d2, d3, d4⟩ := x2
        simp only at d0 d1 d2 d3 d4
        go_wp2
        go_roundw
        case rel => exact ⟨j + 1, by omega, by go_num, (hbr.alloc hbr.size _).alloc (by have := hbr.size; simp; omega) _⟩
        case measure => simp [intOf]; omega
    · obtain ⟨t, ht'⟩ : ∃ t, l.getD k zero = t := ⟨_, rfl⟩
      have x1 := (HT.out.below hbr kb) k (by rw [HL.out]; omega)
      have hcl := hcalls.out
      rw [ht'] at x1 hcl
      obtain ⟨kd, tx, nu, ps, ln⟩ := t
      have CC := Lib.hid (rCalls_is kd tx nu ps ln _ hcl)
      obtain ⟨c0, c1, c2, c3, c4⟩ := x1
      simp only at c0 c1 c2 c3 c4
      clear hcl ht'
      have hjk : ¬ ((j : Int) < (k : Int) + 1) := by omega
      go_wp2_with fail
      refine (CC.out _).mono ?_
      rintro e w4 ⟨rfl, hb4⟩
      have hbr2 : Below w3.heap.size w3 w4 := hbr.trans (hb4.mono hbr.size)
      have qb3 : b3 < w4.heap.size := Nat.lt_of_lt_of_le kb3 hbr2.size
      clear c0 c1 c2 c3 c4
      have y2 := (HM3.out.below hbr2 kb3) (k + 1) (by rw [HML.out]; omega)
      rw [hend.out] at y2
      obtain ⟨d0, d1, d2, d3, d4⟩ := y2
      simp only at d0 d1 d2 d3 d4
      go_wp2
      go_ret
      exact ⟨rfl, hbw.trans ((hbr2.alloc hbr2.size _).mono hbw.size)⟩
end Go.Proofs.YtjmgfhbadnechaaDoor.Lbw
