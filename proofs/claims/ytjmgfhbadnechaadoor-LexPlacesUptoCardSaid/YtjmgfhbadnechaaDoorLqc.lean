/- drowselaw03.long. -/
import Derived.Test.YtjmgfhbadnechaaDoorLqb
set_option linter.unusedVariables false
namespace Go.Proofs.YtjmgfhbadnechaaDoor.Lqc
open Go.RowKit Wrd Nam Env Num Lxp Lxw Lxr Lxk Lxs Lxj Lrs Lrt Lru Apt Lrv Lrc Lrw Lsa Lsb Lsc Lsd Lse Lss Lsw Lpw Lqb

/-- The answer is a number that is known. -/
theorem ret_nat {a b : Nat} (h : a = b) : Ending.returned (.int .i64 (a : Int)) = .returned (.int .i64 (b : Int)) := by rw [h]
theorem long_3 (s : List UInt8) (tx : ByteArray) (n p l : Int) : Lpp.long s ⟨3, tx, n, p, l⟩ = (Lib.itoa n).length := rfl
theorem long_6 (s : List UInt8) (tx : ByteArray) (n p l : Int) (h : isT tx eol = true) : Lpp.long s ⟨6, tx, n, p, l⟩ = 0 := by simp [Lpp.long, h]
theorem long_6' (s : List UInt8) (tx : ByteArray) (n p l : Int) (h : isT tx eol = false) : Lpp.long s ⟨6, tx, n, p, l⟩ = tx.size := by simp [Lpp.long, h]
theorem long_else (s : List UInt8) (k : Int) (tx : ByteArray) (n p l : Int) (h3 : (k == 3) = false) (h4 : (k == 4) = false) (h6 : (k == 6) = false) : Lpp.long s ⟨k, tx, n, p, l⟩ = tx.size := by
  simp only [beq_eq_false_iff_ne, ne_eq] at h3 h4 h6
  simp [Lpp.long, h3, h4, h6]
set_option maxHeartbeats 2000000 in
set_option maxRecDepth 100000 in
theorem long_int (s : ByteArray) (tx : ByteArray) (n p l : Int) (w : World) (h0 : -9223372036854775808 ≤ n) (h1 : n ≤ 9223372036854775807) :
    Calls Tryd.prog 18 #[.string s, .agg #[.int .i64 3, .string tx, .int .i64 n, .int .i64 p, .int .i64 l]] w fun e w' => e = .returned (.int .i64 (Lpp.long s.data.toList ⟨3, tx, n, p, l⟩ : Nat)) ∧ Below w.heap.size w w' := by
  obtain ⟨T, hT⟩ : ∃ T : ByteArray, (⟨(Lib.itoa n).toArray⟩ : ByteArray) = T := ⟨_, rfl⟩
  have HR : Hid (Lpp.long s.data.toList ⟨3, tx, n, p, l⟩ = T.size) := by
    show _ = _
    rw [long_3, ← hT]; rfl
  have C : Hid (∀ w, Calls Tryd.prog 31 #[.int .i64 n] w fun e w' => e = .returned (.string T) ∧ Below w.heap.size w w') := fun w => by
    have := Rin.int_any n w h0 h1
    rw [hT] at this; exact this
  clear hT
  go_enter Tryd.func18, Tryd.ntmps18
  go_wp2_with fail
  refine (C.out _).mono ?_
  rintro e w1 ⟨rfl, hb1⟩
  go_wp2
  go_ret
  exact ⟨by rw [HR.out]; rfl, below_box hb1⟩
set_option maxHeartbeats 2000000 in
set_option maxRecDepth 100000 in
theorem long_text (s : ByteArray) (tx : ByteArray) (n : Int) (p : Nat) (l : Int) (w : World) (hp : p ≤ s.size) (hs : s.size ≤ 1048576) :
    Calls Tryd.prog 18 #[.string s, .agg #[.int .i64 4, .string tx, .int .i64 n, .int .i64 p, .int .i64 l]] w fun e w' => e = .returned (.int .i64 (Lpp.long s.data.toList ⟨4, tx, n, p, l⟩ : Nat)) ∧ Below w.heap.size w w' := by
  obtain ⟨X, hX⟩ : ∃ X, s.extract p s.size = X := ⟨_, rfl⟩
  have hXd := rest_is s p
  rw [hX] at hXd
  have hXs : X.size ≤ 35184372088832 := by
    have e1 : X.data.toList.length = X.size := rfl
    have e2 : s.data.toList.length = s.size := rfl
    rw [hXd, List.length_drop] at e1
    omega
  obtain ⟨r, tt, er, hu, HR⟩ : ∃ r tt er, (∀ w, Calls Tryd.prog 32 #[.string X] w fun e w' => e = .returned (.tuple #[.string tt, .int .i64 ((r : Nat) : Int), .int .i64 er]) ∧ Below w.heap.size w w') ∧ Hid (Lpp.long s.data.toList ⟨4, tx, n, p, l⟩ = r) := by
    have hlong : Lpp.long s.data.toList ⟨4, tx, n, p, l⟩ = match Plw.unquote X.data.toList with | none => 0 | some (_, k) => k := by
      rw [hXd]
      show (match Plw.unquote (s.data.toList.drop ((p : Int)).toNat) with | none => 0 | some (_, k) => k) = _
      rw [Int.toNat_natCast]
    have C0 := fun w => Run.unquote_any X w hXs
    cases hu : Plw.unquote X.data.toList with
    | none => rw [hu] at C0 hlong; exact ⟨0, _, _, C0, hlong⟩
    | some tk => obtain ⟨t, k⟩ := tk; rw [hu] at C0 hlong; exact ⟨k, _, _, C0, hlong⟩
  have HU := Lib.hid hu
  clear hu hXd
  have b0 : (0 : Int) ≤ (p : Int) := by omega
  have b1 : (p : Int) ≤ (s.size : Int) := by omega
  go_enter Tryd.func18, Tryd.ntmps18
  go_wp2_with fail
  refine (HU.out _).mono ?_
  rintro e w1 ⟨rfl, hb1⟩
  go_wp2
  go_ret
  exact ⟨by rw [HR.out]; rfl, below_box hb1⟩
set_option maxHeartbeats 2000000 in
set_option maxRecDepth 100000 in
theorem long_semi (s : ByteArray) (tx : ByteArray) (n p l : Int) (w : World) :
    Calls Tryd.prog 18 #[.string s, .agg #[.int .i64 6, .string tx, .int .i64 n, .int .i64 p, .int .i64 l]] w fun e w' => e = .returned (.int .i64 (Lpp.long s.data.toList ⟨6, tx, n, p, l⟩ : Nat)) ∧ Below w.heap.size w w' := by
  cases ht : (tx.toList == [10]) with
  | true =>
    have HR : Hid (Lpp.long s.data.toList ⟨6, tx, n, p, l⟩ = 0) := long_6 _ _ _ _ _ (by rw [Lib.toList_data] at ht; exact ht)
    go_enter Tryd.func18, Tryd.ntmps18
    go_wp2
    go_ret
    exact ⟨by rw [HR.out]; rfl, (Below.refl _ w).alloc (Nat.le_refl _) _⟩
  | false =>
    have HR : Hid (Lpp.long s.data.toList ⟨6, tx, n, p, l⟩ = tx.size) := long_6' _ _ _ _ _ (by rw [Lib.toList_data] at ht; exact ht)
    go_enter Tryd.func18, Tryd.ntmps18
    go_wp2
    go_ret
    exact ⟨by rw [HR.out]; rfl, (Below.refl _ w).alloc (Nat.le_refl _) _⟩
set_option maxHeartbeats 2000000 in
set_option maxRecDepth 100000 in
theorem long_other (s : ByteArray) (k : Int) (tx : ByteArray) (n p l : Int) (w : World) (h3 : (k == 3) = false) (h4 : (k == 4) = false) (h6 : (k == 6) = false) :
    Calls Tryd.prog 18 #[.string s, .agg #[.int .i64 k, .string tx, .int .i64 n, .int .i64 p, .int .i64 l]] w fun e w' => e = .returned (.int .i64 (Lpp.long s.data.toList ⟨k, tx, n, p, l⟩ : Nat)) ∧ Below w.heap.size w w' := by
  have HR := Lib.hid (long_else s.data.toList k tx n p l h3 h4 h6)
  go_enter Tryd.func18, Tryd.ntmps18
  go_wp2
  go_ret
  exact ⟨by rw [HR.out]; rfl, (Below.refl _ w).alloc (Nat.le_refl _) _⟩
theorem long_any (s : ByteArray) (k : Int) (tx : ByteArray) (n : Int) (p : Nat) (l : Int) (w : World) (hp : p ≤ s.size) (hs : s.size ≤ 1048576) (h0 : -9223372036854775808 ≤ n) (h1 : n ≤ 9223372036854775807) :
    Calls Tryd.prog 18 #[.string s, .agg #[.int .i64 k, .string tx, .int .i64 n, .int .i64 p, .int .i64 l]] w fun e w' => e = .returned (.int .i64 (Lpp.long s.data.toList ⟨k, tx, n, p, l⟩ : Nat)) ∧ Below w.heap.size w w' := by
  cases h3 : (k == 3) with
  | true => obtain rfl := eq_of_beq h3; exact long_int s tx n p l w h0 h1
  | false =>
  cases h4 : (k == 4) with
  | true => obtain rfl := eq_of_beq h4; exact long_text s tx n p l w hp hs
  | false =>
  cases h6 : (k == 6) with
  | true => obtain rfl := eq_of_beq h6; exact long_semi s tx n p l w
  | false => exact long_other s k tx n p l w h3 h4 h6
end Go.Proofs.YtjmgfhbadnechaaDoor.Lqc
