/- drowseref03.calls, lex.calls: does a token call for a semicolon at its line's end? -/
import Derived.Test.YtjmgfhbadnechaaDoorLrs
set_option linter.unusedVariables false
namespace Go.Proofs.YtjmgfhbadnechaaDoor.Lrc
open Go.RowKit Wrd Nam Lxp Lxw Lxr

theorem calls_true {t : Tok} (h : (t.kind == 1) = true ∨ (t.kind == 3) = true ∨ (t.kind == 4) = true) : Lxn.calls t = true := by
  unfold Lxn.calls; rw [if_pos]; simpa using h
theorem calls_word (s : ByteArray) (n p l : Int) : Lxn.calls ⟨2, s, n, p, l⟩ = within Lxn.callWords s := rfl
theorem calls_sign (s : ByteArray) (n p l : Int) : Lxn.calls ⟨5, s, n, p, l⟩ = within Lxn.callSigns s := rfl
theorem calls_no {t : Tok} (h1 : (t.kind == 1) = false) (h2 : (t.kind == 2) = false) (h3 : (t.kind == 3) = false) (h4 : (t.kind == 4) = false) (h5 : (t.kind == 5) = false) : Lxn.calls t = false := by
  simp only [beq_eq_false_iff_ne, ne_eq] at *
  unfold Lxn.calls; simp [*]
theorem words_at {w : World} {b : Nat} (h : w.heap.size = b) : Strs (w.alloc (.cells (Lxn.callWords.map Value.string).toArray 9)) b Lxn.callWords := by subst h; exact strs_new w Lxn.callWords 9
theorem signs_at {w : World} {b : Nat} (h : w.heap.size = b) : Strs (w.alloc (.cells (Lxn.callSigns.map Value.string).toArray 9)) b Lxn.callSigns := by subst h; exact strs_new w Lxn.callSigns 9
set_option maxHeartbeats 1000000 in
set_option maxRecDepth 100000 in
theorem rcalls_three (k : Int) (hk : (k == 1) = true ∨ (k == 3) = true ∨ (k == 4) = true) (s : ByteArray) (n p l : Int) (w : World) :
    Calls Tryd.prog 24 #[.agg #[.int .i64 k, .string s, .int .i64 n, .int .i64 p, .int .i64 l]] w fun e w' => e = .returned (.bool (Lxn.calls ⟨k, s, n, p, l⟩)) ∧ Below w.heap.size w w' := by
  have HR : Hid (Lxn.calls ⟨k, s, n, p, l⟩ = true) := calls_true hk
  rcases hk with h | h | h
  all_goals
    obtain rfl := eq_of_beq h
    clear h
    go_enter Tryd.func24, Tryd.ntmps24
    go_wp2
    go_ret
    exact ⟨by rw [HR.out]; rfl, (Below.refl _ w).alloc (Nat.le_refl _) _⟩
set_option maxHeartbeats 1000000 in
set_option maxRecDepth 100000 in
theorem rcalls_word (s : ByteArray) (n p l : Int) (w : World) :
    Calls Tryd.prog 24 #[.agg #[.int .i64 2, .string s, .int .i64 n, .int .i64 p, .int .i64 l]] w fun e w' => e = .returned (.bool (Lxn.calls ⟨2, s, n, p, l⟩)) ∧ Below w.heap.size w w' := by
  have HR := Lib.hid (calls_word s n p l)
  have C := Lib.hid (one_any (w.heap.size + 1) 10 Lxn.callWords s _ (by decide) (words_at (w := w.alloc (.cells #[.int .i64 2, .string s, .int .i64 n, .int .i64 p, .int .i64 l] 42)) (by simp)))
  go_enter Tryd.func24, Tryd.ntmps24
  go_wp2_with fail
  refine C.out.mono ?_
  rintro e w1 ⟨rfl, q, rfl⟩
  go_wp2
  go_ret
  exact ⟨by rw [HR.out]; rfl, ((((Below.refl _ w).alloc (Nat.le_refl _) _).alloc (by simp) _).trans ((below_drewN _ q).mono (by simp; omega)))⟩
set_option maxHeartbeats 1000000 in
set_option maxRecDepth 100000 in
theorem rcalls_sign (s : ByteArray) (n p l : Int) (w : World) :
    Calls Tryd.prog 24 #[.agg #[.int .i64 5, .string s, .int .i64 n, .int .i64 p, .int .i64 l]] w fun e w' => e = .returned (.bool (Lxn.calls ⟨5, s, n, p, l⟩)) ∧ Below w.heap.size w w' := by
  have HR := Lib.hid (calls_sign s n p l)
  have C := Lib.hid (one_any (w.heap.size + 1) 4 Lxn.callSigns s _ (by decide) (signs_at (w := w.alloc (.cells #[.int .i64 5, .string s, .int .i64 n, .int .i64 p, .int .i64 l] 42)) (by simp)))
  go_enter Tryd.func24, Tryd.ntmps24
  go_wp2_with fail
  refine C.out.mono ?_
  rintro e w1 ⟨rfl, q, rfl⟩
  go_wp2
  go_ret
  exact ⟨by rw [HR.out]; rfl, ((((Below.refl _ w).alloc (Nat.le_refl _) _).alloc (by simp) _).trans ((below_drewN _ q).mono (by simp; omega)))⟩
set_option maxHeartbeats 1000000 in
set_option maxRecDepth 100000 in
theorem rcalls_none (k : Int) (h1 : (k == 1) = false) (h2 : (k == 2) = false) (h3 : (k == 3) = false) (h4 : (k == 4) = false) (h5 : (k == 5) = false) (s : ByteArray) (n p l : Int) (w : World) :
    Calls Tryd.prog 24 #[.agg #[.int .i64 k, .string s, .int .i64 n, .int .i64 p, .int .i64 l]] w fun e w' => e = .returned (.bool (Lxn.calls ⟨k, s, n, p, l⟩)) ∧ Below w.heap.size w w' := by
  have HR : Hid (Lxn.calls ⟨k, s, n, p, l⟩ = false) := calls_no h1 h2 h3 h4 h5
  go_enter Tryd.func24, Tryd.ntmps24
  go_wp2
  go_ret
  exact ⟨by rw [HR.out]; rfl, (Below.refl _ w).alloc (Nat.le_refl _) _⟩
theorem rcalls_any (t : Tok) (w : World) :
    Calls Tryd.prog 24 #[val t] w fun e w' => e = .returned (.bool (Lxn.calls t)) ∧ Below w.heap.size w w' := by
  obtain ⟨k, s, n, p, l⟩ := t
  show Calls Tryd.prog 24 #[.agg #[.int .i64 k, .string s, .int .i64 n, .int .i64 p, .int .i64 l]] w _
  cases h1 : (k == 1) with
  | true => exact rcalls_three k (.inl h1) s n p l w
  | false =>
  cases h3 : (k == 3) with
  | true => exact rcalls_three k (.inr (.inl h3)) s n p l w
  | false =>
  cases h4 : (k == 4) with
  | true => exact rcalls_three k (.inr (.inr h4)) s n p l w
  | false =>
  cases h2 : (k == 2) with
  | true => obtain rfl := eq_of_beq h2; exact rcalls_word s n p l w
  | false =>
  cases h5 : (k == 5) with
  | true => obtain rfl := eq_of_beq h5; exact rcalls_sign s n p l w
  | false => exact rcalls_none k h1 h2 h3 h4 h5 s n p l w
end Go.Proofs.YtjmgfhbadnechaaDoor.Lrc
