/- lex.written and drowseref03.written at signs and semicolons, and at every token; drowseref03.one. -/
import Derived.Test.YtjmgfhbadnechaaDoorLxw
set_option linter.unusedVariables false
namespace Go.Proofs.YtjmgfhbadnechaaDoor.Lxv
open Go.RowKit Wrd Nam Env Num Lxp Lxw

theorem signs_block (w : World) : ∀ j, j < 27 → (w.alloc (.cells signCells 9)).cell? ⟨w.heap.size, j, none⟩ = some (.string (signs.getD j ByteArray.empty)) := fun j hj =>
  strs_new w signs 9 j (by rw [signs_length]; exact hj)
theorem signs_at {w : World} {b : Nat} (h : w.heap.size = b) : ∀ j, j < 27 → (w.alloc (.cells signCells 9)).drew.cell? ⟨b, j, none⟩ = some (.string (signs.getD j ByteArray.empty)) := by
  subst h
  intro j hj
  have := signs_block w j hj
  rw [← this]; rfl
theorem containsS_is (x : ByteArray) : Lib.containsS signs x = within signs x := by
  cases h : within signs x with
  | true => exact (Lib.containsS_iff signs x).2 ((Lxp.within_iff _ _).1 h)
  | false =>
    cases h2 : Lib.containsS signs x with
    | false => rfl
    | true => rw [within_true ((Lib.containsS_iff signs x).1 h2)] at h; exact absurd h (by decide)
theorem contains_any (b : Nat) (x : ByteArray) (w : World) (hc : ∀ j, j < 27 → w.cell? ⟨b, j, none⟩ = some (.string (signs.getD j ByteArray.empty))) :
    Calls Tryd.prog 37 #[.slice (some ⟨b, 0, none⟩) 27 27, .string x] w fun e w' => e = .returned (.bool (within signs x)) ∧ w = w' :=
  (Tryd.slices_Contains_string b 0 27 27 signs x w (by rw [signs_length]; omega) (by omega) (fun j hj => by rw [Nat.zero_add]; exact hc j (by rw [signs_length] at hj; exact hj))).mono fun _ _ ⟨h1, h2⟩ => ⟨by rw [h1, ← containsS_is]; rfl, h2.symm⟩

theorem wrote_sign (t : ByteArray) (n p l : Int) (b : Bool) (hb : isT t semi = b) : Lxp.written ⟨5, t, n, p, l⟩ = some t ∧ (!b && within signs t) = true ∨ Lxp.written ⟨5, t, n, p, l⟩ = none ∧ (!b && within signs t) = false := by
  subst hb
  cases h : isT t semi <;> cases h2 : within signs t <;> simp [Lxp.written, h, h2]

set_option maxHeartbeats 1000000 in
set_option maxRecDepth 100000 in
theorem written_sign_semi (n p l : Int) (w : World) :
    Calls Tryd.prog 20 #[.agg #[.int .i64 5, .string ⟨#[59]⟩, .int .i64 n, .int .i64 p, .int .i64 l]] w (Wrote (Lxp.written ⟨5, ⟨#[59]⟩, n, p, l⟩) w) := by
  have HW := Lib.hid (wrote_sign ⟨#[59]⟩ n p l true rfl)
  go_enter Tryd.func20, Tryd.ntmps20
  go_wp2_with fail
  go_quiet (fail)
  go_wp2
  go_ret2
  exact ⟨⟨_, _, rfl, HW.out⟩, ((Below.refl _ w).alloc (Nat.le_refl _) _).trans ((below_drewN _ _).mono (by simp))⟩
set_option maxHeartbeats 1000000 in
set_option maxRecDepth 100000 in
theorem written_sign (t : ByteArray) (n p l : Int) (w : World) (hq : isT t semi = false) :
    Calls Tryd.prog 20 #[.agg #[.int .i64 5, .string t, .int .i64 n, .int .i64 p, .int .i64 l]] w (Wrote (Lxp.written ⟨5, t, n, p, l⟩) w) := by
  have HW := Lib.hid (wrote_sign t n p l false hq)
  have hq1 : (t.toList == [59]) = false := by rw [Lib.toList_data]; exact hq
  have hq2 : (t.toList != [59]) = true := by unfold bne; rw [hq1]; rfl
  have hq3 : (t.toList = [59]) = False := by rw [eq_iff_iff]; simpa using hq1
  go_enter Tryd.func20, Tryd.ntmps20
  go_wp2_with fail
  go_region_held3 (fun W => Below w.heap.size w W ∧ W.cell? ⟨w.heap.size, 1, none⟩ = some (.string t)) (refine ⟨by repeat (first | with_reducible exact Below.refl _ _ | with_reducible apply Below.drew | with_reducible refine Below.alloc ?_ (by simp) _), by simp⟩)
   (first | (go_at_call 11; refine (signs_any _).mono ?_; rintro e w1 ⟨rfl, rfl⟩) | (go_at_call 37; refine (contains_any _ _ _ (by with_reducible exact signs_at (by simp))).mono ?_; rintro e w1 ⟨rfl, rfl⟩))
  go_wp2
  go_ret2
  exact ⟨⟨_, _, rfl, HW.out⟩, (And.left ‹_ ∧ _›)⟩
theorem wrote_semi (t : ByteArray) (n p l : Int) : Lxp.written ⟨6, t, n, p, l⟩ = some semi ∧ (isT t semi || isT t eol) = true ∨ Lxp.written ⟨6, t, n, p, l⟩ = none ∧ (isT t semi || isT t eol) = false := by
  cases h : isT t semi <;> cases h2 : isT t eol <;> simp [Lxp.written, h, h2]
theorem isT_eq {a b : ByteArray} (h : isT a b = true) : a = b := Plo.ba_ext (eq_of_beq h)
set_option maxHeartbeats 1000000 in
set_option maxRecDepth 100000 in
theorem written_semi (t : ByteArray) (n p l : Int) (w : World) :
    Calls Tryd.prog 20 #[.agg #[.int .i64 6, .string t, .int .i64 n, .int .i64 p, .int .i64 l]] w (Wrote (Lxp.written ⟨6, t, n, p, l⟩) w) := by
  have HW := Lib.hid (wrote_semi t n p l)
  cases hq : isT t semi with
  | true =>
    have e : t = ⟨#[59]⟩ := isT_eq hq
    clear hq
    subst e
    go_enter Tryd.func20, Tryd.ntmps20
    go_wp2_with fail
    go_quiet (fail)
    go_wp2
    go_ret2
    exact ⟨⟨_, _, rfl, HW.out⟩, ((Below.refl _ w).alloc (Nat.le_refl _) _).trans ((below_drewN _ _).mono (by simp))⟩
  | false =>
    cases hq' : isT t eol with
    | true =>
      have e : t = ⟨#[10]⟩ := isT_eq hq'
      clear hq hq'
      subst e
      go_enter Tryd.func20, Tryd.ntmps20
      go_wp2_with fail
      go_quiet (fail)
      go_wp2
      go_ret2
      exact ⟨⟨_, _, rfl, HW.out⟩, ((Below.refl _ w).alloc (Nat.le_refl _) _).trans ((below_drewN _ _).mono (by simp))⟩
    | false =>
      rw [hq, hq'] at HW
      have hq1 : (t.toList == [59]) = false := by rw [Lib.toList_data]; exact hq
      have hq3 : (t.toList = [59]) = False := by rw [eq_iff_iff]; simpa using hq1
      have hq4 : (t.toList == [10]) = false := by rw [Lib.toList_data]; exact hq'
      have hq5 : (t.toList = [10]) = False := by rw [eq_iff_iff]; simpa using hq4
      clear hq hq'
      go_enter Tryd.func20, Tryd.ntmps20
      go_wp2_with fail
      go_quiet (fail)
      go_wp2
      go_ret2
      exact ⟨⟨_, _, rfl, HW.out⟩, ((Below.refl _ w).alloc (Nat.le_refl _) _).trans ((below_drewN _ _).mono (by simp))⟩
theorem wrote_none (k : Int) (h0 : (k == 0) = false) (h1 : (k == 1) = false) (h2 : (k == 2) = false) (h3 : (k == 3) = false) (h4 : (k == 4) = false) (h5 : (k == 5) = false) (h6 : (k == 6) = false) (t : ByteArray) (n p l : Int) : Lxp.written ⟨k, t, n, p, l⟩ = none := by
  simp only [beq_eq_false_iff_ne, ne_eq] at *
  simp [Lxp.written, *]
set_option maxHeartbeats 1000000 in
set_option maxRecDepth 100000 in
theorem written_none (k : Int) (h0 : (k == 0) = false) (h1 : (k == 1) = false) (h2 : (k == 2) = false) (h3 : (k == 3) = false) (h4 : (k == 4) = false) (h5 : (k == 5) = false) (h6 : (k == 6) = false) (t : ByteArray) (n p l : Int) (w : World) :
    Calls Tryd.prog 20 #[.agg #[.int .i64 k, .string t, .int .i64 n, .int .i64 p, .int .i64 l]] w (Wrote (Lxp.written ⟨k, t, n, p, l⟩) w) := by
  have HW := Lib.hid (wrote_none k h0 h1 h2 h3 h4 h5 h6 t n p l)
  go_enter Tryd.func20, Tryd.ntmps20
  go_wp2
  go_ret2
  exact ⟨⟨_, _, rfl, .inr ⟨HW.out, rfl⟩⟩, (Below.refl _ w).alloc (Nat.le_refl _) _⟩
theorem written_any (t : Tok) (w : World) (ok : t.ok) (hE : Pow w) :
    Calls Tryd.prog 20 #[val t] w (Wrote (Lxp.written t) w) := by
  obtain ⟨k, s, n, p, l⟩ := t
  obtain ⟨o1, o2, o3⟩ := ok
  show Calls Tryd.prog 20 #[.agg #[.int .i64 k, .string s, .int .i64 n, .int .i64 p, .int .i64 l]] w _
  cases h0 : (k == 0) with
  | true => obtain rfl := eq_of_beq h0; exact written_end s n p l w
  | false =>
  cases h1 : (k == 1) with
  | true => obtain rfl := eq_of_beq h1; exact written_name s n p l w o3
  | false =>
  cases h2 : (k == 2) with
  | true => obtain rfl := eq_of_beq h2; exact written_word s n p l w
  | false =>
  cases h3 : (k == 3) with
  | true => obtain rfl := eq_of_beq h3; exact written_int s n p l w o1 o2 hE
  | false =>
  cases h4 : (k == 4) with
  | true => obtain rfl := eq_of_beq h4; exact written_text s n p l w o3
  | false =>
  cases h5 : (k == 5) with
  | true =>
    obtain rfl := eq_of_beq h5
    cases hq : isT s semi with
    | true => obtain rfl := isT_eq hq; exact written_sign_semi n p l w
    | false => exact written_sign s n p l w hq
  | false =>
  cases h6 : (k == 6) with
  | true => obtain rfl := eq_of_beq h6; exact written_semi s n p l w
  | false => exact written_none k h0 h1 h2 h3 h4 h5 h6 s n p l w
end Go.Proofs.YtjmgfhbadnechaaDoor.Lxv
