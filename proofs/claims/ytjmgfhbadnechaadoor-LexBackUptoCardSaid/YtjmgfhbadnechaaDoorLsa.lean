/- lex.wordly, lex.calls. -/
import Derived.Test.YtjmgfhbadnechaaDoorLrw
set_option linter.unusedVariables false
namespace Go.Proofs.YtjmgfhbadnechaaDoor.Lsa
open Go.RowKit Wrd Nam Lxp Lxw Lxr Lxk Lxs Lrs Lrt Lru Apt Lrv Lrc

theorem or32_all : ∀ n : Fin 256, decide (97 ≤ bits BinOp.or IntKind.u8 (n.val : Int) 32 ∧ bits BinOp.or IntKind.u8 (n.val : Int) 32 ≤ 122) = decide (65 ≤ n.val ∧ n.val ≤ 90 ∨ 97 ≤ n.val ∧ n.val ≤ 122) := by decide +kernel
theorem or32 (c : UInt8) : (97 ≤ bits BinOp.or IntKind.u8 (c.toNat : Int) 32 ∧ bits BinOp.or IntKind.u8 (c.toNat : Int) 32 ≤ 122) ↔ (65 ≤ c.toNat ∧ c.toNat ≤ 90 ∨ 97 ≤ c.toNat ∧ c.toNat ≤ 122) :=
  decide_eq_decide.1 (or32_all ⟨c.toNat, c.toNat_lt⟩)
set_option maxHeartbeats 1000000 in
set_option maxRecDepth 100000 in
theorem wordly_any (c : UInt8) (w : World) : Calls Tryd.prog 53 #[.int .u8 c.toNat] w fun e w' => e = .returned (.bool (alnum c)) ∧ w = w' := by
  have H := Lib.hid (or32 c)
  go_enter Tryd.func53, Tryd.ntmps53
  go_wp2
  all_goals (go_ret; refine ⟨ret_bool ?_, rfl⟩)
  all_goals
    have h := H.out
    generalize bits BinOp.or IntKind.u8 (c.toNat : Int) 32 = b at *
    rw [Bool.eq_iff_iff]
    simp [alnum, letter, digit]
    omega
theorem word_not {s : ByteArray} (h : within Lxn.callWords s = false) : (s.toList == [98, 114, 101, 97, 107]) = false ∧ (s.toList == [99, 111, 110, 116, 105, 110, 117, 101]) = false ∧ (s.toList == [114, 101, 116, 117, 114, 110]) = false ∧ (s.toList == [105, 110, 116]) = false ∧ (s.toList == [98, 111, 111, 108]) = false ∧ (s.toList == [77, 117, 116, 101, 120]) = false ∧ (s.toList == [87, 97, 105, 116, 71, 114, 111, 117, 112]) = false ∧ (s.toList == [116, 114, 117, 101]) = false ∧ (s.toList == [102, 97, 108, 115, 101]) = false ∧ (s.toList == [110, 105, 108]) = false := by
  have k : ∀ y ∈ Lxn.callWords, (s.toList == y.data.toList) = false := by
    intro y hy
    unfold within at h
    rw [List.any_eq_false] at h
    have := h y hy
    rw [Lib.toList_data, beq_eq_false_iff_ne]
    intro e; rw [e] at this; simp at this
  exact ⟨k ⟨#[98, 114, 101, 97, 107]⟩ ((Lxp.within_iff _ _).1 (by decide)), k ⟨#[99, 111, 110, 116, 105, 110, 117, 101]⟩ ((Lxp.within_iff _ _).1 (by decide)), k ⟨#[114, 101, 116, 117, 114, 110]⟩ ((Lxp.within_iff _ _).1 (by decide)), k ⟨#[105, 110, 116]⟩ ((Lxp.within_iff _ _).1 (by decide)), k ⟨#[98, 111, 111, 108]⟩ ((Lxp.within_iff _ _).1 (by decide)), k ⟨#[77, 117, 116, 101, 120]⟩ ((Lxp.within_iff _ _).1 (by decide)), k ⟨#[87, 97, 105, 116, 71, 114, 111, 117, 112]⟩ ((Lxp.within_iff _ _).1 (by decide)), k ⟨#[116, 114, 117, 101]⟩ ((Lxp.within_iff _ _).1 (by decide)), k ⟨#[102, 97, 108, 115, 101]⟩ ((Lxp.within_iff _ _).1 (by decide)), k ⟨#[110, 105, 108]⟩ ((Lxp.within_iff _ _).1 (by decide))⟩
theorem sign_not {s : ByteArray} (h : within Lxn.callSigns s = false) : (s.toList == [41]) = false ∧ (s.toList == [125]) = false ∧ (s.toList == [43, 43]) = false ∧ (s.toList == [45, 45]) = false := by
  have k : ∀ y ∈ Lxn.callSigns, (s.toList == y.data.toList) = false := by
    intro y hy
    unfold within at h
    rw [List.any_eq_false] at h
    have := h y hy
    rw [Lib.toList_data, beq_eq_false_iff_ne]
    intro e; rw [e] at this; simp at this
  exact ⟨k ⟨#[41]⟩ ((Lxp.within_iff _ _).1 (by decide)), k ⟨#[125]⟩ ((Lxp.within_iff _ _).1 (by decide)), k ⟨#[43, 43]⟩ ((Lxp.within_iff _ _).1 (by decide)), k ⟨#[45, 45]⟩ ((Lxp.within_iff _ _).1 (by decide))⟩
set_option maxHeartbeats 1000000 in
set_option maxRecDepth 100000 in
theorem calls_three (k : Int) (hk : (k == 1) = true ∨ (k == 3) = true ∨ (k == 4) = true) (s : ByteArray) (n p l : Int) (w : World) :
    Calls Tryd.prog 50 #[.agg #[.int .i64 k, .string s, .int .i64 n, .int .i64 p, .int .i64 l]] w fun e w' => e = .returned (.bool (Lxn.calls ⟨k, s, n, p, l⟩)) ∧ Below w.heap.size w w' := by
  have HR : Hid (Lxn.calls ⟨k, s, n, p, l⟩ = true) := calls_true hk
  rcases hk with h | h | h
  all_goals
    obtain rfl := eq_of_beq h
    clear h
    go_enter Tryd.func50, Tryd.ntmps50
    go_wp2
    go_ret
    exact ⟨by rw [HR.out]; rfl, (Below.refl _ w).alloc (Nat.le_refl _) _⟩
set_option maxHeartbeats 2000000 in
set_option maxRecDepth 100000 in
theorem calls_word_yes (s : ByteArray) (n p l : Int) (w : World) (hs : s ∈ Lxn.callWords) :
    Calls Tryd.prog 50 #[.agg #[.int .i64 2, .string s, .int .i64 n, .int .i64 p, .int .i64 l]] w fun e w' => e = .returned (.bool true) ∧ Below w.heap.size w w' := by
  simp only [Lxn.callWords, List.mem_cons, List.not_mem_nil, or_false] at hs
  rcases hs with rfl | rfl | rfl | rfl | rfl | rfl | rfl | rfl | rfl | rfl
  all_goals
    go_enter Tryd.func50, Tryd.ntmps50
    go_wp2
    go_ret
    exact ⟨rfl, (Below.refl _ w).alloc (Nat.le_refl _) _⟩
set_option maxHeartbeats 2000000 in
set_option maxRecDepth 100000 in
theorem calls_word_no (s : ByteArray) (n p l : Int) (w : World) (hs : within Lxn.callWords s = false) :
    Calls Tryd.prog 50 #[.agg #[.int .i64 2, .string s, .int .i64 n, .int .i64 p, .int .i64 l]] w fun e w' => e = .returned (.bool false) ∧ Below w.heap.size w w' := by
  obtain ⟨h0, h1, h2, h3, h4, h5, h6, h7, h8, h9⟩ := word_not hs
  clear hs
  go_enter Tryd.func50, Tryd.ntmps50
  go_wp2
  go_ret
  exact ⟨rfl, (Below.refl _ w).alloc (Nat.le_refl _) _⟩
set_option maxHeartbeats 2000000 in
set_option maxRecDepth 100000 in
theorem calls_sign_yes (s : ByteArray) (n p l : Int) (w : World) (hs : s ∈ Lxn.callSigns) :
    Calls Tryd.prog 50 #[.agg #[.int .i64 5, .string s, .int .i64 n, .int .i64 p, .int .i64 l]] w fun e w' => e = .returned (.bool true) ∧ Below w.heap.size w w' := by
  simp only [Lxn.callSigns, List.mem_cons, List.not_mem_nil, or_false] at hs
  rcases hs with rfl | rfl | rfl | rfl
  all_goals
    go_enter Tryd.func50, Tryd.ntmps50
    go_wp2
    go_ret
    exact ⟨rfl, (Below.refl _ w).alloc (Nat.le_refl _) _⟩
set_option maxHeartbeats 2000000 in
set_option maxRecDepth 100000 in
theorem calls_sign_no (s : ByteArray) (n p l : Int) (w : World) (hs : within Lxn.callSigns s = false) :
    Calls Tryd.prog 50 #[.agg #[.int .i64 5, .string s, .int .i64 n, .int .i64 p, .int .i64 l]] w fun e w' => e = .returned (.bool false) ∧ Below w.heap.size w w' := by
  obtain ⟨h0, h1, h2, h3⟩ := sign_not hs
  clear hs
  go_enter Tryd.func50, Tryd.ntmps50
  go_wp2
  go_ret
  exact ⟨rfl, (Below.refl _ w).alloc (Nat.le_refl _) _⟩
set_option maxHeartbeats 1000000 in
set_option maxRecDepth 100000 in
theorem calls_none (k : Int) (h1 : (k == 1) = false) (h2 : (k == 2) = false) (h3 : (k == 3) = false) (h4 : (k == 4) = false) (h5 : (k == 5) = false) (s : ByteArray) (n p l : Int) (w : World) :
    Calls Tryd.prog 50 #[.agg #[.int .i64 k, .string s, .int .i64 n, .int .i64 p, .int .i64 l]] w fun e w' => e = .returned (.bool (Lxn.calls ⟨k, s, n, p, l⟩)) ∧ Below w.heap.size w w' := by
  have HR : Hid (Lxn.calls ⟨k, s, n, p, l⟩ = false) := calls_no h1 h2 h3 h4 h5
  go_enter Tryd.func50, Tryd.ntmps50
  go_wp2
  go_ret
  exact ⟨by rw [HR.out]; rfl, (Below.refl _ w).alloc (Nat.le_refl _) _⟩
theorem calls_any (t : Tok) (w : World) :
    Calls Tryd.prog 50 #[val t] w fun e w' => e = .returned (.bool (Lxn.calls t)) ∧ Below w.heap.size w w' := by
  obtain ⟨k, s, n, p, l⟩ := t
  show Calls Tryd.prog 50 #[.agg #[.int .i64 k, .string s, .int .i64 n, .int .i64 p, .int .i64 l]] w _
  cases h1 : (k == 1) with
  | true => exact calls_three k (.inl h1) s n p l w
  | false =>
  cases h3 : (k == 3) with
  | true => exact calls_three k (.inr (.inl h3)) s n p l w
  | false =>
  cases h4 : (k == 4) with
  | true => exact calls_three k (.inr (.inr h4)) s n p l w
  | false =>
  cases h2 : (k == 2) with
  | true =>
    obtain rfl := eq_of_beq h2
    rw [calls_word]
    cases hw : within Lxn.callWords s with
    | true => exact calls_word_yes s n p l w ((Lxp.within_iff _ _).1 hw)
    | false => exact calls_word_no s n p l w hw
  | false =>
  cases h5 : (k == 5) with
  | true =>
    obtain rfl := eq_of_beq h5
    rw [calls_sign]
    cases hw : within Lxn.callSigns s with
    | true => exact calls_sign_yes s n p l w ((Lxp.within_iff _ _).1 hw)
    | false => exact calls_sign_no s n p l w hw
  | false => exact calls_none k h1 h2 h3 h4 h5 s n p l w
end Go.Proofs.YtjmgfhbadnechaaDoor.Lsa
