/- drowseref03.one, drowseref03.written. -/
import Derived.Test.YtjmgfhbadnechaaDoorLxv
set_option linter.unusedVariables false
namespace Go.Proofs.YtjmgfhbadnechaaDoor.Lxr
open Go.RowKit Wrd Nam Env Num Lxp Lxw Lxv

set_option maxHeartbeats 2000000 in
set_option maxRecDepth 100000 in
theorem one_any (b c : Nat) (l : List ByteArray) (x : ByteArray) (w : World) (hbig : l.length < 1000) (hs : Strs w b l) :
    Calls Tryd.prog 44 #[.slice (some ⟨b, 0, none⟩) l.length c, .string x] w fun e w' => e = .returned (.bool (within l x)) ∧ ∃ q, w' = w.drewN q := by
  have HS := Lib.hid hs
  clear hs
  go_enter Tryd.func44, Tryd.ntmps44
  go_wp2
  go_loopw [5] (fun i wr => ∃ k q : Nat, k ≤ l.length ∧ i = .int .i64 k ∧ (∀ j, j < k → l.getD j ByteArray.empty ≠ x) ∧ wr = w.drewN q) (fun i _ => l.length - (intOf i).toNat)
  case atStart => exact ⟨0, 0, by omega, rfl, fun j h => by omega, rfl⟩
  case round =>
    obtain ⟨k, q, hk, rfl, hn, rfl⟩ := hrel
    have HN := Lib.hid hn
    clear hn
    by_cases hlt : k < l.length
    · have cm := HS.out k hlt
      obtain ⟨y, hy⟩ : ∃ y, l.getD k ByteArray.empty = y := ⟨_, rfl⟩
      rw [hy] at cm
      by_cases hyx : y = x
      · have HR : Hid (within l x = true) := within_true (by rw [← hyx, ← hy]; exact Plo.getD_mem hlt)
        subst hyx
        clear hy
        go_wp2
        go_ret
        exact ⟨by rw [HR.out]; rfl, q, rfl⟩
      · have hne := Plo.toList_ne hyx
        have HT : Hid (∀ j, j < k + 1 → l.getD j ByteArray.empty ≠ x) := by
          intro j hj
          by_cases e : j = k
          · rw [e, hy]; exact hyx
          · exact HN.out j (by omega)
        clear hy hyx HN
        go_wp2
        go_roundw
        case rel => exact ⟨k + 1, q, by omega, by go_num, HT.out, rfl⟩
        case measure => simp [intOf]; omega
    · have HR : Hid (within l x = false) := by
        apply within_false
        intro hm
        obtain ⟨j, hj, e⟩ := Plo.mem_getD hm
        exact HN.out j (by omega) e
      clear HN
      go_wp2
      go_ret
      exact ⟨by rw [HR.out]; rfl, q, rfl⟩

/-- What 'written' tells where it is said whether the token is the last one. -/
def rwritten (t : Tok) (last : Bool) : Option ByteArray := if t.kind = 0 ∧ last = false then none else Lxp.written t
theorem rwritten_kind {t : Tok} {last : Bool} (h : t.kind ≠ 0) : rwritten t last = Lxp.written t := by simp [rwritten, h]
theorem rwrote_end (t : ByteArray) (n p l : Int) (last : Bool) : rwritten ⟨0, t, n, p, l⟩ last = some ⟨#[]⟩ ∧ last = true ∨ rwritten ⟨0, t, n, p, l⟩ last = none ∧ last = false := by
  cases last <;> simp [rwritten, Lxp.written]
set_option maxHeartbeats 1000000 in
set_option maxRecDepth 100000 in
theorem rwritten_end (t : ByteArray) (n p l : Int) (last : Bool) (w : World) :
    Calls Tryd.prog 22 #[.agg #[.int .i64 0, .string t, .int .i64 n, .int .i64 p, .int .i64 l], .bool last] w (Wrote (rwritten ⟨0, t, n, p, l⟩ last) w) := by
  have HW := Lib.hid (rwrote_end t n p l last)
  go_enter Tryd.func22, Tryd.ntmps22
  go_wp2
  go_ret2
  exact ⟨⟨_, _, rfl, HW.out⟩, (Below.refl _ w).alloc (Nat.le_refl _) _⟩
set_option maxHeartbeats 1000000 in
set_option maxRecDepth 100000 in
theorem rwritten_name (t : ByteArray) (n p l : Int) (last : Bool) (w : World) :
    Calls Tryd.prog 22 #[.agg #[.int .i64 1, .string t, .int .i64 n, .int .i64 p, .int .i64 l], .bool last] w (Wrote (Lxp.written ⟨1, t, n, p, l⟩) w) := by
  have HW := Lib.hid (wrote_name t n p l)
  go_enter Tryd.func22, Tryd.ntmps22
  go_wp2_with fail
  refine (rname_any t _).mono ?_
  rintro e w1 ⟨rfl, hb1⟩
  have hc1 := hb1.cell (p := ⟨w.heap.size, 1, none⟩) (by simp)
  go_wp2
  go_ret2
  exact ⟨⟨_, _, rfl, HW.out⟩, below_box hb1⟩
set_option maxHeartbeats 1000000 in
set_option maxRecDepth 100000 in
theorem rwritten_word (t : ByteArray) (n p l : Int) (last : Bool) (w : World) :
    Calls Tryd.prog 22 #[.agg #[.int .i64 2, .string t, .int .i64 n, .int .i64 p, .int .i64 l], .bool last] w (Wrote (Lxp.written ⟨2, t, n, p, l⟩) w) := by
  have HW := Lib.hid (wrote_word t n p l)
  go_enter Tryd.func22, Tryd.ntmps22
  go_wp2_with fail
  refine (rword_any t _).mono ?_
  rintro e w1 ⟨rfl, hb1⟩
  have hc1 := hb1.cell (p := ⟨w.heap.size, 1, none⟩) (by simp)
  go_wp2
  go_ret2
  exact ⟨⟨_, _, rfl, HW.out⟩, below_box hb1⟩
set_option maxHeartbeats 1000000 in
set_option maxRecDepth 100000 in
theorem rwritten_text (t : ByteArray) (n p l : Int) (last : Bool) (w : World) (hs : t.size ≤ 35184372088832) :
    Calls Tryd.prog 22 #[.agg #[.int .i64 4, .string t, .int .i64 n, .int .i64 p, .int .i64 l], .bool last] w (Wrote (Lxp.written ⟨4, t, n, p, l⟩) w) := by
  have HW := Lib.hid (wrote_text t n p l)
  go_enter Tryd.func22, Tryd.ntmps22
  go_wp2_with fail
  refine (Rqu.quote_any t _ hs).mono ?_
  rintro e w1 ⟨rfl, hb1⟩
  go_wp2
  go_ret2
  exact ⟨⟨_, _, rfl, .inl ⟨HW.out, rfl⟩⟩, below_box hb1⟩
set_option maxHeartbeats 4000000 in
set_option maxRecDepth 100000 in
theorem rwritten_int (t : ByteArray) (n p l : Int) (last : Bool) (w : World) (h0 : -9223372036854775808 ≤ n) (h1 : n ≤ 9223372036854775807) :
    Calls Tryd.prog 22 #[.agg #[.int .i64 3, .string t, .int .i64 n, .int .i64 p, .int .i64 l], .bool last] w (Wrote (Lxp.written ⟨3, t, n, p, l⟩) w) := by
  have HW := Lib.hid (wrote_int t n p l)
  go_enter Tryd.func22, Tryd.ntmps22
  go_wp2_with fail
  go_region_with (go_at_call 31; refine (Rin.int_any n _ h0 h1).mono ?_; rintro e w1 ⟨rfl, hb1⟩; have hc1 := hb1.cell (p := ⟨w.heap.size, 2, none⟩) (by simp))
  all_goals
    go_wp2
    go_ret2
    exact ⟨⟨_, _, rfl, HW.out⟩, by first | exact below_box2 hb1 | exact (below_box2 hb1).drew⟩
theorem rwrote_sign (t : ByteArray) (n p l : Int) (b : Bool) (hb : isT t semi = b) : Lxp.written ⟨5, t, n, p, l⟩ = some t ∧ (within signs t && !b) = true ∨ Lxp.written ⟨5, t, n, p, l⟩ = none ∧ (within signs t && !b) = false := by
  rw [Bool.and_comm]; exact wrote_sign t n p l b hb
theorem signs_strs (w : World) : Strs (w.alloc (.cells signCells 9)) w.heap.size signs := strs_new w signs 9
theorem below_drewN_up {B : Nat} {a w : World} (h : Below B a w) (n : Nat) : Below B a (w.drewN n) := by
  induction n with
  | zero => exact h
  | succ n ih => rw [← World.drew_drewN]; exact ih.drew
theorem signs_at2 {w : World} {b : Nat} (h : w.heap.size = b) : Strs (w.alloc (.cells signCells 9)).drew b signs := by
  subst h; exact signs_strs w
theorem signs_semi : within signs ⟨#[59]⟩ = true := by decide
set_option maxHeartbeats 2000000 in
set_option maxRecDepth 100000 in
theorem rwritten_sign_semi (n p l : Int) (last : Bool) (w : World) :
    Calls Tryd.prog 22 #[.agg #[.int .i64 5, .string ⟨#[59]⟩, .int .i64 n, .int .i64 p, .int .i64 l], .bool last] w (Wrote (Lxp.written ⟨5, ⟨#[59]⟩, n, p, l⟩) w) := by
  have HW := rwrote_sign ⟨#[59]⟩ n p l true rfl
  rw [signs_semi] at HW
  have HW := Lib.hid HW
  have hs := signs_semi
  go_enter Tryd.func22, Tryd.ntmps22
  go_wp2_with fail
  first | go_region_held3 (fun W => Below w.heap.size w W ∧ W.cell? ⟨w.heap.size, 1, none⟩ = some (.string ⟨#[59]⟩)) (refine ⟨by repeat (first | with_reducible exact Below.refl _ _ | with_reducible apply Below.drew | with_reducible apply below_drewN_up | with_reducible refine Below.alloc ?_ (by simp) _), by simp⟩)
   (first | (go_at_call 12; refine (rsigns_any _).mono ?_; rintro e w1 ⟨rfl, rfl⟩) | (go_at_call 44; refine (one_any _ 27 signs _ _ (by rw [signs_length]; omega) (by with_reducible exact signs_at2 (by simp))).mono ?_; rintro e w1 ⟨rfl, q1, rfl⟩)) | skip
  rename_i hS
  have hb := Lib.hid hS.1
  have hc := hS.2
  rename_i W1 _ _
  clear hS
  go_wp2_with fail
  go_quiet (fail)
  go_wp2
  go_ret2
  exact ⟨⟨_, _, rfl, HW.out⟩, by first | exact hb.out | exact below_drewN_up hb.out _⟩
set_option maxHeartbeats 2000000 in
set_option maxRecDepth 100000 in
theorem rwritten_sign (t : ByteArray) (n p l : Int) (last : Bool) (w : World) (hq : isT t semi = false) :
    Calls Tryd.prog 22 #[.agg #[.int .i64 5, .string t, .int .i64 n, .int .i64 p, .int .i64 l], .bool last] w (Wrote (Lxp.written ⟨5, t, n, p, l⟩) w) := by
  have HW := rwrote_sign t n p l false hq
  have hq1 : (t.toList == [59]) = false := by rw [Lib.toList_data]; exact hq
  have hq2 : (t.toList != [59]) = true := by unfold bne; rw [hq1]; rfl
  have hq3 : (t.toList = [59]) = False := by rw [eq_iff_iff]; simpa using hq1
  clear hq
  cases hS0 : within signs t with
  | true =>
    rw [hS0] at HW
    have HW := Lib.hid HW
    go_enter Tryd.func22, Tryd.ntmps22
    go_wp2_with fail
    first | go_region_held3 (fun W => Below w.heap.size w W ∧ W.cell? ⟨w.heap.size, 1, none⟩ = some (.string t)) (refine ⟨by repeat (first | with_reducible exact Below.refl _ _ | with_reducible apply Below.drew | with_reducible apply below_drewN_up | with_reducible refine Below.alloc ?_ (by simp) _), by simp⟩)
     (first | (go_at_call 12; refine (rsigns_any _).mono ?_; rintro e w1 ⟨rfl, rfl⟩) | (go_at_call 44; refine (one_any _ 27 signs _ _ (by rw [signs_length]; omega) (by with_reducible exact signs_at2 (by simp))).mono ?_; rintro e w1 ⟨rfl, q1, rfl⟩)) | skip
    rename_i hS
    have hb := Lib.hid hS.1
    have hc := hS.2
    clear hS
    go_wp2_with fail
    go_quiet (fail)
    go_wp2
    go_ret2
    exact ⟨⟨_, _, rfl, HW.out⟩, by first | exact hb.out | exact below_drewN_up hb.out _⟩
  | false =>
    rw [hS0] at HW
    have HW := Lib.hid HW
    go_enter Tryd.func22, Tryd.ntmps22
    go_wp2_with fail
    first | go_region_held3 (fun W => Below w.heap.size w W ∧ W.cell? ⟨w.heap.size, 1, none⟩ = some (.string t)) (refine ⟨by repeat (first | with_reducible exact Below.refl _ _ | with_reducible apply Below.drew | with_reducible apply below_drewN_up | with_reducible refine Below.alloc ?_ (by simp) _), by simp⟩)
     (first | (go_at_call 12; refine (rsigns_any _).mono ?_; rintro e w1 ⟨rfl, rfl⟩) | (go_at_call 44; refine (one_any _ 27 signs _ _ (by rw [signs_length]; omega) (by with_reducible exact signs_at2 (by simp))).mono ?_; rintro e w1 ⟨rfl, q1, rfl⟩)) | skip
    rename_i hS
    have hb := Lib.hid hS.1
    have hc := hS.2
    clear hS
    go_wp2_with fail
    go_quiet (fail)
    go_wp2
    go_ret2
    exact ⟨⟨_, _, rfl, HW.out⟩, by first | exact hb.out | exact below_drewN_up hb.out _⟩
set_option maxHeartbeats 1000000 in
set_option maxRecDepth 100000 in
theorem rwritten_semi (t : ByteArray) (n p l : Int) (last : Bool) (w : World) :
    Calls Tryd.prog 22 #[.agg #[.int .i64 6, .string t, .int .i64 n, .int .i64 p, .int .i64 l], .bool last] w (Wrote (Lxp.written ⟨6, t, n, p, l⟩) w) := by
  have HW := Lib.hid (wrote_semi t n p l)
  cases hq : isT t semi with
  | true =>
    have e : t = ⟨#[59]⟩ := isT_eq hq
    clear hq
    subst e
    go_enter Tryd.func22, Tryd.ntmps22
    go_wp2_with fail
    go_quiet (fail)
    go_wp2
    go_ret2
    exact ⟨⟨_, _, rfl, HW.out⟩, ((Below.refl _ w).alloc (Nat.le_refl _) _).trans ((below_drewN _ _).mono (by simp))⟩
  | false =>
    cases hq' : isT t eol with
    | true =>
      have e : t = ⟨#[10]⟩ := isT_eq hq'
      clear hq hq'
      subst e
      go_enter Tryd.func22, Tryd.ntmps22
      go_wp2_with fail
      go_quiet (fail)
      go_wp2
      go_ret2
      exact ⟨⟨_, _, rfl, HW.out⟩, ((Below.refl _ w).alloc (Nat.le_refl _) _).trans ((below_drewN _ _).mono (by simp))⟩
    | false =>
      rw [hq, hq'] at HW
      have hq1 : (t.toList == [59]) = false := by rw [Lib.toList_data]; exact hq
      have hq3 : (t.toList = [59]) = False := by rw [eq_iff_iff]; simpa using hq1
      have hq4 : (t.toList == [10]) = false := by rw [Lib.toList_data]; exact hq'
      have hq5 : (t.toList = [10]) = False := by rw [eq_iff_iff]; simpa using hq4
      clear hq hq'
      go_enter Tryd.func22, Tryd.ntmps22
      go_wp2_with fail
      go_quiet (fail)
      go_wp2
      go_ret2
      exact ⟨⟨_, _, rfl, HW.out⟩, ((Below.refl _ w).alloc (Nat.le_refl _) _).trans ((below_drewN _ _).mono (by simp))⟩
set_option maxHeartbeats 1000000 in
set_option maxRecDepth 100000 in
theorem rwritten_none (k : Int) (h0 : (k == 0) = false) (h1 : (k == 1) = false) (h2 : (k == 2) = false) (h3 : (k == 3) = false) (h4 : (k == 4) = false) (h5 : (k == 5) = false) (h6 : (k == 6) = false) (t : ByteArray) (n p l : Int) (last : Bool) (w : World) :
    Calls Tryd.prog 22 #[.agg #[.int .i64 k, .string t, .int .i64 n, .int .i64 p, .int .i64 l], .bool last] w (Wrote (Lxp.written ⟨k, t, n, p, l⟩) w) := by
  have HW := Lib.hid (wrote_none k h0 h1 h2 h3 h4 h5 h6 t n p l)
  go_enter Tryd.func22, Tryd.ntmps22
  go_wp2
  go_ret2
  exact ⟨⟨_, _, rfl, .inr ⟨HW.out, rfl⟩⟩, (Below.refl _ w).alloc (Nat.le_refl _) _⟩
theorem rwritten_any (t : Tok) (last : Bool) (w : World) (ok : t.ok) :
    Calls Tryd.prog 22 #[val t, .bool last] w (Wrote (rwritten t last) w) := by
  obtain ⟨k, s, n, p, l⟩ := t
  obtain ⟨o1, o2, o3⟩ := ok
  show Calls Tryd.prog 22 #[.agg #[.int .i64 k, .string s, .int .i64 n, .int .i64 p, .int .i64 l], .bool last] w _
  cases h0 : (k == 0) with
  | true => obtain rfl := eq_of_beq h0; exact rwritten_end s n p l last w
  | false =>
  rw [rwritten_kind (by simpa using h0)]
  cases h1 : (k == 1) with
  | true => obtain rfl := eq_of_beq h1; exact rwritten_name s n p l last w
  | false =>
  cases h2 : (k == 2) with
  | true => obtain rfl := eq_of_beq h2; exact rwritten_word s n p l last w
  | false =>
  cases h3 : (k == 3) with
  | true => obtain rfl := eq_of_beq h3; exact rwritten_int s n p l last w o1 o2
  | false =>
  cases h4 : (k == 4) with
  | true => obtain rfl := eq_of_beq h4; exact rwritten_text s n p l last w o3
  | false =>
  cases h5 : (k == 5) with
  | true =>
    obtain rfl := eq_of_beq h5
    cases hq : isT s semi with
    | true => obtain rfl := isT_eq hq; exact rwritten_sign_semi n p l last w
    | false => exact rwritten_sign s n p l last w hq
  | false =>
  cases h6 : (k == 6) with
  | true => obtain rfl := eq_of_beq h6; exact rwritten_semi s n p l last w
  | false => exact rwritten_none k h0 h1 h2 h3 h4 h5 h6 s n p l last w
end Go.Proofs.YtjmgfhbadnechaaDoor.Lxr
