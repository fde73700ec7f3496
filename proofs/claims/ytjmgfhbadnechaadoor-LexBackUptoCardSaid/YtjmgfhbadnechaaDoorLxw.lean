/- lex.Signs, drowseref03.Signs, one; lex.written, drowseref03.written. -/
import Derived.Test.YtjmgfhbadnechaaDoorLxp
import Derived.Test.YtjmgfhbadnechaaDoorRin
import Derived.Test.YtjmgfhbadnechaaDoorRqu
import Derived.Deep.RegionHeld3
import Derived.Deep.RegionWith
set_option linter.unusedVariables false
namespace Go.Proofs.YtjmgfhbadnechaaDoor.Lxw
open Go.RowKit Wrd Nam Env Num Lxp

def signCells : Array Value := (signs.map Value.string).toArray
set_option maxHeartbeats 1000000 in
set_option maxRecDepth 100000 in
theorem signs_any (w : World) : Calls Tryd.prog 11 #[] w fun e w' => e = .returned (.slice (some ⟨w.heap.size, 0, none⟩) 27 27) ∧ w' = w.alloc (.cells signCells 9) := by
  go_enter Tryd.func11, Tryd.ntmps11
  go_wp2
  go_ret
  exact ⟨rfl, rfl⟩
set_option maxHeartbeats 1000000 in
set_option maxRecDepth 100000 in
theorem rsigns_any (w : World) : Calls Tryd.prog 12 #[] w fun e w' => e = .returned (.slice (some ⟨w.heap.size, 0, none⟩) 27 27) ∧ w' = w.alloc (.cells signCells 9) := by
  go_enter Tryd.func12, Tryd.ntmps12
  go_wp2
  go_ret
  exact ⟨rfl, rfl⟩

/-- A token by value. -/
def val (t : Tok) : Value := .agg #[.int .i64 t.kind, .string t.text, .int .i64 t.num, .int .i64 t.pos, .int .i64 t.line]
/-- How 'written' ends. -/
def Wrote (o : Option ByteArray) (w : World) (e : Ending) (w' : World) : Prop :=
  (∃ s b, e = .returned (.tuple #[.string s, .bool b]) ∧ (o = some s ∧ b = true ∨ o = none ∧ b = false)) ∧ Below w.heap.size w w'

theorem wrote_name (t : ByteArray) (n p l : Int) : Lxp.written ⟨1, t, n, p, l⟩ = some t ∧ Nam.isName t = true ∨ Lxp.written ⟨1, t, n, p, l⟩ = none ∧ Nam.isName t = false := by
  cases h : Nam.isName t <;> simp [Lxp.written, h]
theorem wrote_word (t : ByteArray) (n p l : Int) : Lxp.written ⟨2, t, n, p, l⟩ = some t ∧ Plo.isWord t = true ∨ Lxp.written ⟨2, t, n, p, l⟩ = none ∧ Plo.isWord t = false := by
  cases h : Plo.isWord t <;> simp [Lxp.written, h]
theorem wrote_int (t : ByteArray) (n p l : Int) : Lxp.written ⟨3, t, n, p, l⟩ = some ⟨(Lib.itoa n).toArray⟩ ∧ decide (0 ≤ n) = true ∨ Lxp.written ⟨3, t, n, p, l⟩ = none ∧ decide (0 ≤ n) = false := by
  by_cases h : 0 ≤ n <;> simp [Lxp.written, h]
theorem wrote_text (t : ByteArray) (n p l : Int) : Lxp.written ⟨4, t, n, p, l⟩ = some ⟨(Plw.quote t.data.toList).toArray⟩ := by simp [Lxp.written]
theorem below_box {w : World} {o : Obj} {w1 : World} (h : Below (w.alloc o).heap.size (w.alloc o) w1) : Below w.heap.size w w1 :=
  ((Below.refl _ w).alloc (Nat.le_refl _) _).trans (h.mono (by simp))
theorem below_box2 {w : World} {o : Obj} {w1 : World} (h : Below (w.alloc o).drew.heap.size (w.alloc o).drew w1) : Below w.heap.size w w1 :=
  (((Below.refl _ w).alloc (Nat.le_refl _) _).drew).trans (h.mono (by simp))

set_option maxHeartbeats 4000000 in
set_option maxRecDepth 100000 in
theorem written_end (t : ByteArray) (n p l : Int) (w : World) :
    Calls Tryd.prog 20 #[.agg #[.int .i64 0, .string t, .int .i64 n, .int .i64 p, .int .i64 l]] w (Wrote (Lxp.written ⟨0, t, n, p, l⟩) w) := by
  have HW : Hid (Lxp.written ⟨0, t, n, p, l⟩ = some ⟨#[]⟩) := rfl
  go_enter Tryd.func20, Tryd.ntmps20
  go_wp2
  go_ret2
  exact ⟨⟨_, _, rfl, .inl ⟨HW.out, rfl⟩⟩, (Below.refl _ w).alloc (Nat.le_refl _) _⟩
set_option maxHeartbeats 4000000 in
set_option maxRecDepth 100000 in
theorem written_name (t : ByteArray) (n p l : Int) (w : World) (hs : t.size ≤ 35184372088832) :
    Calls Tryd.prog 20 #[.agg #[.int .i64 1, .string t, .int .i64 n, .int .i64 p, .int .i64 l]] w (Wrote (Lxp.written ⟨1, t, n, p, l⟩) w) := by
  have HW := Lib.hid (wrote_name t n p l)
  go_enter Tryd.func20, Tryd.ntmps20
  go_wp2
  go_region_with (go_at_call 33; refine (Nam.name_any t _ hs).mono ?_; rintro e w1 ⟨rfl, hb1⟩; have hc1 := hb1.cell (p := ⟨w.heap.size, 1, none⟩) (by simp))
  all_goals
    go_wp2
    go_ret2
    exact ⟨⟨_, _, rfl, HW.out⟩, by first | exact below_box2 hb1 | exact (below_box2 hb1).drew⟩
set_option maxHeartbeats 4000000 in
set_option maxRecDepth 100000 in
theorem written_word (t : ByteArray) (n p l : Int) (w : World) :
    Calls Tryd.prog 20 #[.agg #[.int .i64 2, .string t, .int .i64 n, .int .i64 p, .int .i64 l]] w (Wrote (Lxp.written ⟨2, t, n, p, l⟩) w) := by
  have HW := Lib.hid (wrote_word t n p l)
  go_enter Tryd.func20, Tryd.ntmps20
  go_wp2
  go_region_with (go_at_call 34; refine (Wrd.word_any t _).mono ?_; rintro e w1 ⟨rfl, hb1⟩; have hc1 := hb1.cell (p := ⟨w.heap.size, 1, none⟩) (by simp))
  all_goals
    go_wp2
    go_ret2
    exact ⟨⟨_, _, rfl, HW.out⟩, by first | exact below_box2 hb1 | exact (below_box2 hb1).drew⟩
set_option maxHeartbeats 4000000 in
set_option maxRecDepth 100000 in
theorem written_int (t : ByteArray) (n p l : Int) (w : World) (h0 : -9223372036854775808 ≤ n) (h1 : n ≤ 9223372036854775807) (hE : Pow w) :
    Calls Tryd.prog 20 #[.agg #[.int .i64 3, .string t, .int .i64 n, .int .i64 p, .int .i64 l]] w (Wrote (Lxp.written ⟨3, t, n, p, l⟩) w) := by
  have HW := Lib.hid (wrote_int t n p l)
  have HE2 : Hid (Pow (w.alloc (.cells #[.int .i64 3, .string t, .int .i64 n, .int .i64 p, .int .i64 l] 42)).drew) := hE.below (((Below.refl _ w).alloc (Nat.le_refl _) _).drew)
  go_enter Tryd.func20, Tryd.ntmps20
  go_wp2
  go_region_with (go_at_call 35; refine (Num.int_pow n _ h0 h1 HE2.out).mono ?_; rintro e w1 ⟨rfl, hb1⟩; have hc1 := hb1.cell (p := ⟨w.heap.size, 2, none⟩) (by simp))
  all_goals
    go_wp2
    go_ret2
    exact ⟨⟨_, _, rfl, HW.out⟩, by first | exact below_box2 hb1 | exact (below_box2 hb1).drew⟩
set_option maxHeartbeats 4000000 in
set_option maxRecDepth 100000 in
theorem written_text (t : ByteArray) (n p l : Int) (w : World) (hs : t.size ≤ 35184372088832) :
    Calls Tryd.prog 20 #[.agg #[.int .i64 4, .string t, .int .i64 n, .int .i64 p, .int .i64 l]] w (Wrote (Lxp.written ⟨4, t, n, p, l⟩) w) := by
  have HW := Lib.hid (wrote_text t n p l)
  go_enter Tryd.func20, Tryd.ntmps20
  go_wp2_with fail
  refine (Quo.quote_any t _ hs).mono ?_
  rintro e w1 ⟨rfl, hb1⟩
  go_wp2
  go_ret2
  exact ⟨⟨_, _, rfl, .inl ⟨HW.out, rfl⟩⟩, below_box hb1⟩
end Go.Proofs.YtjmgfhbadnechaaDoor.Lxw
