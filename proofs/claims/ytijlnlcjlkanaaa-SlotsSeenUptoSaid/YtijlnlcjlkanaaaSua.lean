/- (*slots.Table[int]): no table; All. -/
import Derived.Test.YtijlnlcjlkanaaaStm
set_option linter.unusedVariables false
namespace Go.Proofs.Ytijlnlcjlkanaaa.Sua
open Go.RowKit Rwo Sta Stb Stc Stg Ste

set_option maxHeartbeats 1000000 in
set_option maxRecDepth 100000 in
theorem at_nil (a b : Nat) (w : World) :
    Calls Try.prog 32 #[.pointer none, .agg #[.int .u32 a, .int .u32 b]] w fun e w' => e = .returned (.tuple #[.pointer none, .int .i64 1]) ∧ Below w.heap.size w w' := by
  go_enter Try.func32, Try.ntmps32
  go_wp2
  go_ret2
  exact ⟨rfl, by first | exact (Below.refl _ w).alloc (Nat.le_refl _) _ | exact Below.refl _ w⟩
set_option maxHeartbeats 2000000 in
set_option maxRecDepth 100000 in
theorem take_nil (x : Int) (w : World) :
    Calls Try.prog 10 #[.pointer none, .int .i64 x] w fun e w' => e = .returned (.tuple #[.agg #[.int .u32 0, .int .u32 0], .int .i64 1]) ∧ Below w.heap.size w w' := by
  have hb0 := Lib.hid ((Below.refl w.heap.size w).alloc (Nat.le_refl _) (.cells #[.int .u32 0, .int .u32 0] 33))
  go_enter Try.func10, Try.ntmps10
  go_wp2
  refine bodyPost_ret (hd_results rfl _ _ w.heap.size #[.int .u32 0, .int .u32 0] rfl (heap_alloc_new w _) rfl) rfl ?_
  exact ⟨rfl, hb0.out⟩
set_option maxHeartbeats 1000000 in
set_option maxRecDepth 100000 in
theorem lives_nil (a b : Nat) (w : World) :
    Calls Try.prog 12 #[.pointer none, .agg #[.int .u32 a, .int .u32 b]] w fun e w' => e = .returned (.bool false) ∧ Below w.heap.size w w' := by
  have C := Lib.hid (fun W => at_nil a b W)
  go_enter Try.func12, Try.ntmps12
  go_wp2_with fail
  refine (C.out _).mono ?_
  rintro e w1 ⟨rfl, hb1⟩
  go_wp2
  go_ret
  exact ⟨rfl, by first | exact hb1 | exact ((Below.refl _ w).alloc (Nat.le_refl _) _).trans (hb1.mono (by simp))⟩
set_option maxHeartbeats 1000000 in
set_option maxRecDepth 100000 in
theorem get_nil (a b : Nat) (w : World) :
    Calls Try.prog 11 #[.pointer none, .agg #[.int .u32 a, .int .u32 b]] w fun e w' => e = .returned (.tuple #[.int .i64 0, .int .i64 1]) ∧ Below w.heap.size w w' := by
  have C := Lib.hid (fun W => at_nil a b W)
  go_enter Try.func11, Try.ntmps11
  go_wp2_with fail
  refine (C.out _).mono ?_
  rintro e w1 ⟨rfl, hb1⟩
  go_wp2
  go_ret2
  exact ⟨rfl, by first | exact hb1 | exact ((Below.refl _ w).alloc (Nat.le_refl _) _).trans (hb1.mono (by simp))⟩
set_option maxHeartbeats 1000000 in
set_option maxRecDepth 100000 in
theorem set_nil (a b : Nat) (x : Int) (w : World) :
    Calls Try.prog 14 #[.pointer none, .agg #[.int .u32 a, .int .u32 b], .int .i64 x] w fun e w' => e = .returned (.int .i64 1) ∧ Below w.heap.size w w' := by
  have C := Lib.hid (fun W => at_nil a b W)
  go_enter Try.func14, Try.ntmps14
  go_wp2_with fail
  refine (C.out _).mono ?_
  rintro e w1 ⟨rfl, hb1⟩
  go_wp2
  go_ret
  exact ⟨rfl, by first | exact hb1 | exact ((Below.refl _ w).alloc (Nat.le_refl _) _).trans (hb1.mono (by simp))⟩
set_option maxHeartbeats 1000000 in
set_option maxRecDepth 100000 in
theorem free_nil (a b : Nat) (w : World) :
    Calls Try.prog 13 #[.pointer none, .agg #[.int .u32 a, .int .u32 b]] w fun e w' => e = .returned (.int .i64 1) ∧ Below w.heap.size w w' := by
  have C := Lib.hid (fun W => at_nil a b W)
  go_enter Try.func13, Try.ntmps13
  go_wp2_with fail
  refine (C.out _).mono ?_
  rintro e w1 ⟨rfl, hb1⟩
  go_wp2
  go_ret
  exact ⟨rfl, by first | exact hb1 | exact ((Below.refl _ w).alloc (Nat.le_refl _) _).trans (hb1.mono (by simp))⟩
set_option maxHeartbeats 1000000 in
set_option maxRecDepth 100000 in
theorem serial_nil (a b : Nat) (w : World) :
    Calls Try.prog 29 #[.pointer none, .agg #[.int .u32 a, .int .u32 b]] w fun e w' => e = .returned (.tuple #[.int .i64 0, .int .i64 1]) ∧ Below w.heap.size w w' := by
  have C := Lib.hid (fun W => at_nil a b W)
  go_enter Try.func29, Try.ntmps29
  go_wp2_with fail
  refine (C.out _).mono ?_
  rintro e w1 ⟨rfl, hb1⟩
  go_wp2
  go_ret2
  exact ⟨rfl, by first | exact hb1 | exact ((Below.refl _ w).alloc (Nat.le_refl _) _).trans (hb1.mono (by simp))⟩
set_option maxHeartbeats 1000000 in
set_option maxRecDepth 100000 in
theorem count_nil (w : World) :
    Calls Try.prog 15 #[.pointer none] w fun e w' => e = .returned (.int .i64 0) ∧ w = w' := by
  go_enter Try.func15, Try.ntmps15
  go_wp2
  go_ret
  exact ⟨rfl, rfl⟩
set_option maxHeartbeats 1000000 in
set_option maxRecDepth 100000 in
theorem born_nil (w : World) :
    Calls Try.prog 16 #[.pointer none] w fun e w' => e = .returned (.int .i64 0) ∧ w = w' := by
  go_enter Try.func16, Try.ntmps16
  go_wp2
  go_ret
  exact ⟨rfl, rfl⟩
set_option maxHeartbeats 1000000 in
set_option maxRecDepth 100000 in
/-- All hands back a closure over the table's pointer. -/
theorem all_any (p : Option Addr) (w : World) :
    Calls Try.prog 30 #[.pointer p] w fun e w' => e = .returned (.func (.func 46) #[] #[.pointer (some ⟨w.heap.size, 0, none⟩)]) ∧ w' = w.alloc (.cells #[.pointer p] 25) := by
  have hmf : ∀ (fn : Fn) (first cap : Array Value) (w : World), (Instr.makeFunc fn first cap).run Try.prog w = .ok (.func fn first cap) w := fun _ _ _ _ => rfl
  go_enter Try.func30, Try.ntmps30
  go_wp2
  go_ret
  exact ⟨rfl, rfl⟩
theorem eq_func (P : Program) (d : Nat) (t : TypeId) (a b : Array TypeId) (v : Bool) (f : Fn) (x y : Array Value) (w : World) (h : P.underlying t = some (.func a b v)) : (Op.equalIn (d + 1) t (.func f x y) .nilFunc).run P w = .ok false w := by
  simp [Op.equalIn, run_underlying h]
set_option maxRecDepth 100000 in
/-- A closure is not nil. -/
theorem func_nil (b : Nat) (w : World) : (binOp BinOp.eql 72 (.func (.func 46) #[] #[.pointer (some ⟨b, 0, none⟩)]) Value.nilFunc).run Try.prog w = .ok (.bool false) w := by
  have := eq_func Try.prog 9999 72 _ _ _ (.func 46) #[] #[.pointer (some ⟨b, 0, none⟩)] w Try.underlying72
  have h : (Op.equal 72 (.func (.func 46) #[] #[.pointer (some ⟨b, 0, none⟩)]) .nilFunc).run Try.prog w = .ok false w := this
  simp [binOp, h]
end Go.Proofs.Ytijlnlcjlkanaaa.Sua
