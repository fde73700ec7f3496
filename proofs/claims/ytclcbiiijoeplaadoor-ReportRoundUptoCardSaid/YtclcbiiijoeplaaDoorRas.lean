/- errors.As of nothing, and of a pointer of the asked type. -/
import Derived.Test.YtclcbiiijoeplaaDoorChecked
import Derived.WalkKit
import Derived.LaidEql
import Derived.Stop.Asserts
import Derived.RowKitTokens
import Derived.Lib.Hide
import Derived.Outline
import Derived.Below
set_option linter.unusedVariables false
namespace Go.Proofs.YtclcbiiijoeplaaDoor.Ras
open Go.RowKit Go.Extern.Stop Go.Stop Go.Extern

abbrev hdl (t : Nat) : Value := .pointer (some ⟨7, t, none⟩)
theorem vo (x : Addr) (w : World) : (ReflectliteValue.unpack (.iface 73 (.pointer (some x)))).run Tryd.prog w = .ok (.agg #[hdl 73, .pointer (some ⟨w.heap.size, 0, none⟩), .int .u64 150]) (w.alloc (.cells #[.pointer (some x)] 73)) := by kernel_rfl
theorem vo2 (x : Addr) (w : World) : (ReflectliteValue.unpack (.iface 71 (.pointer (some x)))).run Tryd.prog w = .ok (.agg #[hdl 71, .pointer (some ⟨w.heap.size, 0, none⟩), .int .u64 150]) (w.alloc (.cells #[.pointer (some x)] 71)) := by kernel_rfl
theorem ty (b : Addr) (w : World) : (ReflectliteValue.methodAny (ReflectliteValue.valueError "reflectlite.Value.Type" 0) (fun t _ _ _ => ReflectliteType.toType t) #[.agg #[hdl 73, .pointer (some b), .int .u64 150]]).run Tryd.prog w = .ok (.iface 109 (.agg #[hdl 73])) w := by kernel_rfl
theorem mK (h : Value) (w : World) : (Go.method 279 109 (.agg #[h]) "Kind").run Tryd.prog w = .ok (89, h) w := by kernel_rfl
theorem kd (w : World) : (ReflectliteType.abiMethod (fun t => (fun a : Nat => Value.int .u8 (a : Int)) <$> Rtype.kind t) #[hdl 73]).run Tryd.prog w = .ok (.int .u8 22) w := by kernel_rfl
theorem kd2 (w : World) : (ReflectliteType.abiMethod (fun t => (fun a : Nat => Value.int .u8 (a : Int)) <$> Rtype.kind t) #[hdl 71]).run Tryd.prog w = .ok (.int .u8 22) w := by kernel_rfl
theorem mE (h : Value) (w : World) : (Go.method 279 109 (.agg #[h]) "Elem").run Tryd.prog w = .ok (101, .agg #[h]) w := by kernel_rfl
theorem el (w : World) : (ReflectliteType.method ReflectliteType.elem #[.agg #[hdl 73]]).run Tryd.prog w = .ok (.iface 109 (.agg #[hdl 71])) w := by kernel_rfl
theorem mI (h : Value) (w : World) : (Go.method 279 109 (.agg #[h]) "Implements").run Tryd.prog w = .ok (102, .agg #[h]) w := by kernel_rfl
theorem im (w : World) : (ReflectliteType.relation "Implements" ReflectliteType.implements_ #[.agg #[hdl 71], .iface 109 (.agg #[hdl 60])]).run Tryd.prog w = .ok (.bool true) w := by kernel_rfl
theorem mA (h : Value) (w : World) : (Go.method 279 109 (.agg #[h]) "AssignableTo").run Tryd.prog w = .ok (99, .agg #[h]) w := by kernel_rfl
theorem at_ (w : World) : (ReflectliteType.relation "AssignableTo" ReflectliteType.assignableTo #[.agg #[hdl 71], .iface 109 (.agg #[hdl 71])]).run Tryd.prog w = .ok (.bool true) w := by kernel_rfl
theorem to (v : Value) (w : World) : (ReflectliteType.typeOf #[.iface 71 v]).run Tryd.prog w = .ok (.iface 109 (.agg #[hdl 71])) w := by kernel_rfl
theorem pts (t : Nat) (b : Addr) (w : World) (h : t = 73 ∨ t = 71) : (ReflectliteValue.parts (.agg #[hdl t, .pointer (some b), .int .u64 150])).run Tryd.prog w = .ok (some (t, b, 150)) w := by
  rcases h with rfl | rfl <;> kernel_rfl
theorem isn (b : Nat) (x : Addr) (w : World) (hb : w.heap[b]? = some (.cells #[.pointer (some x)] 73)) :
    (ReflectliteValue.method (ReflectliteValue.valueError "reflectlite.Value.IsNil" 0) ReflectliteValue.isNil #[.agg #[hdl 73, .pointer (some ⟨b, 0, none⟩), .int .u64 150]]).run Tryd.prog w = .ok (.bool false) w := by
  have h1 := pts 73 ⟨b, 0, none⟩ w (.inl rfl)
  have h2 : w.cell? ⟨b, 0, none⟩ = some (.pointer (some x)) := by simp [World.cell?, hb]
  change Sem.run Tryd.prog ((ReflectliteValue.parts (.agg #[hdl 73, .pointer (some ⟨b, 0, none⟩), .int .u64 150])) >>= fun r => match r with
    | none => ReflectliteValue.valueError "reflectlite.Value.IsNil" 0
    | some (t, a, fl) => ReflectliteValue.isNil t a fl (fl % 32)) w = _
  simp [ReflectliteValue.isNil, h1, h2, go_sem]
theorem pts2 (b : Addr) (w : World) : (ReflectliteValue.parts (.agg #[hdl 71, .pointer (some b), .int .u64 406])).run Tryd.prog w = .ok (some (71, b, 406)) w := by kernel_rfl
theorem elm (b : Nat) (x : Addr) (w : World) (hb : w.heap[b]? = some (.cells #[.pointer (some x)] 73)) :
    (ReflectliteValue.method (ReflectliteValue.valueError "reflectlite.Value.Elem" 0) ReflectliteValue.elem #[.agg #[hdl 73, .pointer (some ⟨b, 0, none⟩), .int .u64 150]]).run Tryd.prog w = .ok (.agg #[hdl 71, .pointer (some x), .int .u64 406]) w := by
  have h1 := pts 73 ⟨b, 0, none⟩ w (.inl rfl)
  have h2 : w.cell? ⟨b, 0, none⟩ = some (.pointer (some x)) := by simp [World.cell?, hb]
  have h3 : (Rtype.elem? 73).run Tryd.prog w = .ok (some 71) w := by kernel_rfl
  have h4 : (ReflectliteValue.mk 71 x ReflectliteValue.flagAddr).run Tryd.prog w = .ok (.agg #[hdl 71, .pointer (some x), .int .u64 406]) w := by kernel_rfl
  change Sem.run Tryd.prog ((ReflectliteValue.parts (.agg #[hdl 73, .pointer (some ⟨b, 0, none⟩), .int .u64 150])) >>= fun r => match r with
    | none => ReflectliteValue.valueError "reflectlite.Value.Elem" 0
    | some (t, a, fl) => ReflectliteValue.elem t a fl (fl % 32)) w = _
  simp [ReflectliteValue.elem, h1, go_sem, h2, h3, h4]
theorem stt (x b : Nat) (a : Addr) (w : World) (hx : w.heap[x]? = some (.cells #[.pointer none] 71)) (hb : w.heap[b]? = some (.cells #[.pointer (some a)] 71)) :
    (ReflectliteValue.set #[.agg #[hdl 71, .pointer (some ⟨x, 0, none⟩), .int .u64 406], .agg #[hdl 71, .pointer (some ⟨b, 0, none⟩), .int .u64 150]]).run Tryd.prog w = .ok (.tuple #[]) (w.setCell ⟨x, 0, none⟩ (.pointer (some a))) := by
  have h1 := pts2 ⟨x, 0, none⟩ w
  have h2 := pts 71 ⟨b, 0, none⟩ w (.inr rfl)
  have h3 : w.cell? ⟨b, 0, none⟩ = some (.pointer (some a)) := by simp [World.cell?, hb]
  have h4 : w.cell? ⟨x, 0, none⟩ = some (.pointer none) := by simp [World.cell?, hx]
  have h5 : w.frozen? ⟨x, 0, none⟩ = false := by simp [World.frozen?, hx]
  have h6 : (Rtype.directlyAssignable 71 71).run Tryd.prog w = .ok true w := by kernel_rfl
  change Sem.run Tryd.prog ((ReflectliteValue.parts (.agg #[hdl 71, .pointer (some ⟨x, 0, none⟩), .int .u64 406])) >>= fun v => (ReflectliteValue.parts (.agg #[hdl 71, .pointer (some ⟨b, 0, none⟩), .int .u64 150])) >>= fun y => _) w = _
  simp [h1, h2, go_sem, h3, h4, h5, h6, ReflectliteValue.flagAddr]
/-- errors.As of nil. -/
theorem as_nil (x : Value) (w : World) : Calls Tryd.prog 27 #[.nilIface, x] w fun e w' => e = .returned (.bool false) ∧ w = w' := by
  go_enter Tryd.func27, Tryd.ntmps27
  go_wp2
  go_ret
  exact ⟨rfl, rfl⟩
set_option maxHeartbeats 2000000 in
set_option maxRecDepth 100000 in
theorem as_in (a x b : Nat) (w : World) (hb : w.heap[b]? = some (.cells #[.pointer (some ⟨x, 0, none⟩)] 73)) (hx : w.heap[x]? = some (.cells #[.pointer none] 71)) :
    Calls Tryd.prog 39 #[.iface 71 (.pointer (some ⟨a, 0, none⟩)), .iface 73 (.pointer (some ⟨x, 0, none⟩)), .agg #[hdl 73, .pointer (some ⟨b, 0, none⟩), .int .u64 150], .iface 109 (.agg #[hdl 71])] w
      fun e w' => e = .returned (.bool true) ∧ ∃ w5, Below w.heap.size w w5 ∧ w' = w5.setCell ⟨x, 0, none⟩ (.pointer (some ⟨a, 0, none⟩)) := by
  have h36 := @run_callFunc_extern Tryd.prog 36 _ (fun args => ReflectliteValue.unpack (args.getD 0 (.tuple #[]))) Tryd.func36 (by kernel_rfl) (by kernel_rfl) (by kernel_rfl) (by kernel_rfl)
  have h48 := @run_callFunc_extern Tryd.prog 48 _ ReflectliteType.typeOf Tryd.func48 (by kernel_rfl) (by kernel_rfl) (by kernel_rfl) (by kernel_rfl)
  have h49 := @run_callFunc_extern Tryd.prog 49 _ (ReflectliteValue.method (ReflectliteValue.valueError "reflectlite.Value.Elem" 0) ReflectliteValue.elem) Tryd.func49 (by kernel_rfl) (by kernel_rfl) (by kernel_rfl) (by kernel_rfl)
  have h50 := @run_callFunc_extern Tryd.prog 50 _ ReflectliteValue.set Tryd.func50 (by kernel_rfl) (by kernel_rfl) (by kernel_rfl) (by kernel_rfl)
  have h99 := @run_callFunc_extern Tryd.prog 99 _ (ReflectliteType.relation "AssignableTo" ReflectliteType.assignableTo) Tryd.func99 (by kernel_rfl) (by kernel_rfl) (by kernel_rfl) (by kernel_rfl)
  have vo2 := vo2
  have mA := mA
  have at_ := at_
  have to := to
  have k1 : Below w.heap.size w (w.alloc (.cells #[hdl 73, .pointer (some ⟨b, 0, none⟩), .int .u64 150] 91)) := (Below.refl _ w).alloc (Nat.le_refl _) _
  have k2 : Below w.heap.size w ((w.alloc (.cells #[hdl 73, .pointer (some ⟨b, 0, none⟩), .int .u64 150] 91)).alloc (.cells #[.pointer (some ⟨a, 0, none⟩)] 71)) := k1.alloc (by simp) _
  have el := elm b ⟨x, 0, none⟩ _ ((k1.block b (Array.getElem?_eq_some_iff.1 hb).1).trans hb)
  have hn := heap_alloc_new (w.alloc (.cells #[hdl 73, .pointer (some ⟨b, 0, none⟩), .int .u64 150] 91)) (.cells #[.pointer (some ⟨a, 0, none⟩)] 71)
  have hz : (w.alloc (.cells #[hdl 73, .pointer (some ⟨b, 0, none⟩), .int .u64 150] 91)).heap.size = w.heap.size + 1 := by simp
  rw [hz] at hn
  have st := stt x (w.heap.size + 1) ⟨a, 0, none⟩ _ ((k2.block x (Array.getElem?_eq_some_iff.1 hx).1).trans hx) hn
  have HK := Lib.hid k2
  clear k1 k2 hn hz hb hx
  go_enter Tryd.func39, Tryd.ntmps39
  go_wp2
  refine wp_loop_rounds 1 ?_
  rw [rounds_succ]
  go_wp2
  go_ret
  exact ⟨rfl, _, HK.out, rfl⟩
set_option maxHeartbeats 2000000 in
set_option maxRecDepth 100000 in
theorem as_lacks (a x : Nat) (w : World) (hx : w.heap[x]? = some (.cells #[.pointer none] 71)) (he : w.cell? ⟨0, 0, none⟩ = some (.iface 109 (.agg #[hdl 60]))) :
    Calls Tryd.prog 27 #[.iface 71 (.pointer (some ⟨a, 0, none⟩)), .iface 73 (.pointer (some ⟨x, 0, none⟩))] w fun e w' => e = .returned (.bool true) ∧ ∃ w5, Below w.heap.size w w5 ∧ w' = w5.setCell ⟨x, 0, none⟩ (.pointer (some ⟨a, 0, none⟩)) := by
  have h36 := @run_callFunc_extern Tryd.prog 36 _ (fun args => ReflectliteValue.unpack (args.getD 0 (.tuple #[]))) Tryd.func36 (by kernel_rfl) (by kernel_rfl) (by kernel_rfl) (by kernel_rfl)
  have h37 := @run_callFunc_extern Tryd.prog 37 _ (ReflectliteValue.methodAny (ReflectliteValue.valueError "reflectlite.Value.Type" 0) fun t _ _ _ => ReflectliteType.toType t) Tryd.func37 (by kernel_rfl) (by kernel_rfl) (by kernel_rfl) (by kernel_rfl)
  have h89 := @run_callFunc_extern Tryd.prog 89 _ (ReflectliteType.abiMethod fun t => do pure (.int .u8 (← Rtype.kind t))) Tryd.func89 (by kernel_rfl) (by kernel_rfl) (by kernel_rfl) (by kernel_rfl)
  have h38 := @run_callFunc_extern Tryd.prog 38 _ (ReflectliteValue.method (ReflectliteValue.valueError "reflectlite.Value.IsNil" 0) ReflectliteValue.isNil) Tryd.func38 (by kernel_rfl) (by kernel_rfl) (by kernel_rfl) (by kernel_rfl)
  have h101 := @run_callFunc_extern Tryd.prog 101 _ (ReflectliteType.method ReflectliteType.elem) Tryd.func101 (by kernel_rfl) (by kernel_rfl) (by kernel_rfl) (by kernel_rfl)
  have h102 := @run_callFunc_extern Tryd.prog 102 _ (ReflectliteType.relation "Implements" ReflectliteType.implements_) Tryd.func102 (by kernel_rfl) (by kernel_rfl) (by kernel_rfl) (by kernel_rfl)
  have vo := vo
  have ty := ty
  have mK := mK
  have kd := kd
  have kd2 := kd2
  have mE := mE
  have el := el
  have mI := mI
  have im := im
  have isn := isn (w.heap.size) ⟨x, 0, none⟩ ((w.alloc (.cells #[.pointer (some ⟨x, 0, none⟩)] 73)).alloc (.cells #[hdl 73, .pointer (some ⟨w.heap.size, 0, none⟩), .int .u64 150] 91)) ((heap_alloc_old _ _ (by simp)).trans (heap_alloc_new w _))
  have hz0 : 0 < w.heap.size := by
    rcases Nat.eq_zero_or_pos w.heap.size with h | h
    · unfold World.cell? at he
      rw [Array.getElem?_eq_none (by show w.heap.size ≤ 0; omega)] at he
      simp at he
    · exact h
  have k2 : Below w.heap.size w ((w.alloc (.cells #[.pointer (some ⟨x, 0, none⟩)] 73)).alloc (.cells #[hdl 73, .pointer (some ⟨w.heap.size, 0, none⟩), .int .u64 150] 91)) := ((Below.refl _ w).alloc (Nat.le_refl _) _).alloc (by simp) _
  have he2 := (k2.cell (p := ⟨0, 0, none⟩) hz0).trans he
  have hq := Lib.hid k2
  clear k2
  go_enter Tryd.func27, Tryd.ntmps27
  go_wp2_with fail
  refine (as_in a x w.heap.size _ ((heap_alloc_old _ _ (by simp)).trans (heap_alloc_new w _)) ((hq.out.block x (Array.getElem?_eq_some_iff.1 hx).1).trans hx)).mono ?_
  rintro e w9 ⟨rfl, w5, hb5, rfl⟩
  have HK := Lib.hid (hq.out.trans (hb5.mono hq.out.size))
  clear hb5
  go_wp2
  go_ret
  exact ⟨rfl, _, HK.out, rfl⟩
end Go.Proofs.YtclcbiiijoeplaaDoor.Ras
