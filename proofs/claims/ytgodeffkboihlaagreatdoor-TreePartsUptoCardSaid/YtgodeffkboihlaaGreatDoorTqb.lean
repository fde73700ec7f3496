/- Regions that draw and whose callees make memory: contracts and cells in the region's worlds. -/
import Derived.Test.YtgodeffkboihlaaGreatDoorDrw
import Derived.Test.YtgodeffkboihlaaGreatDoorTxi
set_option linter.unusedVariables false
namespace Go.Proofs.YtgodeffkboihlaaGreatDoor.Tqb
open Go.RowKit Go.Sort Tra Trb Trf Trd Tcn Trh Tha Nam Txa Tpr Tyq Txe Txg Txs Txi

/-- A callee's contract in the worlds of a region. -/
theorem reg {f : FuncId} {args : Array Value} {v : Value} {w : World} (h : ∀ W, Below w.heap.size w W → Calls Tryz.prog f args W fun e w' => e = .returned v ∧ Below W.heap.size W w') :
    Hid (∀ d os, Calls Tryz.prog f args (grow (redrawn w d) os) fun e w'' => e = .returned v ∧ ∃ p : Regrown, w'' = grow (redrawn w p.d) p.os) := fun d os => Calls.regrown_of (h _ (below_regrown w d os))
theorem same_below {f : FuncId} {args : Array Value} {v : Value} {W : World} (h : Calls Tryz.prog f args W fun e w' => e = .returned v ∧ W = w') : Calls Tryz.prog f args W fun e w' => e = .returned v ∧ Below W.heap.size W w' :=
  h.mono fun e w' ⟨he, hw⟩ => ⟨he, hw ▸ Below.refl _ _⟩
/-- Is a clause right, as far as its number, its shape and its block go? -/
def okB (P : Tr → Bool) (d : Nd) (ks : List Tr) : Bool := (d.n == 0 || d.n == 1) && (hasB false false true d && (decide (0 < ks.length) && blockT P (kn (ks.length - 1) ks)))
set_option maxHeartbeats 8000000 in
set_option maxRecDepth 100000 in
theorem clause_has (d : Nd) (ks : List Tr) (hF : Fit (.mk d ks)) (hn : d.n = 0 ∨ d.n = 1) (hh : hasB false false true d = false) (S : Nat → Prop) (b o q r : Nat) (w : World) (hA : At w S (.mk d ks) b o) :
    Calls Tryz.prog 144 #[.pointer (some ⟨b, o, none⟩), .pointer (some ⟨q, 0, none⟩), .pointer (some ⟨r, 0, none⟩)] w fun e w' => e = .returned (.bool false) ∧ Below w.heap.size w w' := by
  obtain ⟨a, c, hN⟩ := Nod.start hA
  have H := reg (w := w) (f := 24) (args := #[.pointer (some ⟨b, o, none⟩), .int .i64 4]) (v := .bool false) fun W hb => by
    obtain ⟨x0, x1, x2, x3, _⟩ := (hN.kept hb).cells
    have := same_below (has_4 d b o W x0 x1 x2 x3)
    rw [hh] at this; exact this
  obtain ⟨k, tx, n, ty, s4, s5, s6⟩ := d
  obtain ⟨c0, c1, c2, c3, c4, c5, c6, c7⟩ := hN.cells
  have g2 := cell_regrown c2
  have g7 := cell_regrown c7
  have hlt := hN.lt
  have hlen := fit_len hF
  clear hA hF hN hh
  simp only at hn
  rcases hn with rfl | rfl
  all_goals
    go_enter Tryz.func144, Tryz.ntmps144
    go_wp2_with fail
    refine wp_region_quiet_below (by kernel_rfl) (by kernel_rfl) ?_
    repeat (go_big_quiet_step (first | exact H.out _ _ | fail))
    refine wpQuiet_nil ?_
    intro w4 hw4
    have hb4 := Drw.cls_below (w := w) hw4
    clear hw4
    go_wp2
    go_ret
    exact ⟨rfl, hb4⟩
set_option maxHeartbeats 8000000 in
set_option maxRecDepth 100000 in
theorem clause_num (d : Nd) (ks : List Tr) (hn : d.n ≠ 0 ∧ d.n ≠ 1) (S : Nat → Prop) (b o q r : Nat) (w : World) (hA : At w S (.mk d ks) b o) :
    Calls Tryz.prog 144 #[.pointer (some ⟨b, o, none⟩), .pointer (some ⟨q, 0, none⟩), .pointer (some ⟨r, 0, none⟩)] w fun e w' => e = .returned (.bool false) ∧ Below w.heap.size w w' := by
  obtain ⟨a, c, hN⟩ := Nod.start hA
  obtain ⟨k, tx, n, ty, s4, s5, s6⟩ := d
  obtain ⟨c0, c1, c2, c3, c4, c5, c6, c7⟩ := hN.cells
  have g2 := cell_regrown c2
  have e0 : (n == 0) = false := beq_false_of_ne hn.1
  have e1 : (n == 1) = false := beq_false_of_ne hn.2
  have e2 : (n != 0) = true := by unfold bne; rw [e0]; rfl
  have e3 : (n != 1) = true := by unfold bne; rw [e1]; rfl
  clear hA hN hn
  go_enter Tryz.func144, Tryz.ntmps144
  go_wp2_with fail
  refine wp_region_quiet_below (by kernel_rfl) (by kernel_rfl) ?_
  repeat (go_big_quiet_step (fail))
  refine wpQuiet_nil ?_
  intro w4 hw4
  have hb4 := Drw.cls_below (w := w) hw4
  clear hw4
  go_wp2
  go_ret
  exact ⟨rfl, hb4⟩
set_option maxHeartbeats 8000000 in
set_option maxRecDepth 100000 in
theorem clause_none (d : Nd) (hn : d.n = 0 ∨ d.n = 1) (hh : hasB false false true d = true) (S : Nat → Prop) (b o q r : Nat) (w : World) (hA : At w S (.mk d []) b o) :
    Calls Tryz.prog 144 #[.pointer (some ⟨b, o, none⟩), .pointer (some ⟨q, 0, none⟩), .pointer (some ⟨r, 0, none⟩)] w fun e w' => e = .returned (.bool false) ∧ Below w.heap.size w w' := by
  obtain ⟨a, c, hN⟩ := Nod.start hA
  have H := reg (w := w) (f := 24) (args := #[.pointer (some ⟨b, o, none⟩), .int .i64 4]) (v := .bool true) fun W hb => by
    obtain ⟨x0, x1, x2, x3, _⟩ := (hN.kept hb).cells
    have := same_below (has_4 d b o W x0 x1 x2 x3)
    rw [hh] at this; exact this
  obtain ⟨k, tx, n, ty, s4, s5, s6⟩ := d
  obtain ⟨c0, c1, c2, c3, c4, c5, c6, c7⟩ := hN.cells
  have g2 := cell_regrown c2
  have g7 := cell_regrown c7
  have hlt := hN.lt
  clear hA hN hh
  simp only at hn
  rcases hn with rfl | rfl
  all_goals
    go_enter Tryz.func144, Tryz.ntmps144
    go_wp2_with fail
    refine wp_region_quiet_below (by kernel_rfl) (by kernel_rfl) ?_
    repeat (go_big_quiet_step (first | exact H.out _ _ | fail))
    refine wpQuiet_nil ?_
    intro w4 hw4
    have hb4 := Drw.cls_below (w := w) hw4
    clear hw4
    go_wp2
    go_ret
    exact ⟨rfl, hb4⟩
set_option maxHeartbeats 8000000 in
set_option maxRecDepth 100000 in
theorem clause_block (P : Tr → Bool) (d : Nd) (ks : List Tr) (m : Nat) (hm : ks.length = m + 1) (hF : Fit (.mk d ks)) (hn : d.n = 0 ∨ d.n = 1) (hh : hasB false false true d = true) (hbk : blockT P (kn m ks) = false) (ihb : Pays 38 (blockT P) (ks.getD m tr0)) (S : Nat → Prop) (b o q r : Nat) (w : World) (hA : At w S (.mk d ks) b o) :
    Calls Tryz.prog 144 #[.pointer (some ⟨b, o, none⟩), .pointer (some ⟨q, 0, none⟩), .pointer (some ⟨r, 0, none⟩)] w fun e w' => e = .returned (.bool false) ∧ Below w.heap.size w w' := by
  obtain ⟨a, c, hN⟩ := Nod.start hA
  have hlen := fit_len hF
  have hm1 : m < ks.length := by omega
  obtain ⟨kb, ko, rfl⟩ := kl_some hN.kl (by omega)
  have H := reg (w := w) (f := 24) (args := #[.pointer (some ⟨b, o, none⟩), .int .i64 4]) (v := .bool true) fun W hb => by
    obtain ⟨x0, x1, x2, x3, _⟩ := (hN.kept hb).cells
    have := same_below (has_4 d b o W x0 x1 x2 x3)
    rw [hh] at this; exact this
  have H2 := reg (w := w) (f := 38) (args := #[.pointer (some ⟨kb, ko + m * 8, none⟩)]) (v := .bool false) fun W hb => by
    have := ihb _ _ _ W (kl_at (hN.kept hb).kl hm1)
    rw [show ks.getD m tr0 = kn m ks from rfl, hbk] at this; exact this
  obtain ⟨k, tx, n, ty, s4, s5, s6⟩ := d
  obtain ⟨c0, c1, c2, c3, c4, c5, c6, c7⟩ := hN.cells
  obtain ⟨L, hL⟩ : ∃ L, ks.length = L := ⟨_, rfl⟩
  rw [hL] at c7 hm hlen
  have g2 := cell_regrown c2
  have g7 := cell_regrown c7
  have hlt := hN.lt
  have hz : ((L : Int) == 0) = false := beq_false_of_ne (by omega)
  have hw1 : IntKind.i64.wrap (m : Int) = (m : Int) := IntWalk.i64_in _ (by omega)
  have hsub : (L : Int) - 1 = (m : Int) := by omega
  have hlt2 : (m : Int) < (L : Int) := by omega
  have HM := Lib.hid hm
  have hm0 : (0 : Int) ≤ (m : Int) := by omega
  clear hA hF hN hh hbk ihb hm1 hm hL
  simp only at hn
  rcases hn with rfl | rfl
  all_goals
    go_enter Tryz.func144, Tryz.ntmps144
    go_wp2_with fail
    refine wp_region_quiet_below (by kernel_rfl) (by kernel_rfl) ?_
    repeat (go_big_quiet_step (first | exact H.out _ _ | exact H2.out _ _ | fail))
    refine wpQuiet_nil ?_
    intro w4 hw4
    have hb4 := Drw.cls_below (w := w) hw4
    clear hw4
    go_wp2
    go_ret
    exact ⟨rfl, hb4⟩
end Go.Proofs.YtgodeffkboihlaaGreatDoor.Tqb
