/- alive: the live question. -/
import Derived.Test.YtgodeffkboihlaaGreatDoorTha
import Derived.Lib.UnsafeStr
set_option linter.unusedVariables false
namespace Go.Proofs.YtgodeffkboihlaaGreatDoor.Tav
open Go.RowKit Tra Trb Trf Trd Tcn Trh Tha

theorem below_drewN {B : Nat} {a w : World} (h : Below B a w) (n : Nat) : Below B a (w.drewN n) := ⟨h.os, h.tape, h.output, h.size, h.block⟩
set_option maxHeartbeats 4000000 in
set_option maxRecDepth 100000 in
theorem string_fresh (b : Nat) (w : World) (hc : w.cell? ⟨b, 1, none⟩ = some (.slice none 0 0)) :
    Calls Tryz.prog 29 #[.pointer (some ⟨b, 0, none⟩)] w fun e w' => e = .returned (.string .empty) ∧ Below w.heap.size w w' := by
  have h1 := fun (ts : Array TypeId) (ty : TypeId) (W : World) => Lib.run_unsafeSliceData_nil (P := Tryz.prog) (w := W) ts ty 0 0
  have h2 := fun (pt it ty : TypeId) (p : Option Addr) (W : World) => Lib.run_unsafeString_none (P := Tryz.prog) (w := W) pt it ty p
  go_enter Tryz.func29, Tryz.ntmps29
  go_wp2_with fail
  go_quiet (fail)
  go_wp2
  go_ret
  exact ⟨rfl, below_drewN (Below.refl _ _) _⟩
def ndK (k : Int) : Nd := ⟨k, .empty, 0, .empty, 0, 0, 0⟩
theorem lies_leaf (d : Nd) (w : World) : Lies w (fun _ => True) (.mk d []) (d.val none 0 0) := .mk d [] none 0 (fun _ => nd0) (fun _ => none) (fun _ => 0) (fun _ => 0) (Nat.le_refl _) (.inl rfl) (fun j hj => absurd hj (by simp))
theorem fit_leaf (k : Int) (h : Trb.In64 k) : Fit (.mk (ndK k) []) := by
  refine .mk _ [] ⟨h, ?_, ?_, ?_, ?_, ?_, ?_⟩ (by simp) (fun j hj => absurd hj (by simp)) <;> first | (unfold Trb.In64 ndK; simp only; omega) | (show ByteArray.size ByteArray.empty ≤ _; decide)
theorem depth_leaf (k : Int) (hk : Trb.In64 k) (m : Nat) (hm : (m : Int) ≤ 9223372036854775807) (w : World) : Calls Tryz.prog 13 #[(ndK k).val none 0 0, .int .i64 m] w fun e w' => e = .returned (.int .i64 1) ∧ Below w.heap.size w w' := by
  have := depth_any (.mk (ndK k) []) m _ _ w (lies_leaf _ w) (fit_leaf k hk) hm (by simp [depth, depths])
  have e : min (depth (.mk (ndK k) [])) (m + 1) = 1 := by simp [depth, depths]
  rw [e] at this; exact this
theorem all_none (w : World) : Calls Tryz.prog 25 #[.slice none 0 0, .func (.func 26) #[] #[]] w fun e w' => e = .returned (.bool true) ∧ Below w.heap.size w w' := by
  have := all_any [] none 0 26 #[] (enters_of Tryz.func26 (by kernel_rfl) rfl) (fun _ => True) w (fun _ => true) (by simp) (.inl rfl) (fun j hj => absurd hj (by simp))
  exact this
set_option maxHeartbeats 4000000 in
set_option maxRecDepth 100000 in
theorem right_file (w : World) : Calls Tryz.prog 10 #[(ndK 1).val none 0 0] w fun e w' => e = .returned (.int .i64 0) ∧ Below w.heap.size w w' := by
  have hd := fun W => depth_leaf 1 (by unfold Trb.In64; omega) 40 (by omega) W
  have HD := Lib.hid hd
  clear hd
  unfold ndK at HD ⊢
  have HB := Lib.hid (box_below w (ndK 1) none 0 0)
  go_enter Tryz.func10, Tryz.ntmps10
  go_wp2_with fail
  refine (HD.out _).mono ?_
  rintro e w1 ⟨rfl, hb1⟩
  have hz := hb1.size
  simp only [World.size_alloc] at hz
  have hc := box_cell w (ndK 1) none 0 0 hb1
  have c0 := hc 0 (by omega)
  have c1 := hc 1 (by omega)
  have c2 := hc 2 (by omega)
  have c3 := hc 3 (by omega)
  have c7 := hc 7 (by omega)
  simp only [List.getElem?_cons_succ, List.getElem?_cons_zero, ndK] at c0 c1 c2 c3 c7
  have hh := has_0 (ndK 1) w.heap.size 0 w1 c0 c1 c2 c3
  have e1 : hasB false false false (ndK 1) = true := by kernel_rfl
  rw [e1] at hh
  have HH := Lib.hid hh
  have HB1 := Lib.hid (HB.out.trans (hb1.mono HB.out.size))
  clear hh e1 hc hb1
  go_wp2_with fail
  refine HH.out.mono ?_
  rintro e w2 ⟨rfl, rfl⟩
  go_wp2_with fail
  refine (all_none _).mono ?_
  rintro e w2 ⟨rfl, hb2⟩
  have HB2 := Lib.hid (HB1.out.trans (hb2.mono HB1.out.size))
  clear hb2
  go_wp2
  go_ret
  exact ⟨rfl, HB2.out⟩
set_option maxHeartbeats 4000000 in
set_option maxRecDepth 100000 in
theorem right_none (w : World) : Calls Tryz.prog 10 #[(ndK 0).val none 0 0] w fun e w' => e = .returned (.int .i64 41) ∧ Below w.heap.size w w' := by
  have hd := fun W => depth_leaf 0 (by unfold Trb.In64; omega) 40 (by omega) W
  have HD := Lib.hid hd
  clear hd
  unfold ndK at HD ⊢
  have HB := Lib.hid (box_below w (ndK 0) none 0 0)
  go_enter Tryz.func10, Tryz.ntmps10
  go_wp2_with fail
  refine (HD.out _).mono ?_
  rintro e w1 ⟨rfl, hb1⟩
  have c0 := box_cell w (ndK 0) none 0 0 hb1 0 (by omega)
  simp only [List.getElem?_cons_zero, ndK] at c0
  have HB1 := Lib.hid (HB.out.trans (hb1.mono HB.out.size))
  clear hb1
  go_wp2
  go_ret
  exact ⟨rfl, HB1.out⟩
set_option maxHeartbeats 4000000 in
set_option maxRecDepth 100000 in
theorem text_file (w : World) : Calls Tryz.prog 11 #[(ndK 1).val none 0 0] w fun e w' => e = .returned (.tuple #[.string .empty, .int .i64 0]) ∧ Below w.heap.size w w' := by
  have HR := Lib.hid (fun W => right_file W)
  unfold ndK at HR ⊢
  have HB := Lib.hid (box_below w (ndK 1) none 0 0)
  go_enter Tryz.func11, Tryz.ntmps11
  go_wp2_with fail
  refine (HR.out _).mono ?_
  rintro e w1 ⟨rfl, hb1⟩
  have c7 := box_cell w (ndK 1) none 0 0 hb1 7 (by omega)
  simp only [List.getElem?_cons_succ, List.getElem?_cons_zero, ndK] at c7
  have hz := hb1.size
  simp only [World.size_alloc] at hz
  have hz2 : w.heap.size < w1.heap.size := by omega
  have HB1 := Lib.hid (HB.out.trans (hb1.mono HB.out.size))
  clear hb1 hz
  go_wp2_with fail
  go_loopw [20] (fun i wr => ∃ k : Nat, k = 0 ∧ i = .int .i64 k ∧ wr = w1.alloc (.cells #[.pointer none, .slice none 0 0, .int .i64 0] 50)) (fun _ _ => 0)
  case atStart => exact ⟨0, rfl, rfl, rfl⟩
  case round =>
    obtain ⟨k, rfl, rfl, rfl⟩ := hrel
    have HS := Lib.hid (string_fresh w1.heap.size (w1.alloc (.cells #[.pointer none, .slice none 0 0, .int .i64 0] 50)) (by simp))
    have HB2 := Lib.hid (HB1.out.alloc HB1.out.size (.cells #[.pointer none, .slice none 0 0, .int .i64 0] 50))
    go_wp2_with fail
    refine HS.out.mono ?_
    rintro e w2 ⟨rfl, hb2⟩
    have HB3 := Lib.hid (HB2.out.trans (hb2.mono HB2.out.size))
    clear hb2
    go_wp2
    go_ret2
    exact ⟨rfl, HB3.out⟩
set_option maxHeartbeats 4000000 in
set_option maxRecDepth 100000 in
theorem alive_any (w : World) : Calls Tryz.prog 7 #[] w fun e w' => e = .returned (.bool true) ∧ Below w.heap.size w w' := by
  have HT := Lib.hid (fun W => text_file W)
  have HR := Lib.hid (fun W => right_file W)
  have HN := Lib.hid (fun W => right_none W)
  have HD := Lib.hid (fun W => depth_leaf 1 (by unfold Trb.In64; omega) 5 (by omega) W)
  have HB := Lib.hid (box_below w (ndK 1) none 0 0)
  unfold ndK at HT HR HN HD
  go_enter Tryz.func7, Tryz.ntmps7
  go_wp2_with fail
  refine (HT.out _).mono ?_
  rintro e w1 ⟨rfl, hb1⟩
  have step : ∀ W, Below (box w (ndK 1) none 0 0).heap.size (box w (ndK 1) none 0 0) W → W.cell? ⟨w.heap.size, 0, none⟩ = some (.int .i64 1) ∧ W.cell? ⟨w.heap.size, 1, none⟩ = some (.string .empty) ∧ W.cell? ⟨w.heap.size, 2, none⟩ = some (.int .i64 0) ∧ W.cell? ⟨w.heap.size, 3, none⟩ = some (.string .empty) ∧ W.cell? ⟨w.heap.size, 4, none⟩ = some (.int .i64 0) ∧ W.cell? ⟨w.heap.size, 5, none⟩ = some (.int .i64 0) ∧ W.cell? ⟨w.heap.size, 6, none⟩ = some (.int .i64 0) ∧ W.cell? ⟨w.heap.size, 7, none⟩ = some (.slice none 0 0) := by
    intro W hb
    have hc := box_cell w (ndK 1) none 0 0 hb
    exact ⟨hc 0 (by omega), hc 1 (by omega), hc 2 (by omega), hc 3 (by omega), hc 4 (by omega), hc 5 (by omega), hc 6 (by omega), hc 7 (by omega)⟩
  have ST := Lib.hid step
  clear step
  obtain ⟨c0, c1, c2, c3, c4, c5, c6, c7⟩ := ST.out _ hb1
  have HB1 := Lib.hid hb1
  clear hb1
  go_wp2_with fail
  refine (HR.out _).mono ?_
  rintro e w2 ⟨rfl, hb2⟩
  have HB2 := Lib.hid (HB1.out.trans (hb2.mono HB1.out.size))
  clear hb2 c0 c1 c2 c3 c4 c5 c6 c7
  go_wp2_with fail
  refine (HN.out _).mono ?_
  rintro e w3 ⟨rfl, hb3⟩
  have HB3 := Lib.hid (HB2.out.trans (hb3.mono HB2.out.size))
  clear hb3
  obtain ⟨c0, c1, c2, c3, c4, c5, c6, c7⟩ := ST.out _ HB3.out
  go_wp2_with fail
  refine (HD.out _).mono ?_
  rintro e w4 ⟨rfl, hb4⟩
  have HB4 := Lib.hid (HB3.out.trans (hb4.mono HB3.out.size))
  clear hb4
  go_wp2
  go_ret
  exact ⟨rfl, HB.out.trans (HB4.out.mono HB.out.size)⟩
end Go.Proofs.YtgodeffkboihlaaGreatDoor.Tav
